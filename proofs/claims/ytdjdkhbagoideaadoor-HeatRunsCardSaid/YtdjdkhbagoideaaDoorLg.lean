/- Heat: a lag: whether it may be, the heat behind some seconds of power, what power leads to; the program's and the document's; walked. By classes: the floats may be anything. -/
import Derived.Test.YtdjdkhbagoideaaDoorNn0
import Derived.Test.YtdjdkhbagoideaaDoorCls
import Derived.Test.YtdjdkhbagoideaaDoorRf0
namespace Go.Proofs.YtdjdkhbagoideaaDoor
open Go.RowKit Go.BigFrame flt Ieee

/-- an operation, veiled: what it gives, how often it asks -/
theorem veil {op : BinOp} (ho : Ar op) (t : TypeId) : ∃ (F : Nat → Nat → World → Nat) (G : Nat → Nat → Nat), (∀ x y w, (binOp op t (.float .f64 x) (.float .f64 y)).run Tryd.prog w = .ok (.float .f64 (F x y w)) (w.drewN (G x y))) ∧ ∀ x y w, cls (F x y w) = op2 op (cls x) (cls y) :=
  ⟨fv op, fd op, fun x y w => run_arith ho t x y w, fun x y w => cls_op2 op x y w⟩
/-- may a lag be? -/
def okL (r c a : Nat) : Bool := ge r 4517329193108106637 && (le r 4696837146684686336 && (ge c 4517329193108106637 && (le c 4696837146684686336 && near a)))
def flowc (r c a x p s : Option Nat) : Option Nat := op2 .add x (op2 .mul s (op2 .quo (op2 .sub p (op2 .quo (op2 .sub x a) r)) c))
def endc (r a p : Option Nat) : Option Nat := op2 .add a (op2 .mul p r)
theorem below_dr {B : Nat} {w w' : World} (h : Below B w w') (n : Nat) : Below B w (w'.drewN n) := below_drewN' h n
set_option maxHeartbeats 2000000 in
theorem may_any (r c a : Nat) (W : World) : Calls Tryd.prog 31 #[.agg #[.float .f64 r, .float .f64 c, .float .f64 a]] W fun e w' => e = .returned (.bool (okL r c a)) ∧ Below W.heap.size W w' := by
  have K := near_any a
  obtain ⟨b1, h1⟩ : ∃ b, (FloatKind.f64.format.order r 4517329193108106637 == some .gt || FloatKind.f64.format.order r 4517329193108106637 == some .eq) = b := ⟨_, rfl⟩
  obtain ⟨b2, h2⟩ : ∃ b, (FloatKind.f64.format.order r 4696837146684686336 == some .lt || FloatKind.f64.format.order r 4696837146684686336 == some .eq) = b := ⟨_, rfl⟩
  obtain ⟨b3, h3⟩ : ∃ b, (FloatKind.f64.format.order c 4517329193108106637 == some .gt || FloatKind.f64.format.order c 4517329193108106637 == some .eq) = b := ⟨_, rfl⟩
  obtain ⟨b4, h4⟩ : ∃ b, (FloatKind.f64.format.order c 4696837146684686336 == some .lt || FloatKind.f64.format.order c 4696837146684686336 == some .eq) = b := ⟨_, rfl⟩
  have e : Hid (okL r c a = (b1 && (b2 && (b3 && (b4 && near a))))) := Lib.hid (by rw [← h1, ← h2, ← h3, ← h4]; rfl)
  rw [e.out]
  clear e
  generalize near a = nr at *
  have hb := below_al (Below.refl W.heap.size W) (.cells #[.float .f64 r, .float .f64 c, .float .f64 a] 42)
  cases b1
  · go_enter Tryd.func31, Tryd.ntmps31
    go_wp2
    go_ret
    exact ⟨rfl, hb⟩
  cases b2
  · go_enter Tryd.func31, Tryd.ntmps31
    go_wp2
    go_ret
    exact ⟨rfl, hb⟩
  cases b3
  · go_enter Tryd.func31, Tryd.ntmps31
    go_wp2
    go_ret
    exact ⟨rfl, hb⟩
  cases b4
  · go_enter Tryd.func31, Tryd.ntmps31
    go_wp2
    go_ret
    exact ⟨rfl, hb⟩
  · go_enter Tryd.func31, Tryd.ntmps31
    go_wp2_with (go_at_call 24; (with_reducible refine (K _).mono ?_); rintro e w1 ⟨rfl, rfl⟩)
    go_ret
    exact ⟨rfl, hb⟩
set_option maxHeartbeats 2000000 in
theorem rlag_any (r c a : Nat) (W : World) : Calls Tryd.prog 34 #[.agg #[.float .f64 r, .float .f64 c, .float .f64 a]] W fun e w' => e = .returned (.bool (okL r c a)) ∧ Below W.heap.size W w' := by
  have K := rnear_any a
  obtain ⟨b1, h1⟩ : ∃ b, (FloatKind.f64.format.order r 4517329193108106637 == some .gt || FloatKind.f64.format.order r 4517329193108106637 == some .eq) = b := ⟨_, rfl⟩
  obtain ⟨b2, h2⟩ : ∃ b, (FloatKind.f64.format.order r 4696837146684686336 == some .lt || FloatKind.f64.format.order r 4696837146684686336 == some .eq) = b := ⟨_, rfl⟩
  obtain ⟨b3, h3⟩ : ∃ b, (FloatKind.f64.format.order c 4517329193108106637 == some .gt || FloatKind.f64.format.order c 4517329193108106637 == some .eq) = b := ⟨_, rfl⟩
  obtain ⟨b4, h4⟩ : ∃ b, (FloatKind.f64.format.order c 4696837146684686336 == some .lt || FloatKind.f64.format.order c 4696837146684686336 == some .eq) = b := ⟨_, rfl⟩
  have e : Hid (okL r c a = (b1 && (b2 && (b3 && (b4 && near a))))) := Lib.hid (by rw [← h1, ← h2, ← h3, ← h4]; rfl)
  rw [e.out]
  clear e
  generalize near a = nr at *
  have hb := below_al (Below.refl W.heap.size W) (.cells #[.float .f64 r, .float .f64 c, .float .f64 a] 53)
  cases b1
  · go_enter Tryd.func34, Tryd.ntmps34
    go_wp2
    go_ret
    exact ⟨rfl, hb⟩
  cases b2
  · go_enter Tryd.func34, Tryd.ntmps34
    go_wp2
    go_ret
    exact ⟨rfl, hb⟩
  cases b3
  · go_enter Tryd.func34, Tryd.ntmps34
    go_wp2
    go_ret
    exact ⟨rfl, hb⟩
  cases b4
  · go_enter Tryd.func34, Tryd.ntmps34
    go_wp2
    go_ret
    exact ⟨rfl, hb⟩
  · go_enter Tryd.func34, Tryd.ntmps34
    go_wp2_with (go_at_call 35; (with_reducible refine (K _).mono ?_); rintro e w1 ⟨rfl, rfl⟩)
    go_ret
    exact ⟨rfl, hb⟩
set_option maxHeartbeats 2000000 in
theorem flow_any (r c a x p s : Nat) (W : World) : Calls Tryd.prog 32 #[.agg #[.float .f64 r, .float .f64 c, .float .f64 a], .float .f64 x, .float .f64 p, .float .f64 s] W fun e w' => ∃ z, e = .returned (.float .f64 z) ∧ cls z = flowc (cls r) (cls c) (cls a) (cls x) (cls p) (cls s) ∧ Below W.heap.size W w' := by
  obtain ⟨FM, GM, hm, cm⟩ := veil (op := .mul) (Or.inr (Or.inr (Or.inl rfl))) 23
  obtain ⟨FS, GS, hs, cs⟩ := veil (op := .sub) (Or.inr (Or.inl rfl)) 23
  obtain ⟨FA, GA, ha, ca⟩ := veil (op := .add) (Or.inl rfl) 23
  obtain ⟨FQ, GQ, hq, cq⟩ := veil (op := .quo) (Or.inr (Or.inr (Or.inr rfl))) 23
  have hb := below_al (Below.refl W.heap.size W) (.cells #[.float .f64 r, .float .f64 c, .float .f64 a] 42)
  go_enter Tryd.func32, Tryd.ntmps32
  go_wp2
  go_ret
  refine ⟨_, rfl, ?_, ?_⟩
  · rw [ca, cm, cq, cs, cq, cs]; rfl
  · repeat' apply below_dr
    exact hb
set_option maxHeartbeats 2000000 in
theorem rflow_any (r c a x p s : Nat) (W : World) : Calls Tryd.prog 37 #[.agg #[.float .f64 r, .float .f64 c, .float .f64 a], .float .f64 x, .float .f64 p, .float .f64 s] W fun e w' => ∃ z, e = .returned (.float .f64 z) ∧ cls z = flowc (cls r) (cls c) (cls a) (cls x) (cls p) (cls s) ∧ Below W.heap.size W w' := by
  obtain ⟨FM, GM, hm, cm⟩ := veil (op := .mul) (Or.inr (Or.inr (Or.inl rfl))) 23
  obtain ⟨FS, GS, hs, cs⟩ := veil (op := .sub) (Or.inr (Or.inl rfl)) 23
  obtain ⟨FA, GA, ha, ca⟩ := veil (op := .add) (Or.inl rfl) 23
  obtain ⟨FQ, GQ, hq, cq⟩ := veil (op := .quo) (Or.inr (Or.inr (Or.inr rfl))) 23
  have hb := below_al (Below.refl W.heap.size W) (.cells #[.float .f64 r, .float .f64 c, .float .f64 a] 53)
  go_enter Tryd.func37, Tryd.ntmps37
  go_wp2
  go_ret
  refine ⟨_, rfl, ?_, ?_⟩
  · rw [ca, cm, cq, cs, cq, cs]; rfl
  · repeat' apply below_dr
    exact hb
end Go.Proofs.YtdjdkhbagoideaaDoor

/- Heat: Next, Settled, Reading: the program's and the document's, walked. -/
namespace Go.Proofs.YtdjdkhbagoideaaDoor
open Go.RowKit Go.BigFrame flt Ieee

def okA (x p s : Nat) : Bool := near x && (near p && seconds s)
def nextE (l o : Bool) : Int := if l then (if o then 0 else 1) else 270
def nextZ (l o : Bool) (z : Option Nat) : Option Nat := if l && o then z else some 0
theorem cls_zero : cls 0 = some 0 := cls_nn nn_zero
set_option maxHeartbeats 4000000 in
theorem next_any (r c a x p s : Nat) (W : World) : Calls Tryd.prog 10 #[.agg #[.float .f64 r, .float .f64 c, .float .f64 a], .float .f64 x, .float .f64 p, .float .f64 s] W fun e w' => ∃ z, e = .returned (.tuple #[.float .f64 z, .int .i64 (nextE (okL r c a) (okA x p s))]) ∧ cls z = nextZ (okL r c a) (okA x p s) (flowc (cls r) (cls c) (cls a) (cls x) (cls p) (cls s)) ∧ Below W.heap.size W w' := by
  have KM := fun X => may_any r c a X
  have KX := near_any x
  have KP := near_any p
  have KF := fun X => flow_any r c a x p s X
  obtain ⟨b1, h1⟩ : ∃ b, (FloatKind.f64.format.order s 0 == some .gt) = b := ⟨_, rfl⟩
  obtain ⟨b2, h2⟩ : ∃ b, (FloatKind.f64.format.order s 4696837146684686336 == some .lt || FloatKind.f64.format.order s 4696837146684686336 == some .eq) = b := ⟨_, rfl⟩
  have e : Hid (seconds s = (b1 && b2)) := Lib.hid (by rw [← h1, ← h2]; rfl)
  unfold okA
  rw [e.out]
  clear e
  have hx := heap_alloc_at W (.cells #[.float .f64 r, .float .f64 c, .float .f64 a] 42)
  have hb := below_al (Below.refl W.heap.size W) (.cells #[.float .f64 r, .float .f64 c, .float .f64 a] 42)
  generalize okL r c a = ol at *
  generalize near x = nx at *
  generalize near p = np at *
  generalize flowc (cls r) (cls c) (cls a) (cls x) (cls p) (cls s) = fl at *
  have hz : cls 0 = some 0 := cls_zero
  cases ol with
  | false =>
    go_enter Tryd.func10, Tryd.ntmps10
    go_wp2_with (first
      | (refine wpList_load_row rfl 42 _ rfl W.heap.size rfl 42 _ (0, 0) _ hx Tryd.underlying42 rfl (by kernel_rfl) ?_)
      | (go_at_call 31; (with_reducible refine (KM _).mono ?_); rintro e w1 ⟨rfl, hb1⟩))
    go_ret2
    exact ⟨_, rfl, hz, hb.trans (hb1.mono hb.size)⟩
  | true =>
    cases nx with
    | false =>
      go_enter Tryd.func10, Tryd.ntmps10
      go_wp2_with (first
        | (refine wpList_load_row rfl 42 _ rfl W.heap.size rfl 42 _ (0, 0) _ hx Tryd.underlying42 rfl (by kernel_rfl) ?_)
        | (go_at_call 31; (with_reducible refine (KM _).mono ?_); rintro e w1 ⟨rfl, hb1⟩)
        | (go_at_call 24; (with_reducible refine (KX _).mono ?_); rintro e wq ⟨rfl, rfl⟩))
      go_ret2
      exact ⟨_, rfl, hz, hb.trans (hb1.mono hb.size)⟩
    | true =>
      cases np with
      | false =>
        go_enter Tryd.func10, Tryd.ntmps10
        go_wp2_with (first
          | (refine wpList_load_row rfl 42 _ rfl W.heap.size rfl 42 _ (0, 0) _ hx Tryd.underlying42 rfl (by kernel_rfl) ?_)
          | (go_at_call 31; (with_reducible refine (KM _).mono ?_); rintro e w1 ⟨rfl, hb1⟩)
          | (go_at_call 24; (with_reducible refine (KX _).mono ?_); rintro e wq ⟨rfl, rfl⟩)
          | (go_at_call 24; (with_reducible refine (KP _).mono ?_); rintro e wq ⟨rfl, rfl⟩))
        go_ret2
        exact ⟨_, rfl, hz, hb.trans (hb1.mono hb.size)⟩
      | true =>
        cases b1 with
        | false =>
          go_enter Tryd.func10, Tryd.ntmps10
          go_wp2_with (first
            | (refine wpList_load_row rfl 42 _ rfl W.heap.size rfl 42 _ (0, 0) _ hx Tryd.underlying42 rfl (by kernel_rfl) ?_)
            | (go_at_call 31; (with_reducible refine (KM _).mono ?_); rintro e w1 ⟨rfl, hb1⟩)
            | (go_at_call 24; (with_reducible refine (KX _).mono ?_); rintro e wq ⟨rfl, rfl⟩)
            | (go_at_call 24; (with_reducible refine (KP _).mono ?_); rintro e wq ⟨rfl, rfl⟩))
          go_ret2
          exact ⟨_, rfl, hz, hb.trans (hb1.mono hb.size)⟩
        | true =>
          cases b2 with
          | false =>
            go_enter Tryd.func10, Tryd.ntmps10
            go_wp2_with (first
              | (refine wpList_load_row rfl 42 _ rfl W.heap.size rfl 42 _ (0, 0) _ hx Tryd.underlying42 rfl (by kernel_rfl) ?_)
              | (go_at_call 31; (with_reducible refine (KM _).mono ?_); rintro e w1 ⟨rfl, hb1⟩)
              | (go_at_call 24; (with_reducible refine (KX _).mono ?_); rintro e wq ⟨rfl, rfl⟩)
              | (go_at_call 24; (with_reducible refine (KP _).mono ?_); rintro e wq ⟨rfl, rfl⟩))
            go_ret2
            exact ⟨_, rfl, hz, hb.trans (hb1.mono hb.size)⟩
          | true =>
            go_enter Tryd.func10, Tryd.ntmps10
            go_wp2_with (first
              | (refine wpList_load_row rfl 42 _ rfl W.heap.size rfl 42 _ (0, 0) _ hx Tryd.underlying42 rfl (by kernel_rfl) ?_)
              | (go_at_call 31; (with_reducible refine (KM _).mono ?_); rintro e w1 ⟨rfl, hb1⟩; have hx1 := (hb1.block _ (heap_lt hx)).trans hx)
              | (go_at_call 24; (with_reducible refine (KX _).mono ?_); rintro e wq ⟨rfl, rfl⟩)
              | (go_at_call 24; (with_reducible refine (KP _).mono ?_); rintro e wq ⟨rfl, rfl⟩)
              | (refine wpList_load_row rfl 42 _ rfl W.heap.size rfl 42 _ (0, 0) _ hx1 Tryd.underlying42 rfl (by kernel_rfl) ?_)
              | (go_at_call 32; (with_reducible refine (KF _).mono ?_); rintro e w2 ⟨z, rfl, hcz, hb2⟩))
            go_ret2
            have h1 := hb.trans (hb1.mono hb.size)
            exact ⟨_, rfl, hcz, h1.trans (hb2.mono h1.size)⟩
set_option maxHeartbeats 4000000 in
theorem rnext_any (r c a x p s : Nat) (W : World) : Calls Tryd.prog 15 #[.agg #[.float .f64 r, .float .f64 c, .float .f64 a], .float .f64 x, .float .f64 p, .float .f64 s] W fun e w' => ∃ z, e = .returned (.tuple #[.float .f64 z, .int .i64 (nextE (okL r c a) (okA x p s))]) ∧ cls z = nextZ (okL r c a) (okA x p s) (flowc (cls r) (cls c) (cls a) (cls x) (cls p) (cls s)) ∧ Below W.heap.size W w' := by
  have KM := fun X => rlag_any r c a X
  have KX := rnear_any x
  have KP := rnear_any p
  have KS := rsecs_any s
  have KF := fun X => rflow_any r c a x p s X
  unfold okA
  have hx := heap_alloc_at W (.cells #[.float .f64 r, .float .f64 c, .float .f64 a] 53)
  have hb := below_al (Below.refl W.heap.size W) (.cells #[.float .f64 r, .float .f64 c, .float .f64 a] 53)
  generalize okL r c a = ol at *
  generalize near x = nx at *
  generalize near p = np at *
  generalize seconds s = ns at *
  generalize flowc (cls r) (cls c) (cls a) (cls x) (cls p) (cls s) = fl at *
  have hz : cls 0 = some 0 := cls_zero
  cases ol with
  | false =>
    go_enter Tryd.func15, Tryd.ntmps15
    go_wp2_with (first
      | (refine wpList_load_row rfl 53 _ rfl W.heap.size rfl 53 _ (0, 0) _ hx Tryd.underlying53 rfl (by kernel_rfl) ?_)
      | (go_at_call 34; (with_reducible refine (KM _).mono ?_); rintro e w1 ⟨rfl, hb1⟩))
    go_ret2
    exact ⟨_, rfl, hz, hb.trans (hb1.mono hb.size)⟩
  | true =>
    have key : ∀ (q : Bool), (nx && (np && ns)) = q → q = false → Calls Tryd.prog 15 #[.agg #[.float .f64 r, .float .f64 c, .float .f64 a], .float .f64 x, .float .f64 p, .float .f64 s] W fun e w' => ∃ z, e = .returned (.tuple #[.float .f64 z, .int .i64 1]) ∧ cls z = some 0 ∧ Below W.heap.size W w' := by
      intro q hq hf
      rw [hf] at hq
      cases nx
      · go_enter Tryd.func15, Tryd.ntmps15
        go_wp2_with (first
          | (refine wpList_load_row rfl 53 _ rfl W.heap.size rfl 53 _ (0, 0) _ hx Tryd.underlying53 rfl (by kernel_rfl) ?_)
          | (go_at_call 34; (with_reducible refine (KM _).mono ?_); rintro e w1 ⟨rfl, hb1⟩)
          | (go_at_call 35; (with_reducible refine (KX _).mono ?_); rintro e wq ⟨rfl, rfl⟩))
        go_ret2
        exact ⟨_, rfl, hz, hb.trans (hb1.mono hb.size)⟩
      cases np
      · go_enter Tryd.func15, Tryd.ntmps15
        go_wp2_with (first
          | (refine wpList_load_row rfl 53 _ rfl W.heap.size rfl 53 _ (0, 0) _ hx Tryd.underlying53 rfl (by kernel_rfl) ?_)
          | (go_at_call 34; (with_reducible refine (KM _).mono ?_); rintro e w1 ⟨rfl, hb1⟩)
          | (go_at_call 35; (with_reducible refine (KX _).mono ?_); rintro e wq ⟨rfl, rfl⟩)
          | (go_at_call 35; (with_reducible refine (KP _).mono ?_); rintro e wq ⟨rfl, rfl⟩))
        go_ret2
        exact ⟨_, rfl, hz, hb.trans (hb1.mono hb.size)⟩
      cases ns
      · go_enter Tryd.func15, Tryd.ntmps15
        go_wp2_with (first
          | (refine wpList_load_row rfl 53 _ rfl W.heap.size rfl 53 _ (0, 0) _ hx Tryd.underlying53 rfl (by kernel_rfl) ?_)
          | (go_at_call 34; (with_reducible refine (KM _).mono ?_); rintro e w1 ⟨rfl, hb1⟩)
          | (go_at_call 35; (with_reducible refine (KX _).mono ?_); rintro e wq ⟨rfl, rfl⟩)
          | (go_at_call 35; (with_reducible refine (KP _).mono ?_); rintro e wq ⟨rfl, rfl⟩)
          | (go_at_call 36; (with_reducible refine (KS _).mono ?_); rintro e wq ⟨rfl, rfl⟩))
        go_ret2
        exact ⟨_, rfl, hz, hb.trans (hb1.mono hb.size)⟩
      · cases hq
    by_cases hq : (nx && (np && ns)) = true
    · rw [hq]
      have e1 : nx = true := by cases nx; exact absurd hq (by simp); rfl
      subst e1
      have e2 : np = true := by cases np; exact absurd hq (by simp); rfl
      subst e2
      have e3 : ns = true := by cases ns; exact absurd hq (by simp); rfl
      subst e3
      clear hq key
      go_enter Tryd.func15, Tryd.ntmps15
      go_wp2_with (first
        | (refine wpList_load_row rfl 53 _ rfl W.heap.size rfl 53 _ (0, 0) _ hx Tryd.underlying53 rfl (by kernel_rfl) ?_)
        | (go_at_call 34; (with_reducible refine (KM _).mono ?_); rintro e w1 ⟨rfl, hb1⟩; have hx1 := (hb1.block _ (heap_lt hx)).trans hx)
        | (go_at_call 35; (with_reducible refine (KX _).mono ?_); rintro e wq ⟨rfl, rfl⟩)
        | (go_at_call 35; (with_reducible refine (KP _).mono ?_); rintro e wq ⟨rfl, rfl⟩)
        | (go_at_call 36; (with_reducible refine (KS _).mono ?_); rintro e wq ⟨rfl, rfl⟩)
        | (refine wpList_load_row rfl 53 _ rfl W.heap.size rfl 53 _ (0, 0) _ hx1 Tryd.underlying53 rfl (by kernel_rfl) ?_)
        | (go_at_call 37; (with_reducible refine (KF _).mono ?_); rintro e w2 ⟨z, rfl, hcz, hb2⟩))
      go_ret2
      have h1 := hb.trans (hb1.mono hb.size)
      exact ⟨_, rfl, hcz, h1.trans (hb2.mono h1.size)⟩
    · have hq' : (nx && (np && ns)) = false := by simpa using hq
      rw [hq']
      exact key _ rfl hq'
set_option maxHeartbeats 4000000 in
theorem settled_any (r c a p : Nat) (W : World) : Calls Tryd.prog 16 #[.agg #[.float .f64 r, .float .f64 c, .float .f64 a], .float .f64 p] W fun e w' => ∃ z, e = .returned (.tuple #[.float .f64 z, .int .i64 (nextE (okL r c a) (near p))]) ∧ cls z = nextZ (okL r c a) (near p) (endc (cls r) (cls a) (cls p)) ∧ Below W.heap.size W w' := by
  have KM := fun X => may_any r c a X
  have KP := near_any p
  obtain ⟨FM, GM, hm, cm⟩ := veil (op := .mul) (Or.inr (Or.inr (Or.inl rfl))) 23
  obtain ⟨FA, GA, ha, ca⟩ := veil (op := .add) (Or.inl rfl) 23
  have hx := heap_alloc_at W (.cells #[.float .f64 r, .float .f64 c, .float .f64 a] 42)
  have hb := below_al (Below.refl W.heap.size W) (.cells #[.float .f64 r, .float .f64 c, .float .f64 a] 42)
  generalize okL r c a = ol at *
  generalize near p = np at *
  have hz : cls 0 = some 0 := cls_zero
  cases ol with
  | false =>
    go_enter Tryd.func16, Tryd.ntmps16
    go_wp2_with (first
      | (refine wpList_load_row rfl 42 _ rfl W.heap.size rfl 42 _ (0, 0) _ hx Tryd.underlying42 rfl (by kernel_rfl) ?_)
      | (go_at_call 31; (with_reducible refine (KM _).mono ?_); rintro e w1 ⟨rfl, hb1⟩))
    go_ret2
    exact ⟨_, rfl, hz, hb.trans (hb1.mono hb.size)⟩
  | true =>
    cases np with
    | false =>
      go_enter Tryd.func16, Tryd.ntmps16
      go_wp2_with (first
        | (refine wpList_load_row rfl 42 _ rfl W.heap.size rfl 42 _ (0, 0) _ hx Tryd.underlying42 rfl (by kernel_rfl) ?_)
        | (go_at_call 31; (with_reducible refine (KM _).mono ?_); rintro e w1 ⟨rfl, hb1⟩)
        | (go_at_call 24; (with_reducible refine (KP _).mono ?_); rintro e wq ⟨rfl, rfl⟩))
      go_ret2
      exact ⟨_, rfl, hz, hb.trans (hb1.mono hb.size)⟩
    | true =>
      go_enter Tryd.func16, Tryd.ntmps16
      go_wp2_with (first
        | (refine wpList_load_row rfl 42 _ rfl W.heap.size rfl 42 _ (0, 0) _ hx Tryd.underlying42 rfl (by kernel_rfl) ?_)
        | (go_at_call 31; (with_reducible refine (KM _).mono ?_); rintro e w1 ⟨rfl, hb1⟩; have hx1 := (hb1.block _ (heap_lt hx)).trans hx; have c0 : w1.cell? ⟨W.heap.size, 0, none⟩ = some (.float .f64 r) := (by rw [cell_of_row _ _ 0 _ 42 (0, 0) hx1]; rfl); have c2 : w1.cell? ⟨W.heap.size, 2, none⟩ = some (.float .f64 a) := (by rw [cell_of_row _ _ 2 _ 42 (0, 0) hx1]; rfl))
        | (go_at_call 24; (with_reducible refine (KP _).mono ?_); rintro e wq ⟨rfl, rfl⟩))
      go_ret2
      refine ⟨_, rfl, ?_, below_dr (hb.trans (hb1.mono hb.size)) _⟩
      rw [ca, cm]; rfl
set_option maxHeartbeats 4000000 in
theorem rsettled_any (r c a p : Nat) (W : World) : Calls Tryd.prog 17 #[.agg #[.float .f64 r, .float .f64 c, .float .f64 a], .float .f64 p] W fun e w' => ∃ z, e = .returned (.tuple #[.float .f64 z, .int .i64 (nextE (okL r c a) (near p))]) ∧ cls z = nextZ (okL r c a) (near p) (endc (cls r) (cls a) (cls p)) ∧ Below W.heap.size W w' := by
  have KM := fun X => rlag_any r c a X
  have KP := rnear_any p
  obtain ⟨FM, GM, hm, cm⟩ := veil (op := .mul) (Or.inr (Or.inr (Or.inl rfl))) 23
  obtain ⟨FA, GA, ha, ca⟩ := veil (op := .add) (Or.inl rfl) 23
  have hx := heap_alloc_at W (.cells #[.float .f64 r, .float .f64 c, .float .f64 a] 53)
  have hb := below_al (Below.refl W.heap.size W) (.cells #[.float .f64 r, .float .f64 c, .float .f64 a] 53)
  generalize okL r c a = ol at *
  generalize near p = np at *
  have hz : cls 0 = some 0 := cls_zero
  cases ol with
  | false =>
    go_enter Tryd.func17, Tryd.ntmps17
    go_wp2_with (first
      | (refine wpList_load_row rfl 53 _ rfl W.heap.size rfl 53 _ (0, 0) _ hx Tryd.underlying53 rfl (by kernel_rfl) ?_)
      | (go_at_call 34; (with_reducible refine (KM _).mono ?_); rintro e w1 ⟨rfl, hb1⟩))
    go_ret2
    exact ⟨_, rfl, hz, hb.trans (hb1.mono hb.size)⟩
  | true =>
    cases np with
    | false =>
      go_enter Tryd.func17, Tryd.ntmps17
      go_wp2_with (first
        | (refine wpList_load_row rfl 53 _ rfl W.heap.size rfl 53 _ (0, 0) _ hx Tryd.underlying53 rfl (by kernel_rfl) ?_)
        | (go_at_call 34; (with_reducible refine (KM _).mono ?_); rintro e w1 ⟨rfl, hb1⟩)
        | (go_at_call 35; (with_reducible refine (KP _).mono ?_); rintro e wq ⟨rfl, rfl⟩))
      go_ret2
      exact ⟨_, rfl, hz, hb.trans (hb1.mono hb.size)⟩
    | true =>
      go_enter Tryd.func17, Tryd.ntmps17
      go_wp2_with (first
        | (refine wpList_load_row rfl 53 _ rfl W.heap.size rfl 53 _ (0, 0) _ hx Tryd.underlying53 rfl (by kernel_rfl) ?_)
        | (go_at_call 34; (with_reducible refine (KM _).mono ?_); rintro e w1 ⟨rfl, hb1⟩; have hx1 := (hb1.block _ (heap_lt hx)).trans hx; have c0 : w1.cell? ⟨W.heap.size, 0, none⟩ = some (.float .f64 r) := (by rw [cell_of_row _ _ 0 _ 53 (0, 0) hx1]; rfl); have c2 : w1.cell? ⟨W.heap.size, 2, none⟩ = some (.float .f64 a) := (by rw [cell_of_row _ _ 2 _ 53 (0, 0) hx1]; rfl))
        | (go_at_call 35; (with_reducible refine (KP _).mono ?_); rintro e wq ⟨rfl, rfl⟩))
      go_ret2
      refine ⟨_, rfl, ?_, below_dr (hb.trans (hb1.mono hb.size)) _⟩
      rw [ca, cm]; rfl
set_option maxHeartbeats 400000 in
theorem rreading_any (m : Int) (w : World) : Calls Tryd.prog 19 #[.int .i64 m] w fun e w' => e = .returned (.float .f64 (reads m)) ∧ Drawn w w' := by
  have HR : Hid (reads m = if (milli m).2 then flt.fdiv (floatOfInt .f64 (milli m).1) 4652007308841189376 else 9221120237041090561) := Lib.hid rfl
  generalize reads m = R at *
  have K8 := nan_none
  have KM := rmilli_any m w
  have h1 := flt.div_some (flt.nn_ofInt (milli m).1) read_1000 (by decide)
  generalize hn : (milli m).1 = n at *
  generalize hb : (milli m).2 = b at *
  have r1 := fun w : World => run_float_arith (P := Tryd.prog) w .quo 23 .f64 _ _ _ h1.1
  have HR' := HR.out
  clear h1 hn hb HR
  cases b with
  | true =>
    simp only [if_true] at HR'
    subst HR'
    go_enter Tryd.func19, Tryd.ntmps19
    go_wp2_with (go_at_call 39; (with_reducible refine (KM).mono ?_); rintro e w1 ⟨rfl, hd⟩)
    go_ret
    exact ⟨rfl, hd⟩
  | false =>
    simp only [Bool.false_eq_true, if_false] at HR'
    subst HR'
    go_enter Tryd.func19, Tryd.ntmps19
    go_wp2_with (first
      | (go_at_call 39; (with_reducible refine (KM).mono ?_); rintro e w1 ⟨rfl, hd⟩)
      | (go_at_call 8; (with_reducible refine (K8 _).mono ?_); rintro e wq ⟨rfl, rfl⟩))
    go_ret
    exact ⟨rfl, hd⟩
end Go.Proofs.YtdjdkhbagoideaaDoor
