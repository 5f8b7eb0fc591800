/- Rails: where a ramp is, how long it takes: the program's and the reference's, walked, by classes. -/
import Derived.Test.YtbbjnhajmckjoaaFlo
namespace Go.Proofs.Ytbbjnhajmckjoaa
open Go.RowKit Go.BigFrame flt Ieee

def gec (a b : Option Nat) : Bool := ord a b == some .gt || ord a b == some .eq
def gtc (a b : Option Nat) : Bool := ord a b == some .gt
def ltc (a b : Option Nat) : Bool := ord a b == some .lt
def eqc (a b : Option Nat) : Bool := ord a b == some .eq
def absc (a : Option Nat) : Option Nat := a.map rung
theorem cls_abs (x : Nat) : cls (rung x) = absc (cls x) := by
  obtain ⟨h1, -⟩ := cls_rung x
  cases hx : cls x with
  | none =>
    rw [hx] at h1
    rw [Option.isNone_iff_eq_none.1 h1]
    rfl
  | some a =>
    obtain ⟨rfl, hn⟩ := cls_some hx
    exact cls_nn (nn_rung hn)
def badr (f t r u : Option Nat) : Bool := !(isFin f && isFin t && isFin r && isFin u) || ltc r (some 0) || ltc u (some 0)
def atc (f t r u : Option Nat) : Option Nat :=
  if badr f t r u then none else if gec (op2 .mul r u) (absc (op2 .sub t f)) then t else if gtc t f then op2 .add f (op2 .mul r u) else op2 .sub f (op2 .mul r u)
theorem cls_nan : cls 9221120237041090561 = none := by decide +kernel
set_option maxHeartbeats 8000000 in
set_option maxRecDepth 100000 in
theorem at_any (f t r u : Nat) (w : World) :
    Calls Try.prog 36 #[.float .f64 f, .float .f64 t, .float .f64 r, .float .f64 u] w fun e w' => ∃ z, e = .returned (.float .f64 z) ∧ cls z = atc (cls f) (cls t) (cls r) (cls u) ∧ Below w.heap.size w w' := by
  obtain ⟨FM, GM, hm, cm⟩ := veil (op := .mul) (Or.inr (Or.inr (Or.inl rfl))) 86
  obtain ⟨FS, GS, hs, cs⟩ := veil (op := .sub) (Or.inr (Or.inl rfl)) 86
  obtain ⟨FA, GA, ha, ca⟩ := veil (op := .add) (Or.inl rfl) 86
  have hx := heap_alloc_at w (.cells #[.float .f64 f, .float .f64 t, .float .f64 r, .float .f64 u] 87)
  have KF := fun (X : World) (g : Nat) (T : TypeId) (hX : X.heap[g]? = some (.cells #[.float .f64 f, .float .f64 t, .float .f64 r, .float .f64 u] T)) => finite_any g 4 [f, t, r, u] X (by simp) (fun i h => by
    rw [cell_of_row _ _ i _ T (0, 0) hX]
    match i, h with
    | 0, _ => rfl
    | 1, _ => rfl
    | 2, _ => rfl
    | 3, _ => rfl)
  have hall : ([f, t, r, u].all fun x => isFin (cls x)) = (isFin (cls f) && isFin (cls t) && isFin (cls r) && isFin (cls u)) := by simp [Bool.and_assoc]
  rw [hall] at KF
  simp only [List.length_cons, List.length_nil] at KF
  have H1 : ∀ w1 w2, (FloatKind.f64.format.order (FM r u w1) (rung (FS t f w2)) == some .gt || FloatKind.f64.format.order (FM r u w1) (rung (FS t f w2)) == some .eq) = gec (op2 .mul (cls r) (cls u)) (absc (op2 .sub (cls t) (cls f))) := fun w1 w2 => by
    have e := order_cls (FM r u w1) (rung (FS t f w2))
    rw [cls_abs, cm, cs] at e
    rw [show FloatKind.f64.format.order (FM r u w1) (rung (FS t f w2)) = _ from e]
    rfl
  have H2 : (FloatKind.f64.format.order t f == some .gt) = gtc (cls t) (cls f) := by rw [show FloatKind.f64.format.order t f = _ from order_cls t f]; rfl
  have H3 : (FloatKind.f64.format.order r 0 == some .lt) = ltc (cls r) (some 0) := by rw [order_z]; rfl
  have H4 : (FloatKind.f64.format.order u 0 == some .lt) = ltc (cls u) (some 0) := by rw [order_z]; rfl
  have E : Hid (∀ (z : Nat), True → atc (cls f) (cls t) (cls r) (cls u) = atc (cls f) (cls t) (cls r) (cls u)) := Lib.hid fun _ _ => rfl
  obtain ⟨T, hT⟩ : ∃ T, atc (cls f) (cls t) (cls r) (cls u) = T := ⟨_, rfl⟩
  have hT' := hT
  unfold atc badr at hT'
  replace hT := Lib.hid hT
  generalize (isFin (cls f) && isFin (cls t) && isFin (cls r) && isFin (cls u)) = bf at *
  generalize gec (op2 .mul (cls r) (cls u)) (absc (op2 .sub (cls t) (cls f))) = b1 at *
  generalize gtc (cls t) (cls f) = b2 at *
  generalize ltc (cls r) (some 0) = b3 at *
  generalize ltc (cls u) (some 0) = b4 at *
  replace cm := Lib.hid cm
  replace cs := Lib.hid cs
  replace ca := Lib.hid ca
  replace hT' := Lib.hid hT'
  clear E
  have hB := Lib.hid (below_al (Below.refl w.heap.size w) (.cells #[.float .f64 f, .float .f64 t, .float .f64 r, .float .f64 u] 86))
  clear hx
  cases bf with
  | false =>
    clear H1 H2 H3 H4 hm hs ha
    go_enter Try.func36, Try.ntmps36
    go_wp2_with (first
      | (go_at_call 58; (with_reducible refine (KF _ _ _ (heap_alloc_at _ _)).mono ?_); rintro e w1 ⟨rfl, rfl⟩)
      | (go_at_call 42; (with_reducible refine (nan_lit _).mono ?_); rintro e w1 ⟨rfl, rfl⟩))
    go_ret
    exact ⟨_, rfl, by rw [cls_nan, hT.out, ← hT'.out]; rfl, hB.out⟩
  | true =>
    cases b3 with
    | true =>
      clear H1 H2 H4 hm hs ha
      go_enter Try.func36, Try.ntmps36
      go_wp2_with (first
        | (go_at_call 58; (with_reducible refine (KF _ _ _ (heap_alloc_at _ _)).mono ?_); rintro e w1 ⟨rfl, rfl⟩)
        | (go_at_call 42; (with_reducible refine (nan_lit _).mono ?_); rintro e w1 ⟨rfl, rfl⟩))
      go_ret
      exact ⟨_, rfl, by rw [cls_nan, hT.out, ← hT'.out]; rfl, hB.out⟩
    | false =>
      cases b4 with
      | true =>
        clear H1 H2 hm hs ha
        go_enter Try.func36, Try.ntmps36
        go_wp2_with (first
          | (go_at_call 58; (with_reducible refine (KF _ _ _ (heap_alloc_at _ _)).mono ?_); rintro e w1 ⟨rfl, rfl⟩)
          | (go_at_call 42; (with_reducible refine (nan_lit _).mono ?_); rintro e w1 ⟨rfl, rfl⟩))
        go_ret
        exact ⟨_, rfl, by rw [cls_nan, hT.out, ← hT'.out]; rfl, hB.out⟩
      | false =>
        cases b1 with
        | true =>
          clear H2 ha
          go_enter Try.func36, Try.ntmps36
          go_wp2_with (first
            | (go_at_call 58; (with_reducible refine (KF _ _ _ (heap_alloc_at _ _)).mono ?_); rintro e w1 ⟨rfl, rfl⟩)
            | (go_at_call 43; (with_reducible refine (abs_any _ _).mono ?_); rintro e w1 ⟨rfl, rfl⟩))
          go_ret
          exact ⟨_, rfl, by rw [hT.out, ← hT'.out]; rfl, by first | exact below_drewN' hB.out _ | exact below_drewN' (below_drewN' hB.out _) _⟩
        | false =>
          cases b2 with
          | true =>
            go_enter Try.func36, Try.ntmps36
            go_wp2_with (first
              | (go_at_call 58; (with_reducible refine (KF _ _ _ (heap_alloc_at _ _)).mono ?_); rintro e w1 ⟨rfl, rfl⟩)
              | (go_at_call 43; (with_reducible refine (abs_any _ _).mono ?_); rintro e w1 ⟨rfl, rfl⟩))
            go_ret
            exact ⟨_, rfl, by rw [hT.out, ← hT'.out, ca.out, cm.out]; rfl, by first | exact below_drewN' hB.out _ | exact below_drewN' (below_drewN' hB.out _) _ | exact below_drewN' (below_drewN' (below_drewN' hB.out _) _) _⟩
          | false =>
            go_enter Try.func36, Try.ntmps36
            go_wp2_with (first
              | (go_at_call 58; (with_reducible refine (KF _ _ _ (heap_alloc_at _ _)).mono ?_); rintro e w1 ⟨rfl, rfl⟩)
              | (go_at_call 43; (with_reducible refine (abs_any _ _).mono ?_); rintro e w1 ⟨rfl, rfl⟩))
            go_ret
            exact ⟨_, rfl, by rw [hT.out, ← hT'.out, cs.out, cm.out]; rfl, by first | exact below_drewN' hB.out _ | exact below_drewN' (below_drewN' hB.out _) _ | exact below_drewN' (below_drewN' (below_drewN' hB.out _) _) _⟩
def stc (f t r : Option Nat) : Option Nat :=
  if !(isFin f && isFin t && isFin r) || ltc r (some 0) then none else if eqc f t then some 0 else if eqc r (some 0) then some 9218868437227405312 else op2 .quo (absc (op2 .sub t f)) r
theorem cls_inf : cls 9218868437227405312 = some 9218868437227405312 := by decide +kernel
theorem cls_zero : cls 0 = some 0 := cls_nn nn_zero
set_option maxHeartbeats 8000000 in
set_option maxRecDepth 100000 in
theorem settle_any (f t r : Nat) (w : World) :
    Calls Try.prog 38 #[.float .f64 f, .float .f64 t, .float .f64 r] w fun e w' => ∃ z, e = .returned (.float .f64 z) ∧ cls z = stc (cls f) (cls t) (cls r) ∧ Below w.heap.size w w' := by
  obtain ⟨FS, GS, hs, cs⟩ := veil (op := .sub) (Or.inr (Or.inl rfl)) 86
  obtain ⟨FQ, GQ, hq, cq⟩ := veil (op := .quo) (Or.inr (Or.inr (Or.inr rfl))) 86
  have KF := fun (X : World) (g : Nat) (T : TypeId) (hX : X.heap[g]? = some (.cells #[.float .f64 f, .float .f64 t, .float .f64 r] T)) => finite_any g 3 [f, t, r] X (by simp) (fun i h => by
    rw [cell_of_row _ _ i _ T (0, 0) hX]
    match i, h with
    | 0, _ => rfl
    | 1, _ => rfl
    | 2, _ => rfl)
  have hall : ([f, t, r].all fun x => isFin (cls x)) = (isFin (cls f) && isFin (cls t) && isFin (cls r)) := by simp [Bool.and_assoc]
  rw [hall] at KF
  simp only [List.length_cons, List.length_nil] at KF
  have H2 : (FloatKind.f64.format.order f t == some .eq) = eqc (cls f) (cls t) := by rw [show FloatKind.f64.format.order f t = _ from order_cls f t]; rfl
  have H3 : (FloatKind.f64.format.order r 0 == some .lt) = ltc (cls r) (some 0) := by rw [order_z]; rfl
  have H4 : (FloatKind.f64.format.order r 0 == some .eq) = eqc (cls r) (some 0) := by rw [order_z]; rfl
  obtain ⟨T, hT⟩ : ∃ T, stc (cls f) (cls t) (cls r) = T := ⟨_, rfl⟩
  have hT' := hT
  unfold stc at hT'
  replace hT := Lib.hid hT
  generalize (isFin (cls f) && isFin (cls t) && isFin (cls r)) = bf at *
  generalize eqc (cls f) (cls t) = b2 at *
  generalize ltc (cls r) (some 0) = b3 at *
  generalize eqc (cls r) (some 0) = b4 at *
  replace cs := Lib.hid cs
  replace cq := Lib.hid cq
  replace hT' := Lib.hid hT'
  have hB := Lib.hid (below_al (Below.refl w.heap.size w) (.cells #[.float .f64 f, .float .f64 t, .float .f64 r] 86))
  cases bf with
  | false =>
    clear H2 H3 H4 hs hq
    go_enter Try.func38, Try.ntmps38
    go_wp2_with (first
      | (go_at_call 58; (with_reducible refine (KF _ _ _ (heap_alloc_at _ _)).mono ?_); rintro e w1 ⟨rfl, rfl⟩)
      | (go_at_call 42; (with_reducible refine (nan_lit _).mono ?_); rintro e w1 ⟨rfl, rfl⟩))
    go_ret
    exact ⟨_, rfl, by rw [cls_nan, hT.out, ← hT'.out]; rfl, hB.out⟩
  | true =>
    cases b3 with
    | true =>
      clear H2 H4 hs hq
      go_enter Try.func38, Try.ntmps38
      go_wp2_with (first
        | (go_at_call 58; (with_reducible refine (KF _ _ _ (heap_alloc_at _ _)).mono ?_); rintro e w1 ⟨rfl, rfl⟩)
        | (go_at_call 42; (with_reducible refine (nan_lit _).mono ?_); rintro e w1 ⟨rfl, rfl⟩))
      go_ret
      exact ⟨_, rfl, by rw [cls_nan, hT.out, ← hT'.out]; rfl, hB.out⟩
    | false =>
      cases b2 with
      | true =>
        clear H4 hs hq
        go_enter Try.func38, Try.ntmps38
        go_wp2_with (go_at_call 58; (with_reducible refine (KF _ _ _ (heap_alloc_at _ _)).mono ?_); rintro e w1 ⟨rfl, rfl⟩)
        go_ret
        exact ⟨_, rfl, by rw [cls_zero, hT.out, ← hT'.out]; rfl, hB.out⟩
      | false =>
        cases b4 with
        | true =>
          clear hs hq
          go_enter Try.func38, Try.ntmps38
          go_wp2_with (first
            | (go_at_call 58; (with_reducible refine (KF _ _ _ (heap_alloc_at _ _)).mono ?_); rintro e w1 ⟨rfl, rfl⟩)
            | (go_at_call 60; (with_reducible refine (inf_lit _).mono ?_); rintro e w1 ⟨rfl, rfl⟩))
          go_ret
          exact ⟨_, rfl, by rw [cls_inf, hT.out, ← hT'.out]; rfl, hB.out⟩
        | false =>
          go_enter Try.func38, Try.ntmps38
          go_wp2_with (first
            | (go_at_call 58; (with_reducible refine (KF _ _ _ (heap_alloc_at _ _)).mono ?_); rintro e w1 ⟨rfl, rfl⟩)
            | (go_at_call 43; (with_reducible refine (abs_any _ _).mono ?_); rintro e w1 ⟨rfl, rfl⟩))
          go_ret
          exact ⟨_, rfl, by rw [hT.out, ← hT'.out, cq.out, cls_abs, cs.out]; rfl, by first | exact below_drewN' hB.out _ | exact below_drewN' (below_drewN' hB.out _) _⟩
end Go.Proofs.Ytbbjnhajmckjoaa
