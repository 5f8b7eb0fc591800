/- Rails: what follows targets with a lag: the program's and the reference's, walked, by classes. -/
import Derived.Test.YtbbjnhajmckjoaaRmp
import Derived.Test.YtbbjnhajmckjoaaMem4
namespace Go.Proofs.Ytbbjnhajmckjoaa
open Go.RowKit Go.BigFrame flt Ieee

def flrow (x : Nat) : List Value := [.float .f64 x]
def Fls (w : World) (A : Option Addr) (l : List Nat) : Prop := Sl (fun _ => True) w A 1 (l.map flrow)
theorem Fls.at_ {w : World} {A : Option Addr} {l : List Nat} (h : Fls w A l) {k : Nat} (hk : k < l.length) :
    ∃ b o, A = some ⟨b, o, none⟩ ∧ b < w.heap.size ∧ w.cell? ⟨b, o + k, none⟩ = some (.float .f64 l[k]) := by
  obtain ⟨b, o, e, _, hl, hc⟩ := Sl.at_ h (k := k) (by simpa using hk)
  refine ⟨b, o, e, hl, ?_⟩
  have := hc 0 _ (show _ = some (.float .f64 l[k]) by simp [flrow])
  rw [Nat.mul_one, Nat.add_zero] at this
  exact this
theorem Fls.le {w : World} {A : Option Addr} {l : List Nat} (h : Fls w A l) : l.length ≤ 9223372036854775807 := by
  have := Sl.le h; simpa using this
theorem Fls.below {w w' : World} {A : Option Addr} {l : List Nat} (h : Fls w A l) (d : Below w.heap.size w w') : Fls w' A l := Sl.below' h d
theorem Own.fls {w : World} {B : Nat} {e : TypeId} {l : List Nat} {v : Value} (h : Own w B e 1 (l.map flrow) v) : ∃ A c, v = .slice A l.length c ∧ Fls w A l ∧ l.length ≤ c := by
  obtain ⟨A, c, e1, hs⟩ := h.sl
  rw [List.length_map] at e1
  refine ⟨A, c, e1, hs.mono fun _ _ => trivial, ?_⟩
  rcases h.1.2 with ⟨h1, h2⟩ | ⟨g, cap, cur, h1, _, _, h3, _⟩
  · rw [List.length_map] at h2; omega
  · rw [List.length_map] at h1 h3
    have : c = cap := by rw [e1] at h1; exact (Value.slice.inj h1).2.2
    omega
theorem elt87 : Elt Try.prog 87 86 1 8 := Elt.of (z := .float .f64 0) Try.underlying87 (by kernel_rfl) rfl (by decide) (by decide)
def lagv (sh v t : Option Nat) : Option Nat := if isFin t && isFin v then op2 .add v (op2 .mul sh (op2 .sub t v)) else v
def lagl (sh : Option Nat) : Option Nat → List (Option Nat) → List (Option Nat)
  | _, [] => []
  | v, t :: ts => lagv sh v t :: lagl sh (lagv sh v t) ts
def lage (sh : Option Nat) : Option Nat → List (Option Nat) → Option Nat
  | v, [] => v
  | v, t :: ts => lage sh (lagv sh v t) ts
theorem lag_snoc (sh : Option Nat) : ∀ (ts : List (Option Nat)) (v t : Option Nat), lage sh v (ts ++ [t]) = lagv sh (lage sh v ts) t ∧ lagl sh v (ts ++ [t]) = lagl sh v ts ++ [lagv sh (lage sh v ts) t]
  | [], _, _ => ⟨rfl, rfl⟩
  | x :: ts, v, t => by
    obtain ⟨h1, h2⟩ := lag_snoc sh ts (lagv sh v x) t
    exact ⟨h1, by rw [List.cons_append]; show _ :: _ = _ :: _ ++ _; rw [h2]; rfl⟩
theorem lag_step (sh v : Option Nat) (ts : List Nat) {k : Nat} (hk : k < ts.length) :
    lage sh v ((ts.take (k + 1)).map cls) = lagv sh (lage sh v ((ts.take k).map cls)) (cls ts[k]) ∧ lagl sh v ((ts.take (k + 1)).map cls) = lagl sh v ((ts.take k).map cls) ++ [lagv sh (lage sh v ((ts.take k).map cls)) (cls ts[k])] := by
  rw [← List.take_append_getElem hk, List.map_append]
  exact lag_snoc sh _ v (cls ts[k])
def lec (a b : Option Nat) : Bool := ord a b == some .lt || ord a b == some .eq
def lagno (sh : Option Nat) (n : Nat) : Bool := !(gtc sh (some 0) && lec sh (some 4607182418800017408)) || decide (4096 < n)
theorem order_o (x : Nat) : FloatKind.f64.format.order x 4607182418800017408 = ord (cls x) (some 4607182418800017408) := by
  have e := order_cls x 4607182418800017408
  rw [show cls 4607182418800017408 = some 4607182418800017408 by decide +kernel] at e
  exact e
set_option maxHeartbeats 8000000 in
set_option maxRecDepth 100000 in
theorem lag_any (v sh : Nat) (ts : List Nat) (A : Option Addr) (c : Nat) (w : World) (h : Fls w A ts) :
    Calls Try.prog 40 #[.float .f64 v, .slice A ts.length c, .float .f64 sh] w fun e w' => ∃ (x : Value) (zs : List Nat), e = .returned (.tuple #[x, .int .i64 (if lagno (cls sh) ts.length then 1 else 0)]) ∧
      zs.map cls = (if lagno (cls sh) ts.length then [] else lagl (cls sh) (cls v) (ts.map cls)) ∧ Own w' w.heap.size 86 1 (zs.map flrow) x ∧ Below w.heap.size w w' := by
  have H1 : (FloatKind.f64.format.order sh 0 == some .gt) = gtc (cls sh) (some 0) := by rw [order_z]; rfl
  have H2 : (FloatKind.f64.format.order sh 4607182418800017408 == some .lt || FloatKind.f64.format.order sh 4607182418800017408 == some .eq) = lec (cls sh) (some 4607182418800017408) := by rw [order_o]; rfl
  obtain ⟨N, hN⟩ : ∃ N, lagno (cls sh) ts.length = N := ⟨_, rfl⟩
  have hN' := hN
  rw [hN]
  unfold lagno at hN'
  have hlen := h.le
  generalize hb1 : gtc (cls sh) (some 0) = b1 at *
  generalize hb2 : lec (cls sh) (some 4607182418800017408) = b2 at *
  clear hb1 hb2
  cases b1 with
  | false =>
    have hNt : N = true := by rw [← hN']; rfl
    subst hNt
    simp only [if_true]
    clear hN hN' H2 h
    go_enter Try.func40, Try.ntmps40
    go_wp2
    go_ret2
    first | exact ⟨_, rfl, Own.nil _ _ _ _, Below.refl _ _⟩ | exact ⟨_, [], rfl, rfl, Own.nil _ _ _ _, Below.refl _ _⟩
  | true =>
    cases b2 with
    | false =>
      have hNt : N = true := by rw [← hN']; rfl
      subst hNt
      simp only [if_true]
      clear hN hN' h
      go_enter Try.func40, Try.ntmps40
      go_wp2
      go_ret2
      first | exact ⟨_, rfl, Own.nil _ _ _ _, Below.refl _ _⟩ | exact ⟨_, [], rfl, rfl, Own.nil _ _ _ _, Below.refl _ _⟩
    | true =>
      by_cases hbig : 4096 < ts.length
      · have hNt : N = true := by rw [← hN', decide_eq_true hbig]; rfl
        subst hNt
        simp only [if_true]
        have hbig' : (4096 : Int) < (ts.length : Int) := by omega
        clear hN hN' h hbig
        go_enter Try.func40, Try.ntmps40
        go_wp2
        go_ret2
        first | exact ⟨_, rfl, Own.nil _ _ _ _, Below.refl _ _⟩ | exact ⟨_, [], rfl, rfl, Own.nil _ _ _ _, Below.refl _ _⟩
      · have hNf : N = false := by rw [← hN', decide_eq_false hbig]; rfl
        subst hNf
        have hbig' : ¬ (4096 : Int) < (ts.length : Int) := by omega
        clear hN hN'
        simp only [Bool.false_eq_true, if_false]
        obtain ⟨FM, GM, hm, cm⟩ := veil (op := .mul) (Or.inr (Or.inr (Or.inl rfl))) 86
        obtain ⟨FS, GS, hs, cs⟩ := veil (op := .sub) (Or.inr (Or.inl rfl)) 86
        obtain ⟨FA, GA, ha, ca⟩ := veil (op := .add) (Or.inl rfl) 86
        have hMk : ∀ X : World, (Instr.makeSlice 87 (.int .i64 0) (.int .i64 ts.length)).run Try.prog X = .ok (.slice (some ⟨X.heap.size, 0, none⟩) 0 ts.length) (X.alloc (.cells (madeCells #[.float .f64 0] ts.length) 86)) := fun X => by
          obtain ⟨i0, hi0, hz0, hz1, hz2⟩ := info_parts (show (Try.prog.info? 86).map (fun i => (i.zero, i.size, i.bytes)) = some (some (.float .f64 0), 1, 8) by kernel_rfl)
          have := run_make (P := Try.prog) X 87 86 i0 (.float .f64 0) Try.underlying87 hi0 hz0 .i64 .i64 0 ts.length (by omega) (by omega) (by rw [hz2]; omega) (by omega)
          rw [hz1] at this
          simpa [Value.cells] using this
        have hown0 : Own (w.alloc (.cells (madeCells #[.float .f64 0] ts.length) 86)) w.heap.size 86 1 (([] : List Nat).map flrow) (.slice (some ⟨w.heap.size, 0, none⟩) 0 ts.length) :=
          ⟨⟨rfl, .inr ⟨w.heap.size, ts.length, _, rfl, Nat.le_refl _, heap_alloc_at _ _, Nat.zero_le _, by unfold maxLen; omega, by rw [size_madeCells, Nat.mul_one], rfl⟩⟩, by simp⟩
        have hb0 := below_al (Below.refl w.heap.size w) (.cells (madeCells #[.float .f64 0] ts.length) 86)
        have KF := fun (X : World) (g : Nat) (T : TypeId) (x y : Nat) (hX : X.heap[g]? = some (.cells #[.float .f64 x, .float .f64 y] T)) => finite_any g 2 [x, y] X (by simp) (fun i h => by
          rw [cell_of_row _ _ i _ T (0, 0) hX]
          match i, h with
          | 0, _ => rfl
          | 1, _ => rfl)
        simp only [List.length_cons, List.length_nil, List.all_cons, List.all_nil, Bool.and_true] at KF
        have hcd := Lib.hid (fun (k : Nat) (hk : k < ts.length) (X : World) (q : Below w.heap.size w X) => (h.below q).at_ hk)
        clear h
        replace hown0 := Lib.hid hown0
        replace hb0 := Lib.hid hb0
        go_enter Try.func40, Try.ntmps40
        go_upto_region 5 with fail
        clear H1 H2 hMk
        replace hown0 := hown0.out
        replace hb0 := hb0.out
        replace cm := Lib.hid cm
        replace cs := Lib.hid cs
        replace ca := Lib.hid ca
        generalize w.alloc (.cells (madeCells #[.float .f64 0] ts.length) 86) = w1 at *
        go_loopw [0, 8, 29] (fun s0 s8 s29 wr => ∃ (k vk : Nat) (zs : List Nat), k ≤ ts.length ∧ s29 = .int .i64 k ∧ s0 = .float .f64 vk ∧ cls vk = lage (cls sh) (cls v) ((ts.take k).map cls) ∧ zs.map cls = lagl (cls sh) (cls v) ((ts.take k).map cls) ∧ zs.length = k ∧ Own wr w.heap.size 86 1 (zs.map flrow) s8 ∧ Below w.heap.size w wr) (fun _ _ s29 _ => ts.length - (intOf s29).toNat)
        case atStart => exact ⟨0, v, [], by omega, rfl, rfl, rfl, rfl, rfl, hown0, hb0⟩
        case round =>
          clear hown0 hb0
          obtain ⟨k, vk, zs, hk, rfl, rfl, hvk, hzs, hzl, hO, hb⟩ := hrel
          obtain ⟨wk, rfl⟩ : ∃ x : World, x = wr := ⟨_, rfl⟩
          by_cases hkn : k = ts.length
          · have hfin : Hid (zs.map cls = lagl (cls sh) (cls v) (ts.map cls)) := Lib.hid (by rw [hzs, hkn, List.take_length])
            clear hcd hvk hzs KF hm hs ha
            subst hkn
            go_wp2
            go_ret2
            exact ⟨_, zs, rfl, hfin.out, hO, hb⟩
          · have hlt : k < ts.length := by omega
            have hlt' : (k : Int) < (ts.length : Int) := by omega
            obtain ⟨b, o, rfl, hbl, c0⟩ := hcd.out k hlt wk hb
            obtain ⟨l1, l2⟩ := lag_step (cls sh) (cls v) ts hlt
            rw [← hvk] at l1 l2
            rw [← hzs] at l2
            have KFk := KF
            clear KF hcd hvk hzs hkn
            generalize ts[k] = tk at *
            replace l1 := Lib.hid l1
            replace l2 := Lib.hid l2
            have hzl' : Hid ((zs.map flrow).length = k) := Lib.hid (by rw [List.length_map]; exact hzl)
            have hsz := hb.size
            have KFt := fun (X : World) (g : Nat) (T : TypeId) (hX : X.heap[g]? = some (.cells #[.float .f64 tk, .float .f64 vk] T)) => KFk X g T tk vk hX
            have hlv : lagv (cls sh) (cls vk) (cls tk) = if isFin (cls tk) && isFin (cls vk) then op2 .add (cls vk) (op2 .mul (cls sh) (op2 .sub (cls tk) (cls vk))) else cls vk := rfl
            generalize (isFin (cls tk) && isFin (cls vk)) = bf at *
            replace hlv := Lib.hid hlv
            clear KFk
            go_upto_if 36 with (go_at_call 58; (with_reducible refine (KFt _ _ _ (heap_alloc_at _ _)).mono ?_); rintro e w2 ⟨rfl, rfl⟩)
            have hbt := below_al (Below.refl wk.heap.size wk) (.cells #[.float .f64 tk, .float .f64 vk] 86)
            have hOt := hO.alloc (.cells #[.float .f64 tk, .float .f64 vk] 86)
            generalize wk.alloc (.cells #[.float .f64 tk, .float .f64 vk] 86) = wt at *
            go_cut [0] from 37 to 44 (fun x wc => ∃ q, x = .float .f64 q ∧ cls q = lagv (cls sh) (cls vk) (cls tk) ∧ Drawn wt wc)
            case first =>
              clear KFt hO hOt c0
              cases bf with
              | true =>
                go_wp2
                go_meet
                case rel => exact ⟨_, rfl, by rw [hlv.out, ca.out, cm.out, cs.out]; rfl, by first | exact drawn_N _ | exact (drawn_N _).drewN _⟩
              | false =>
                go_wp2
                go_meet
                case rel => exact ⟨_, rfl, by rw [hlv.out]; rfl, Drawn.refl _⟩
            obtain ⟨q, rfl, hq, hd⟩ := hcut
            obtain ⟨wy, rfl⟩ : ∃ x : World, x = wc := ⟨_, rfl⟩
            have hO' := hOt.drawn hd
            have hb' := hb.trans ((hd.after hbt).mono hb.size)
            have hsy := hb'.size
            replace hq := Lib.hid hq
            clear hO hOt hbt hd KFt c0 hm hs ha hb hsz
            go_wp2_with (at_builtin; refine wpList_push elt87 rfl _ _ rfl rfl (hO'.alloc _) [.float .f64 q] wy.heap.size 86 rfl (heap_alloc_at _ _) rfl (by simp [Value.oneCell']) (by rw [hzl'.out]; omega) (by rw [size_al]; omega) ?_; intro v' w3 ho' hb3 hs' _ _)
            go_roundw
            case rel =>
              refine ⟨k + 1, q, zs ++ [q], by omega, by go_num, rfl, by rw [hq.out, l1.out], by rw [List.map_append, l2.out, ← hq.out]; rfl, by rw [List.length_append, hzl]; rfl, ?_, (below_al hb' _).trans hb3⟩
              rw [List.map_append]
              exact ho'
            case measure => first | (simp [intOf]; done) | (simp [intOf]; omega)
set_option maxHeartbeats 8000000 in
set_option maxRecDepth 100000 in
theorem rlag_any (v sh : Nat) (ts : List Nat) (A : Option Addr) (c : Nat) (w : World) (h : Fls w A ts) :
    Calls Try.prog 41 #[.float .f64 v, .slice A ts.length c, .float .f64 sh] w fun e w' => ∃ (x : Value) (zs : List Nat), e = .returned (.tuple #[x, .int .i64 (if lagno (cls sh) ts.length then 1 else 0)]) ∧
      zs.map cls = (if lagno (cls sh) ts.length then [] else lagl (cls sh) (cls v) (ts.map cls)) ∧ Own w' w.heap.size 86 1 (zs.map flrow) x ∧ Below w.heap.size w w' := by
  have H1 : (FloatKind.f64.format.order sh 0 == some .gt) = gtc (cls sh) (some 0) := by rw [order_z]; rfl
  have H2 : (FloatKind.f64.format.order sh 4607182418800017408 == some .lt || FloatKind.f64.format.order sh 4607182418800017408 == some .eq) = lec (cls sh) (some 4607182418800017408) := by rw [order_o]; rfl
  obtain ⟨N, hN⟩ : ∃ N, lagno (cls sh) ts.length = N := ⟨_, rfl⟩
  have hN' := hN
  rw [hN]
  unfold lagno at hN'
  have hlen := h.le
  generalize hb1 : gtc (cls sh) (some 0) = b1 at *
  generalize hb2 : lec (cls sh) (some 4607182418800017408) = b2 at *
  clear hb1 hb2
  cases b1 with
  | false =>
    have hNt : N = true := by rw [← hN']; rfl
    subst hNt
    simp only [if_true]
    clear hN hN' H2 h
    go_enter Try.func41, Try.ntmps41
    go_wp2
    go_ret2
    first | exact ⟨_, rfl, Own.nil _ _ _ _, Below.refl _ _⟩ | exact ⟨_, [], rfl, rfl, Own.nil _ _ _ _, Below.refl _ _⟩
  | true =>
    cases b2 with
    | false =>
      have hNt : N = true := by rw [← hN']; rfl
      subst hNt
      simp only [if_true]
      clear hN hN' h
      go_enter Try.func41, Try.ntmps41
      go_wp2
      go_ret2
      first | exact ⟨_, rfl, Own.nil _ _ _ _, Below.refl _ _⟩ | exact ⟨_, [], rfl, rfl, Own.nil _ _ _ _, Below.refl _ _⟩
    | true =>
      by_cases hbig : 4096 < ts.length
      · have hNt : N = true := by rw [← hN', decide_eq_true hbig]; rfl
        subst hNt
        simp only [if_true]
        have hbig' : (4096 : Int) < (ts.length : Int) := by omega
        clear hN hN' h hbig
        go_enter Try.func41, Try.ntmps41
        go_wp2
        go_ret2
        first | exact ⟨_, rfl, Own.nil _ _ _ _, Below.refl _ _⟩ | exact ⟨_, [], rfl, rfl, Own.nil _ _ _ _, Below.refl _ _⟩
      · have hNf : N = false := by rw [← hN', decide_eq_false hbig]; rfl
        subst hNf
        have hbig' : ¬ (4096 : Int) < (ts.length : Int) := by omega
        clear hN hN'
        simp only [Bool.false_eq_true, if_false]
        obtain ⟨FM, GM, hm, cm⟩ := veil (op := .mul) (Or.inr (Or.inr (Or.inl rfl))) 86
        obtain ⟨FS, GS, hs, cs⟩ := veil (op := .sub) (Or.inr (Or.inl rfl)) 86
        obtain ⟨FA, GA, ha, ca⟩ := veil (op := .add) (Or.inl rfl) 86
        have Kf := rfin_any
        have hcd := Lib.hid (fun (k : Nat) (hk : k < ts.length) (X : World) (q : Below w.heap.size w X) => (h.below q).at_ hk)
        clear h
        go_enter Try.func41, Try.ntmps41
        go_upto_region 5 with fail
        clear H1 H2
        replace cm := Lib.hid cm
        replace cs := Lib.hid cs
        replace ca := Lib.hid ca
        go_loopw [0, 8, 9] (fun s0 s8 s29 wr => ∃ (k vk : Nat) (zs : List Nat), k ≤ ts.length ∧ s29 = .int .i64 k ∧ s0 = .float .f64 vk ∧ cls vk = lage (cls sh) (cls v) ((ts.take k).map cls) ∧ zs.map cls = lagl (cls sh) (cls v) ((ts.take k).map cls) ∧ zs.length = k ∧ Own wr w.heap.size 86 1 (zs.map flrow) s8 ∧ Below w.heap.size w wr) (fun _ _ s29 _ => ts.length - (intOf s29).toNat)
        case atStart => exact ⟨0, v, [], by omega, rfl, rfl, rfl, rfl, rfl, Own.nil _ _ _ _, Below.refl _ _⟩
        case round =>
          obtain ⟨k, vk, zs, hk, rfl, rfl, hvk, hzs, hzl, hO, hb⟩ := hrel
          obtain ⟨wk, rfl⟩ : ∃ x : World, x = wr := ⟨_, rfl⟩
          by_cases hkn : k = ts.length
          · have hfin : Hid (zs.map cls = lagl (cls sh) (cls v) (ts.map cls)) := Lib.hid (by rw [hzs, hkn, List.take_length])
            clear hcd hvk hzs Kf hm hs ha
            subst hkn
            go_wp2
            go_ret2
            exact ⟨_, zs, rfl, hfin.out, hO, hb⟩
          · have hlt : k < ts.length := by omega
            have hlt' : (k : Int) < (ts.length : Int) := by omega
            obtain ⟨b, o, rfl, hbl, c0⟩ := hcd.out k hlt wk hb
            obtain ⟨l1, l2⟩ := lag_step (cls sh) (cls v) ts hlt
            rw [← hvk] at l1 l2
            rw [← hzs] at l2
            have Kt := Kf ts[k]
            have Kv := Kf vk
            clear Kf hcd hvk hzs hkn
            generalize ts[k] = tk at *
            replace l1 := Lib.hid l1
            replace l2 := Lib.hid l2
            have hzl' : Hid ((zs.map flrow).length = k) := Lib.hid (by rw [List.length_map]; exact hzl)
            have hsz := hb.size
            have hlv : lagv (cls sh) (cls vk) (cls tk) = if isFin (cls tk) && isFin (cls vk) then op2 .add (cls vk) (op2 .mul (cls sh) (op2 .sub (cls tk) (cls vk))) else cls vk := rfl
            generalize isFin (cls tk) = bt at *
            generalize isFin (cls vk) = bv at *
            replace hlv := Lib.hid hlv
            go_upto_region 7 with fail
            go_cut [39] from 31 to 39 (fun x wc => x = .bool (bt && bv) ∧ wk = wc)
            case first =>
              clear hO hm hs ha
              cases bt with
              | true =>
                go_wp2_with (first
                  | (go_at_call 59; (with_reducible refine (Kt _).mono ?_); rintro e w2 ⟨rfl, rfl⟩)
                  | (go_at_call 59; (with_reducible refine (Kv _).mono ?_); rintro e w2 ⟨rfl, rfl⟩))
                go_meet
                case rel => exact ⟨rfl, rfl⟩
              | false =>
                go_wp2_with (go_at_call 59; (with_reducible refine (Kt _).mono ?_); rintro e w2 ⟨rfl, rfl⟩)
                go_meet
                case rel => exact ⟨rfl, rfl⟩
            obtain ⟨rfl, rfl⟩ := hcut
            generalize (bt && bv) = bf at *
            clear Kt Kv
            go_upto_if 39 with fail
            go_cut [0] from 40 to 51 (fun x wc => ∃ q, x = .float .f64 q ∧ cls q = lagv (cls sh) (cls vk) (cls tk) ∧ Drawn wk wc)
            case first =>
              clear hO
              cases bf with
              | true =>
                go_wp2
                go_meet
                case rel => exact ⟨_, rfl, by rw [hlv.out, ca.out, cm.out, cs.out]; rfl, by first | exact drawn_N _ | exact (drawn_N _).drewN _⟩
              | false =>
                go_wp2
                go_meet
                case rel => exact ⟨_, rfl, by rw [hlv.out]; rfl, Drawn.refl _⟩
            obtain ⟨q, rfl, hq, hd⟩ := hcut
            obtain ⟨wy, rfl⟩ : ∃ x : World, x = wc := ⟨_, rfl⟩
            have hO' := hO.drawn hd
            have hb' := hd.after hb
            have hsy := hb'.size
            replace hq := Lib.hid hq
            clear hO hd c0 hm hs ha hb hsz
            go_wp2_with (at_builtin; refine wpList_push elt87 rfl _ _ rfl rfl (hO'.alloc _) [.float .f64 q] wy.heap.size 86 rfl (heap_alloc_at _ _) rfl (by simp [Value.oneCell']) (by rw [hzl'.out]; omega) (by rw [size_al]; omega) ?_; intro v' w3 ho' hb3 hs' _ _)
            go_roundw
            case rel =>
              refine ⟨k + 1, q, zs ++ [q], by omega, by go_num, rfl, by rw [hq.out, l1.out], by rw [List.map_append, l2.out, ← hq.out]; rfl, by rw [List.length_append, hzl]; rfl, ?_, (below_al hb' _).trans hb3⟩
              rw [List.map_append]
              exact ho'
            case measure => first | (simp [intOf]; done) | (simp [intOf]; omega)
end Go.Proofs.Ytbbjnhajmckjoaa
