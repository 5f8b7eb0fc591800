/- Net: either order; a resistor of nought behind; plain. -/
import Derived.Test.YtfmjmjppkdaanaaBld
import Derived.Test.YtfmjmjppkdaanaaFltOps
namespace Go.Proofs.Ytfmjmjppkdaanaa
open Go.RowKit Go.BigFrame flt Ieee

theorem sum_comm (a b : Datum) : a.sum b = b.sum a := by
  cases a with
  | nan s t => cases b <;> rfl
  | infinity s =>
    cases b with
    | nan s t => rfl
    | number t n j => rfl
    | infinity t => cases s <;> cases t <;> rfl
  | number s m i =>
    cases b with
    | nan s t => rfl
    | infinity t => rfl
    | number t n j =>
      simp only [Datum.sum]
      rw [Int.min_comm i j, Int.add_comm (signed s m _), Bool.and_comm s t]
theorem add_comm2 (a b : Option Nat) : op2 .add a b = op2 .add b a := by
  cases a with
  | none => cases b <;> rfl
  | some x => cases b with
    | none => rfl
    | some y =>
      show ((double.read x).sum (double.read y)).map double.write = ((double.read y).sum (double.read x)).map double.write
      rw [sum_comm]
theorem addc_comm (a b : Cx) : addc a b = addc b a := by unfold addc; rw [add_comm2 a.1, add_comm2 a.2]
theorem zsn_app {W : Option Nat} (l m : List Part) : ∀ k, k ≤ l.length → zsn W (l ++ m) k = zsn W l k
  | 0, _ => rfl
  | k + 1, hk => by
    rw [zsn_succ, zsn_succ, zsn_app l m k (by omega)]
    congr 2
    rw [List.getD_eq_getElem?_getD, List.getD_eq_getElem?_getD, List.getElem?_append_left (by omega)]
theorem lastz_push (W : Option Nat) (l : List Part) (p : Part) : lastz W (l ++ [p]) = imp W p (zsn W l l.length) := by
  unfold lastz
  have hl : (l ++ [p]).length = l.length + 1 := by rw [List.length_append]; rfl
  rw [hl, zsn_succ, zsn_app l [p] _ (Nat.le_refl _), Nat.add_sub_cancel]
  have e : (l ++ [p]).getD l.length ⟨0, 0, []⟩ = p := by
    rw [List.getD_eq_getElem?_getD, List.getElem?_append_right (Nat.le_refl _), Nat.sub_self]; rfl
  rw [e, List.getD_eq_getElem?_getD, List.getElem?_append_right (by rw [zsn_len]; omega), zsn_len, Nat.sub_self]
  rfl
theorem good_push {l : List Part} (hg : Good l) (h : l.length ≤ 255) {p : Part} (hp : mayp p l.length = true) : Good (l ++ [p]) := by
  have hl : (l ++ [p]).length = l.length + 1 := by rw [List.length_append]; rfl
  refine ⟨by omega, by omega, fun k hk => ?_⟩
  by_cases e : k = l.length
  · subst e
    have e2 : (l ++ [p])[l.length] = p := by rw [List.getElem_append_right (Nat.le_refl _)]; simp
    rw [e2]; exact hp
  · have hk' : k < l.length := by omega
    have e2 : (l ++ [p])[k] = l[k] := List.getElem_append_left hk'
    rw [e2]; exact hg.2.2 k hk'
theorem may_two {kd : Int} (hk : kd = 4 ∨ kd = 5) {a b n : Nat} (ha : a < n) (hb : b < n) : mayp ⟨kd, 0, [(a : Int), (b : Int)]⟩ n = true := by
  unfold mayp
  have h1 : ¬ (kd = 1 ∨ kd = 2 ∨ kd = 3) := by omega
  rw [if_neg h1, if_pos hk]
  simp
  omega
theorem imp_four (W : Option Nat) (a b : Nat) (zs : List Cx) : imp W ⟨4, 0, [(a : Int), (b : Int)]⟩ zs = addc (pickc zs a) (pickc zs b) := rfl
theorem imp_five (W : Option Nat) (a b : Nat) (zs : List Cx) : imp W ⟨5, 0, [(a : Int), (b : Int)]⟩ zs = turnc (addc (turnc (pickc zs a)) (turnc (pickc zs b))) := rfl
theorem imp_swap (W : Option Nat) {kd : Int} (hk : kd = 4 ∨ kd = 5) (a b : Nat) (zs : List Cx) : imp W ⟨kd, 0, [(a : Int), (b : Int)]⟩ zs = imp W ⟨kd, 0, [(b : Int), (a : Int)]⟩ zs := by
  rcases hk with rfl | rfl
  · rw [imp_four, imp_four, addc_comm]
  · rw [imp_five, imp_five, addc_comm]
theorem order_self {x : Nat} (h : nn x) : double.order x x = some .eq := by
  rw [order_key h h, Int.compare_eq_eq.2 rfl]
/-- a sum with nought is the number, but for its sign where it is nought -/
theorem add_nought {u v : Nat} (hu : cls u = op2 .add (cls v) (some 0)) (hv : (cls v).isNone = false) : (FloatKind.f64.format.order u v == some .eq) = true := by
  show (double.order u v == some .eq) = true
  cases hc : cls v with
  | none => rw [hc] at hv; cases hv
  | some x =>
    obtain ⟨rfl, hn⟩ := cls_some hc
    rw [hc] at hu
    have f0 : rung 0 < double.infRung := by decide +kernel
    rcases nn_cases hn with hf | ⟨s, hs⟩
    · have hr : rung v < double.infRung := by
        rcases Nat.lt_or_ge (rung v) double.infRung with q | q
        · exact q
        · have := rung_le hn
          have e := read_inf (x := v) (by omega)
          obtain ⟨s, m, i, h⟩ := hf
          rw [h] at e; cases e
      obtain ⟨m0, i0, h0, _, _⟩ := read_fin f0
      have hs := (add_some (x := v) (y := 0) hn ⟨_, _, _, h0⟩)
      have hu' : cls u = some (fadd v 0) := hu.trans hs.1
      obtain ⟨e1, n1⟩ := cls_some hu'
      rw [← e1] at hs
      obtain ⟨s, m, e, hne, he, hsg⟩ := fadd_spec hr f0
      rw [← e1] at hne
      have hv0 : val 0 = 0 := by decide +kernel
      rw [hv0, Int.add_zero] at hsg
      have key_eq : key u = key v := by
        rw [hne, key_nearest]
        rw [signed_eq] at hsg
        unfold val at hsg
        unfold key
        have hV : m * 2 ^ (e + 1074).toNat = V (rung v) := by
          generalize m * 2 ^ (e + 1074).toNat = P at *
          generalize V (rung v) = R at *
          cases s <;> cases neg v <;> simp only [Bool.false_eq_true, if_false, if_true] at hsg <;> omega
        by_cases hm : m = 0
        · subst hm
          rw [Nat.zero_mul] at hV
          have hr0 : rung v = 0 := by
            rcases Nat.eq_zero_or_pos (rung v) with q | q
            · exact q
            · have := V_pos q; omega
          have hN : N 0 e = 0 := if_pos rfl
          rw [hN, hr0]
          cases s <;> cases neg v <;> rfl
        · have h1 := rungOf_rd m e hm 1074 (Nat.le_refl _) (by omega)
          rw [Nat.sub_self, show ((1074 : Nat) : Int) + e = e + 1074 by omega, hV] at h1
          have h2 := rd_V 0 (rung v)
          have he : rungOf m e = rung v := rd_eq (by decide) (by decide) (by simp) h1 h2
          have hN : N m e = rung v := by
            unfold N
            rw [if_neg hm, he, Nat.min_eq_left (Nat.le_of_lt hr)]
          have hp : 0 < m * 2 ^ (e + 1074).toNat := Nat.mul_pos (Nat.pos_of_ne_zero hm) (Nat.two_pow_pos _)
          rw [hN]
          rw [hV] at hsg hp
          generalize V (rung v) = R at *
          generalize neg v = b at *
          cases s <;> cases b <;> simp only [Bool.false_eq_true, if_false, if_true] at hsg ⊢ <;> omega
      rw [order_key n1 hn, key_eq, Int.compare_eq_eq.2 rfl]
      rfl
    · have h0 : double.read 0 = .number false 0 double.leastPlace := by decide +kernel
      have e : op2 .add (some v) (some 0) = some (double.word s double.infRung) := by
        show ((double.read v).sum (double.read 0)).map double.write = _
        rw [hs, h0]; rfl
      rw [e] at hu
      obtain ⟨e1, n1⟩ := cls_some hu
      have hu2 : double.read u = .infinity s := by
        rw [e1, read_word double s (Format.infRung_lt double)]
        rw [if_neg (by decide), if_neg (by omega), if_pos rfl]
      unfold Format.order
      rw [hu2, hs]
      cases s <;> rfl
theorem none_nought {u v : Nat} (hu : cls u = op2 .add (cls v) (some 0)) (hv : (cls v).isNone = true) : (cls u).isNone = true ∧ (FloatKind.f64.format.order u v == some .eq) = false := by
  rw [Option.isNone_iff_eq_none] at hv
  rw [hv, op2_none] at hu
  refine ⟨by rw [hu]; rfl, ?_⟩
  show (double.order u v == some .eq) = false
  rw [order_cls, hu, ord_none]
  rfl
/-- what a resistor of nought behind a part makes of it -/
theorem lastz_nought (W : Option Nat) (l : List Part) (a : Nat) (ha : a < l.length) : lastz W (l ++ [⟨1, 0, []⟩, ⟨4, 0, [(a : Int), (l.length : Int)]⟩]) = addc (pickc (zsn W l l.length) a) (some 0, some 0) := by
  have e : l ++ [(⟨1, 0, []⟩ : Part), ⟨4, 0, [(a : Int), (l.length : Int)]⟩] = (l ++ [⟨1, 0, []⟩]) ++ [⟨4, 0, [(a : Int), (l.length : Int)]⟩] := by rw [List.append_assoc]; rfl
  have hl : (l ++ [(⟨1, 0, []⟩ : Part)]).length = l.length + 1 := by rw [List.length_append]; rfl
  rw [e, lastz_push, imp_four, hl, zsn_succ, zsn_app l _ _ (Nat.le_refl _)]
  have e0 : imp W ((l ++ [(⟨1, 0, []⟩ : Part)]).getD l.length ⟨0, 0, []⟩) (zsn W l l.length) = (cls 0, some 0) := by
    have e2 : (l ++ [(⟨1, 0, []⟩ : Part)]).getD l.length ⟨0, 0, []⟩ = ⟨1, 0, []⟩ := by
      rw [List.getD_eq_getElem?_getD, List.getElem?_append_right (Nat.le_refl _), Nat.sub_self]; rfl
    rw [e2]; rfl
  rw [e0, cls_nn nn_zero]
  unfold pickc
  rw [List.getD_eq_getElem?_getD, List.getD_eq_getElem?_getD, List.getD_eq_getElem?_getD, Int.toNat_natCast, Int.toNat_natCast]
  rw [List.getElem?_append_left (by rw [zsn_len]; exact ha), List.getElem?_append_right (by rw [zsn_len]; exact Nat.le_refl _), zsn_len, Nat.sub_self]
  rfl
theorem good_nought {l : List Part} (hg : Good l) (h : l.length ≤ 254) {a : Nat} (ha : a < l.length) : Good (l ++ [⟨1, 0, []⟩, ⟨4, 0, [(a : Int), (l.length : Int)]⟩]) := by
  have e : l ++ [(⟨1, 0, []⟩ : Part), ⟨4, 0, [(a : Int), (l.length : Int)]⟩] = (l ++ [⟨1, 0, []⟩]) ++ [⟨4, 0, [(a : Int), (l.length : Int)]⟩] := by rw [List.append_assoc]; rfl
  have hl : (l ++ [(⟨1, 0, []⟩ : Part)]).length = l.length + 1 := by rw [List.length_append]; rfl
  rw [e]
  refine good_push (good_push hg (by omega) (by unfold mayp; rw [if_pos (Or.inl rfl)]; decide +kernel)) (by omega) ?_
  rw [hl]
  exact may_two (Or.inl rfl) (by omega) (by omega)
end Go.Proofs.Ytfmjmjppkdaanaa
