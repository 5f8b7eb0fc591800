/- Rails: ramps and lags, plain: a ramp stays between its ends and never goes back; a lag stays within twice the bound. No program here. -/
import Derived.Test.YtbbjnhajmckjoaaSlo0
namespace Go.Proofs.Ytbbjnhajmckjoaa
open flt Ieee

theorem val_eq_of_key {x y : Nat} (h : key x = key y) : val x = val y := val_key.2.2 h
theorem val_zero_of {x : Nat} (h : key x = 0) : val x = 0 := by
  have := val_eq_of_key (x := x) (y := 0) (by rw [h, key_zero])
  rw [this]; decide +kernel
theorem fin_of_key {x : Nat} (h0 : 0 ≤ key x) {y : Nat} (hy : nn y) (h : key x < key y) : rung x < double.infRung := by
  have h1 := rung_key x
  have h2 := rung_key y
  have h3 := rung_le hy
  omega
/-- less than a rounded difference: not more than the difference itself -/
theorem lt_sub {d t f : Nat} (hd : rung d < double.infRung) (ht : rung t < double.infRung) (hf : rung f < double.infRung) (h : key d < key (fsub t f)) : val d ≤ val t - val f := by
  obtain ⟨-, s, m, e, h1, he, hv⟩ := fsub_spec ht hf
  rcases Int.lt_or_le (val t - val f) (val d) with q | q
  · rw [h1] at h
    have := round_le he hd (by rw [hv]; omega)
    omega
  · exact q
theorem add_lo {f d x : Nat} (hf : rung f < double.infRung) (hd : rung d < double.infRung) (hx : rung x < double.infRung) (h : val x ≤ val f + val d) : key x ≤ key (fadd f d) := by
  obtain ⟨s, m, e, h1, he, hv⟩ := fadd_spec hf hd
  rw [h1]
  exact le_round he hx (by rw [hv]; exact h)
theorem add_hi {f d x : Nat} (hf : rung f < double.infRung) (hd : rung d < double.infRung) (hx : rung x < double.infRung) (h : val f + val d ≤ val x) : key (fadd f d) ≤ key x := by
  obtain ⟨s, m, e, h1, he, hv⟩ := fadd_spec hf hd
  rw [h1]
  exact round_le he hx (by rw [hv]; exact h)
theorem sub_lo {f d x : Nat} (hf : rung f < double.infRung) (hd : rung d < double.infRung) (hx : rung x < double.infRung) (h : val x ≤ val f - val d) : key x ≤ key (fsub f d) := by
  obtain ⟨-, s, m, e, h1, he, hv⟩ := fsub_spec hf hd
  rw [h1]
  exact le_round he hx (by rw [hv]; exact h)
theorem sub_hi {f d x : Nat} (hf : rung f < double.infRung) (hd : rung d < double.infRung) (hx : rung x < double.infRung) (h : val f - val d ≤ val x) : key (fsub f d) ≤ key x := by
  obtain ⟨-, s, m, e, h1, he, hv⟩ := fsub_spec hf hd
  rw [h1]
  exact round_le he hx (by rw [hv]; exact h)
theorem val_nonneg {d : Nat} (h : 0 ≤ key d) : 0 ≤ val d := by
  have := val_le (x := 0) (y := d)
  rw [key_zero, show val 0 = 0 by decide +kernel] at this
  exact this.2 h
/-- how far a ramp has come: no number below nought -/
theorem far_nn {r u : Nat} (hr : rung r < double.infRung) (hu : rung u < double.infRung) (gr : neg r = false) (gu : neg u = false) : op2 .mul (some r) (some u) = some (fmul r u) ∧ nn (fmul r u) ∧ 0 ≤ key (fmul r u) := by
  obtain ⟨h0, m, e, h1, -⟩ := fmul_spec hr hu
  refine ⟨h0, by rw [h1]; exact nn_nearest _ _ _, ?_⟩
  rw [h1, gr, gu, key_nearest]
  simp
theorem gec_some {x y : Nat} (hx : nn x) (hy : nn y) : gec (some x) (some y) = decide (key y ≤ key x) := by
  unfold gec
  rw [ord_some hx hy]
  by_cases h : key x < key y
  · have : compare (key x) (key y) = .lt := by rw [Int.compare_eq_lt]; exact h
    rw [this, decide_eq_false (by omega)]; rfl
  · by_cases h2 : key x = key y
    · have : compare (key x) (key y) = .eq := by rw [Int.compare_eq_eq]; exact h2
      rw [this, decide_eq_true (by omega)]; rfl
    · have : compare (key x) (key y) = .gt := by rw [Int.compare_eq_gt]; omega
      rw [this, decide_eq_true (by omega)]; rfl
theorem nfin_ltc {r : Nat} (hr : rung r < double.infRung) (gr : neg r = false) : ltc (some r) (some 0) = false := by
  unfold ltc
  rw [ord_keys hr (by rw [infRung_eq]; decide), key_zero, key_pos gr]
  have : ¬ compare (rung r : Int) 0 = .lt := by rw [Int.compare_eq_lt]; omega
  cases hc : compare (rung r : Int) 0 <;> first | rfl | exact absurd hc this
/-- where a ramp is -/
def rmp (f t d : Nat) : Nat := if key f < key t then (if key (fsub t f) ≤ key d then t else fadd f d) else (if key (fsub f t) ≤ key d then t else fsub f d)
theorem atc_rmp {f t r u : Nat} (hf : rung f < double.infRung) (ht : rung t < double.infRung) (hr : rung r < double.infRung) (hu : rung u < double.infRung) (gr : neg r = false) (gu : neg u = false) :
    atc (some f) (some t) (some r) (some u) = some (rmp f t (fmul r u)) := by
  obtain ⟨h0, h1, h2⟩ := far_nn hr hu gr gu
  obtain ⟨e1, n1⟩ := sub_nn ht hf
  obtain ⟨e2, n2⟩ := sub_nn hf ht
  have hfin : ∀ {x : Nat}, rung x < double.infRung → isFin (some x) = true := fun h => by unfold isFin; simpa using h
  rw [← atr_atc]
  unfold atr badr rmp
  rw [hfin hf, hfin ht, hfin hr, hfin hu, nfin_ltc hr gr, nfin_ltc hu gu, gtc_keys ht hf, h0, e1, e2, gec_some h1 n1, gec_some h1 n2]
  simp only [Bool.and_self, Bool.not_true, Bool.or_self, Bool.false_eq_true, if_false, decide_eq_true_eq]
  by_cases q : key f < key t
  · rw [if_pos q, if_pos q]
    by_cases q2 : key (fsub t f) ≤ key (fmul r u)
    · rw [if_pos q2, if_pos q2]
    · rw [if_neg q2, if_neg q2]
      have hd := fin_of_key h2 n1 (by omega)
      exact (add_some (nn_fin hf) (by obtain ⟨m, e, h, -⟩ := read_fin hd; exact ⟨_, _, _, h⟩)).1
  · rw [if_neg q, if_neg q]
    by_cases q2 : key (fsub f t) ≤ key (fmul r u)
    · rw [if_pos q2, if_pos q2]
    · rw [if_neg q2, if_neg q2]
      exact (sub_nn hf (fin_of_key h2 n2 (by omega))).1
/-- a ramp is between its ends -/
theorem rmp_in {f t d : Nat} (hf : rung f < double.infRung) (ht : rung t < double.infRung) (hd0 : 0 ≤ key d) :
    min (key f) (key t) ≤ key (rmp f t d) ∧ key (rmp f t d) ≤ max (key f) (key t) := by
  obtain ⟨e1, n1⟩ := sub_nn ht hf
  obtain ⟨e2, n2⟩ := sub_nn hf ht
  unfold rmp
  by_cases q : key f < key t
  · rw [if_pos q]
    by_cases q2 : key (fsub t f) ≤ key d
    · rw [if_pos q2]; omega
    · rw [if_neg q2]
      have hd := fin_of_key hd0 n1 (by omega)
      have h1 := lt_sub hd ht hf (by omega)
      have h2 := val_nonneg hd0
      have h3 := add_lo hf hd hf (by omega)
      have h4 := add_hi hf hd ht (by omega)
      omega
  · rw [if_neg q]
    by_cases q2 : key (fsub f t) ≤ key d
    · rw [if_pos q2]; omega
    · rw [if_neg q2]
      have hd := fin_of_key hd0 n2 (by omega)
      have h1 := lt_sub hd hf ht (by omega)
      have h2 := val_nonneg hd0
      have h3 := sub_lo hf hd ht (by omega)
      have h4 := sub_hi hf hd hf (by omega)
      omega
theorem val_mono {x y : Nat} (h : key x ≤ key y) : val x ≤ val y := val_le.2 h
/-- a ramp never goes back -/
theorem rmp_up {f t d1 d2 : Nat} (hf : rung f < double.infRung) (ht : rung t < double.infRung) (h0 : 0 ≤ key d1) (h : key d1 ≤ key d2) (hft : key f < key t) : key (rmp f t d1) ≤ key (rmp f t d2) := by
  obtain ⟨e1, n1⟩ := sub_nn ht hf
  have hin := rmp_in hf ht h0
  unfold rmp at hin ⊢
  rw [if_pos hft] at hin ⊢
  rw [if_pos hft]
  by_cases q2 : key (fsub t f) ≤ key d2
  · rw [if_pos q2]; omega
  · rw [if_neg q2, if_neg (by omega)]
    have hd1 := fin_of_key h0 n1 (by omega)
    have hd2 := fin_of_key (x := d2) (by omega) n1 (by omega)
    rw [show fadd f d1 = fadd f d1 from rfl]
    obtain ⟨s, m, e, h3, he, hv⟩ := fadd_spec hf hd1
    obtain ⟨t', n, g, h4, hg, hw⟩ := fadd_spec hf hd2
    rw [h3, h4]
    refine near_mono (K := 1074) (by decide) (by omega) (by omega) ?_
    have e1 : ((1074 : Nat) : Int) + e = e + 1074 := by omega
    have e2 : ((1074 : Nat) : Int) + g = g + 1074 := by omega
    rw [e1, e2, hv, hw]
    have := val_mono h
    omega
theorem rmp_down {f t d1 d2 : Nat} (hf : rung f < double.infRung) (ht : rung t < double.infRung) (h0 : 0 ≤ key d1) (h : key d1 ≤ key d2) (hft : key t < key f) : key (rmp f t d2) ≤ key (rmp f t d1) := by
  obtain ⟨e1, n1⟩ := sub_nn hf ht
  have hin := rmp_in hf ht h0
  have e : ∀ d, rmp f t d = if key (fsub f t) ≤ key d then t else fsub f d := fun d => by unfold rmp; rw [if_neg (by omega)]
  rw [e] at hin ⊢
  rw [e]
  by_cases q2 : key (fsub f t) ≤ key d2
  · rw [if_pos q2]; omega
  · rw [if_neg q2, if_neg (by omega)]
    have hd1 := fin_of_key h0 n1 (by omega)
    have hd2 := fin_of_key (x := d2) (by omega) n1 (by omega)
    obtain ⟨-, s, m, ee, h3, he, hv⟩ := fsub_spec hf hd1
    obtain ⟨-, t', n, g, h4, hg, hw⟩ := fsub_spec hf hd2
    rw [h3, h4]
    refine near_mono (K := 1074) (by decide) (by omega) (by omega) ?_
    have e1 : ((1074 : Nat) : Int) + ee = ee + 1074 := by omega
    have e2 : ((1074 : Nat) : Int) + g = g + 1074 := by omega
    rw [e1, e2, hv, hw]
    have := val_mono h
    omega
/-- a ramp begins at the one end -/
theorem rmp_start {f t d : Nat} (hf : rung f < double.infRung) (ht : rung t < double.infRung) (h0 : key d = 0) : key (rmp f t d) = key f := by
  have hd : rung d < double.infRung := by
    have := rung_key d
    rw [infRung_eq]; omega
  have hv := val_zero_of h0
  unfold rmp
  by_cases q : key f < key t
  · have := sub_pos ht hf q
    rw [if_pos q, if_neg (by omega)]
    have h3 := add_lo hf hd hf (by omega)
    have h4 := add_hi hf hd hf (by omega)
    omega
  · rw [if_neg q]
    by_cases q2 : key (fsub f t) ≤ key d
    · rw [if_pos q2]
      rcases Int.lt_or_eq_of_le (Int.not_lt.1 q) with k | k
      · have := sub_pos hf ht k; omega
      · exact k
    · rw [if_neg q2]
      have h3 := sub_lo hf hd hf (by omega)
      have h4 := sub_hi hf hd hf (by omega)
      omega
theorem fmul_nought {r : Nat} (hr : rung r < double.infRung) : key (fmul r 0) = 0 := by
  have hz : rung 0 < double.infRung := by rw [infRung_eq]; decide
  obtain ⟨q, hq, he⟩ := fmul_size hr hz hz (by rw [show rung 0 = 0 by decide, V_zero]; simp)
  rw [show rung 0 = 0 by decide] at hq
  rw [he, key_word _ (by omega)]
  split <;> omega
/-- products by one that is not below nought are monotone -/
theorem fmul_le {r x y : Nat} (h1 : rung x < double.infRung) (h2 : rung y < double.infRung) (hr : rung r < double.infRung) (n1 : neg x = false) (n2 : neg y = false) (nr : neg r = false) (h : key x ≤ key y) : 0 ≤ key (fmul r x) ∧ key (fmul r x) ≤ key (fmul r y) := by
  obtain ⟨_, m, e, h3, he, hv⟩ := fmul_spec hr h1
  obtain ⟨_, n, f, h4, hf, hw⟩ := fmul_spec hr h2
  rw [nr, n1] at h3
  rw [nr, n2] at h4
  rw [key_pos n1, key_pos n2] at h
  have hle : V (rung r) * V (rung x) ≤ V (rung r) * V (rung y) := Nat.mul_le_mul_left _ (V_mono (by omega))
  rw [← hv, ← hw] at hle
  rw [h3, h4]
  constructor
  · rw [key_nearest]; simp
  · refine near_mono (K := 2148) (by decide) (by omega) (by omega) ?_
    have c1 : ((2148 : Nat) : Int) + e = e + 2148 := by omega
    have c2 : ((2148 : Nat) : Int) + f = f + 2148 := by omega
    rw [c1, c2, signed_eq, signed_eq]
    exact Int.ofNat_le.mpr hle
end Go.Proofs.Ytbbjnhajmckjoaa
