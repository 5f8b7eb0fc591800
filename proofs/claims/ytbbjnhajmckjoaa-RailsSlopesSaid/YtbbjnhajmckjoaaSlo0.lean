/- Rails: ramps and lags, plain: roundings do not pass numbers. No program here. -/
import Derived.Test.YtbbjnhajmckjoaaSub
import Derived.Test.YtbbjnhajmckjoaaLag
namespace Go.Proofs.Ytbbjnhajmckjoaa.flt
open Ieee

def K0 : Nat := 1074
def U : Nat := 2 ^ K0
theorem rung_exact {m r : Nat} {e : Int} (he : -1074 ≤ e) (hr : r < double.infRung) (h : m * 2 ^ (e + 1074).toNat = V r) : N m e = r := by
  unfold N
  by_cases hm : m = 0
  · rw [if_pos hm]
    rw [hm, Nat.zero_mul] at h
    rcases Nat.eq_zero_or_pos r with q | q
    · exact q.symm
    · have := V_pos q; omega
  · rw [if_neg hm]
    have h1 := rungOf_rd m e hm 1074 (Nat.le_refl _) (by omega)
    have e1 : ((1074 : Nat) : Int) + e = e + 1074 := by omega
    rw [e1, h] at h1
    have h2 := rd_V 0 r
    rw [Nat.pow_zero, Nat.mul_one] at h2
    have := rd_eq (by decide) (by decide) rfl h1 h2
    omega
theorem key_own {z : Nat} (hz : rung z < double.infRung) : ∃ m e, -1074 ≤ e ∧ signed (neg z) m (e + 1074).toNat = val z ∧ m * 2 ^ (e + 1074).toNat = V (rung z) ∧ N m e = rung z ∧ key (double.nearest (neg z) m e) = key z := by
  obtain ⟨m, e, _, he, hm⟩ := read_fin hz
  have hn := rung_exact he hz hm
  refine ⟨m, e, he, ?_, hm, hn, ?_⟩
  · have := signed_val (x := z) (m := m) (e := e) (b := -1074) (by omega) he hm
    rw [show (-1074 + 1074 : Int).toNat = 0 from rfl, Nat.pow_zero] at this
    rw [← this, show e - -1074 = e + 1074 by omega]
    omega
  · rw [key_nearest, hn]; rfl
theorem round_le {s : Bool} {m z : Nat} {e : Int} (he : -1074 ≤ e) (hz : rung z < double.infRung) (h : signed s m (e + 1074).toNat ≤ val z) : key (double.nearest s m e) ≤ key z := by
  obtain ⟨n, j, hj, hv, _, _, hk⟩ := key_own hz
  rw [← hk]
  refine near_mono (K := 1074) (Nat.le_refl _) (by omega) (by omega) ?_
  have e1 : ((1074 : Nat) : Int) + e = e + 1074 := by omega
  have e2 : ((1074 : Nat) : Int) + j = j + 1074 := by omega
  rw [e1, e2, hv]
  exact h
theorem le_round {s : Bool} {m z : Nat} {e : Int} (he : -1074 ≤ e) (hz : rung z < double.infRung) (h : val z ≤ signed s m (e + 1074).toNat) : key z ≤ key (double.nearest s m e) := by
  obtain ⟨n, j, hj, hv, _, _, hk⟩ := key_own hz
  rw [← hk]
  refine near_mono (K := 1074) (Nat.le_refl _) (by omega) (by omega) ?_
  have e1 : ((1074 : Nat) : Int) + e = e + 1074 := by omega
  have e2 : ((1074 : Nat) : Int) + j = j + 1074 := by omega
  rw [e1, e2, hv]
  exact h
theorem val_le {x y : Nat} : val x ≤ val y ↔ key x ≤ key y := by
  have := (val_key (x := y) (y := x)).1
  omega
theorem val_word (s : Bool) {r : Nat} (h : r < double.infRung) : rung (double.word s r) = r ∧ neg (double.word s r) = s ∧ val (double.word s r) = if s then -(V r : Int) else V r := by
  have hr : r < double.signWeight := Nat.lt_trans h (Format.infRung_lt double)
  have h1 : rung (double.word s r) = r := word_mod double s hr
  have h2 : neg (double.word s r) = s := word_div double s hr
  refine ⟨h1, h2, ?_⟩
  unfold val
  rw [h1, h2]
theorem fmul_spec {x y : Nat} (hx : rung x < double.infRung) (hy : rung y < double.infRung) : floatBits .mul .f64 x y = some (fmul x y) ∧
    ∃ m e, fmul x y = double.nearest (neg x ^^ neg y) m e ∧ -2148 ≤ e ∧ m * 2 ^ (e + 2148).toNat = V (rung x) * V (rung y) := by
  obtain ⟨m, i, h1, hi, hm⟩ := read_fin hx
  obtain ⟨n, j, h2, hj, hn⟩ := read_fin hy
  have e : double.mul x y = some (double.nearest (neg x ^^ neg y) (m * n) (i + j)) := by
    unfold Format.mul
    rw [h1, h2]
    rfl
  refine ⟨by show double.mul x y = some ((double.mul x y).getD 0); rw [e]; rfl, m * n, i + j, by unfold fmul; rw [e]; rfl, by omega, ?_⟩
  rw [← hm, ← hn, show (i + j + 2148).toNat = (i + 1074).toNat + (j + 1074).toNat by omega, Nat.pow_add]
  rw [Nat.mul_assoc, Nat.mul_assoc, Nat.mul_left_comm n]
/-- a product is no greater than what the product of the sizes comes to -/
theorem fmul_size {x y z : Nat} (hx : rung x < double.infRung) (hy : rung y < double.infRung) (hz : rung z < double.infRung) (h : V (rung x) * V (rung y) ≤ V (rung z) * U) :
    ∃ r, r ≤ rung z ∧ fmul x y = double.word (neg x ^^ neg y) r := by
  obtain ⟨_, m, e, h1, he, hv⟩ := fmul_spec hx hy
  obtain ⟨n, j, hj, _, hn, hN, _⟩ := key_own hz
  refine ⟨N m e, ?_, by rw [h1, nearest_N]⟩
  rw [← hN]
  refine N_mono (K := 2148) (by decide) (by omega) (by omega) ?_
  have e1 : ((2148 : Nat) : Int) + e = e + 2148 := by omega
  have e2 : (((2148 : Nat) : Int) + j).toNat = (j + 1074).toNat + K0 := by unfold K0; omega
  rw [e1, hv, e2, Nat.pow_add, ← Nat.mul_assoc, hn]
  exact h
theorem V_mono {r q : Nat} (h : r ≤ q) : V r ≤ V q := by
  rcases Nat.lt_or_ge r q with k | k
  · exact Nat.le_of_lt (V_lt k)
  · have : r = q := by omega
    rw [this]; exact Nat.le_refl _
/-- a part of something: a factor from 0 to 1 -/
theorem part_of {a d : Nat} (ha : rung a < double.infRung) (hn : neg a = false) (h1 : V (rung a) ≤ U) (hd : rung d < double.infRung) : floatBits .mul .f64 a d = some (fmul a d) ∧ rung (fmul a d) < double.infRung ∧ (0 ≤ val d → 0 ≤ val (fmul a d) ∧ val (fmul a d) ≤ val d) ∧ (val d ≤ 0 → val d ≤ val (fmul a d) ∧ val (fmul a d) ≤ 0) := by
  obtain ⟨r, hr, he⟩ := fmul_size ha hd hd (by rw [Nat.mul_comm (V (rung d))]; exact Nat.mul_le_mul_right _ h1)
  rw [hn, Bool.false_xor] at he
  obtain ⟨v1, v2, v3⟩ := val_word (neg d) (Nat.lt_of_le_of_lt hr hd)
  have hV := V_mono hr
  refine ⟨(fmul_spec ha hd).1, by rw [he, v1]; omega, fun h => ?_, fun h => ?_⟩
  · rw [he, v3]
    unfold val at h ⊢
    split at h <;> rename_i q
    · simp only [q, if_true] at h ⊢; omega
    · simp only [q, if_false, Bool.false_eq_true] at h ⊢; omega
  · rw [he, v3]
    unfold val at h ⊢
    split at h <;> rename_i q
    · simp only [q, if_true] at h ⊢; omega
    · simp only [q, if_false, Bool.false_eq_true] at h ⊢; omega
theorem key_pos {x : Nat} (h : neg x = false) : key x = rung x := by unfold key; rw [h]; rfl
theorem fmul_mono {x1 x2 y : Nat} (h1 : rung x1 < double.infRung) (h2 : rung x2 < double.infRung) (hy : rung y < double.infRung) (n1 : neg x1 = false) (n2 : neg x2 = false) (ny : neg y = false) (h : key x1 ≤ key x2) : 0 ≤ key (fmul x1 y) ∧ key (fmul x1 y) ≤ key (fmul x2 y) := by
  obtain ⟨_, m, e, h3, he, hv⟩ := fmul_spec h1 hy
  obtain ⟨_, n, f, h4, hf, hw⟩ := fmul_spec h2 hy
  rw [n1, ny] at h3
  rw [n2, ny] at h4
  rw [key_pos n1, key_pos n2] at h
  have hV : V (rung x1) ≤ V (rung x2) := by
    rcases Nat.lt_or_ge (rung x1) (rung x2) with q | q
    · exact Nat.le_of_lt (V_lt q)
    · have : rung x1 = rung x2 := by omega
      rw [this]; exact Nat.le_refl _
  have hle : V (rung x1) * V (rung y) ≤ V (rung x2) * V (rung y) := Nat.mul_le_mul_right _ hV
  rw [← hv, ← hw] at hle
  rw [h3, h4]
  constructor
  · rw [key_nearest]; simp
  · refine near_mono (K := 2148) (by decide) (by omega) (by omega) ?_
    have c1 : ((2148 : Nat) : Int) + e = e + 2148 := by omega
    have c2 : ((2148 : Nat) : Int) + f = f + 2148 := by omega
    rw [c1, c2, signed_eq, signed_eq]
    exact Int.ofNat_le.mpr hle
end Go.Proofs.Ytbbjnhajmckjoaa.flt
