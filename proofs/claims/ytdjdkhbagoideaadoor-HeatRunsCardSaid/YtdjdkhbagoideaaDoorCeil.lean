/- Floats: what is above nought and below a small whole number, rounded up to a whole one. No program here. -/
import Derived.Test.YtdjdkhbagoideaaDoorCls
import Derived.Test.YtdjdkhbagoideaaDoorFltOps
namespace Go.Proofs.YtdjdkhbagoideaaDoor.flt
open Ieee

/-- the float rounded up -/
def ceilB (x : Nat) : Nat := double.write ((double.read x).integral .up)
theorem small_val : ∀ m : Fin 101, val (floatOfInt .f64 (m.val : Int)) = ((m.val * 2 ^ 1074 : Nat) : Int) ∧ rung (floatOfInt .f64 (m.val : Int)) < double.infRung := by decide +kernel
theorem small_int : ∀ c : Fin 101, floatToIntVal .f64 (double.write (.number false c.val 0)) .i64 = some (c.val : Int) := by decide +kernel
theorem up_cut (n d : Nat) : ∃ g, 0 < g ∧ (g = 2 ^ d ∨ (n < g ∧ g ≤ 2 ^ d)) ∧ Toward.up.cut false n d = n / g + (if n % g = 0 then 0 else 1) := by
  refine ⟨2 ^ min d (n.log2 + 2), Nat.two_pow_pos _, ?_, ?_⟩
  · rcases Nat.le_total d (n.log2 + 2) with h | h
    · left; rw [Nat.min_eq_left h]
    · right
      rw [Nat.min_eq_right h]
      refine ⟨?_, Nat.pow_le_pow_right (by decide) h⟩
      have h1 := Nat.lt_log2_self (n := n)
      have h2 : 2 ^ (n.log2 + 1) ≤ 2 ^ (n.log2 + 2) := Nat.pow_le_pow_right (by decide) (by omega)
      omega
  · unfold Toward.cut
    simp only [Nat.shiftLeft_eq, Nat.one_mul, Bool.not_false, Bool.true_and]
    by_cases hz : n % 2 ^ min d (n.log2 + 2) = 0
    · simp [hz]
    · have : (n % 2 ^ min d (n.log2 + 2) != 0) = true := by simpa using hz
      rw [this, if_neg hz]; rfl
theorem pos_of_lt_mul {a m K : Nat} (h : a < m * K) : 1 ≤ m := by
  rcases Nat.eq_zero_or_pos m with q | q
  · rw [q, Nat.zero_mul] at h; exact absurd h (Nat.not_lt_zero _)
  · exact q
theorem ceil_small {x m : Nat} (h0 : 0 < key x) (hm : m ≤ 100) (h1 : key x < key (floatOfInt .f64 (m : Int))) : ∃ c : Nat, 1 ≤ c ∧ c ≤ m ∧ ceilB x = double.write (.number false c 0) ∧ floatToIntVal .f64 (ceilB x) .i64 = some (c : Int) := by
  obtain ⟨hv, hr⟩ := small_val ⟨m, by omega⟩
  simp only at hv hr
  have hng : neg x = false := by
    unfold key at h0
    cases hq : neg x with
    | false => rfl
    | true => rw [hq] at h0; simp only [if_true] at h0; omega
  have hkr : key x = rung x := by unfold key; rw [hng]; rfl
  have hxr : rung x < double.infRung := by
    have h2 : key (floatOfInt .f64 (m : Int)) ≤ (rung (floatOfInt .f64 (m : Int)) : Int) := by
      rcases rung_key (floatOfInt .f64 (m : Int)) with q | q <;> omega
    omega
  obtain ⟨n, e, hrd, he, hV⟩ := read_fin hxr
  rw [hng] at hrd
  have hlt := val_key.1.2 h1
  rw [hv] at hlt
  have hvx : val x = (V (rung x) : Int) := by unfold val; rw [hng]; rfl
  rw [hvx, ← hV] at hlt
  have hlt' : n * 2 ^ (e + 1074).toNat < m * 2 ^ 1074 := Int.ofNat_lt.1 hlt
  have hn0 : 0 < n := by
    have hp : 0 < V (rung x) := V_pos (by omega)
    rw [← hV] at hp
    exact Nat.pos_of_mul_pos_right hp
  have hm1 : 1 ≤ m := pos_of_lt_mul hlt'
  have key1 : ∃ c, 1 ≤ c ∧ c ≤ m ∧ (double.read x).integral .up = .number false c 0 := by
    rw [hrd]
    unfold Datum.integral
    simp only
    rcases Int.lt_or_le e 0 with hneg | hpos
    · have e1 : e.toNat = 0 := by omega
      rw [e1, Nat.shiftLeft_zero]
      obtain ⟨d, hd⟩ : ∃ d : Nat, (-e).toNat = d := ⟨_, rfl⟩
      rw [hd]
      have hd2 : d ≤ 1074 := by omega
      have hnm : n < m * 2 ^ d := by
        have e2 : (e + 1074).toNat = 1074 - d := by omega
        rw [e2] at hlt'
        have e3 : (2 : Nat) ^ 1074 = 2 ^ d * 2 ^ (1074 - d) := by rw [← Nat.pow_add]; congr 1; omega
        rw [e3, ← Nat.mul_assoc] at hlt'
        exact Nat.lt_of_mul_lt_mul_right hlt'
      obtain ⟨g, hg0, hg, hc⟩ := up_cut n d
      rw [hc]
      clear hlt hlt' hv hV hvx h1 h0 hr hxr hkr hrd he
      have hng2 : n ≤ m * g := by
        rcases hg with q | ⟨q, _⟩
        · rw [q]; omega
        · have : g ≤ m * g := Nat.le_mul_of_pos_left _ hm1
          omega
      have hdm := Nat.div_add_mod n g
      refine ⟨n / g + (if n % g = 0 then 0 else 1), ?_, ?_, rfl⟩
      · by_cases hz : n % g = 0
        · rw [if_pos hz]
          have : n / g ≠ 0 := fun q => by rw [q, hz, Nat.mul_zero] at hdm; omega
          exact Nat.pos_of_ne_zero this
        · rw [if_neg hz]; exact Nat.le_add_left _ _
      · by_cases hz : n % g = 0
        · rw [if_pos hz]
          have : n / g * g ≤ m * g := by have := Nat.div_mul_le_self n g; omega
          exact Nat.le_of_mul_le_mul_right this hg0
        · rw [if_neg hz]
          have : n / g * g < m * g := by
            have q : g * (n / g) = n / g * g := Nat.mul_comm _ _
            omega
          exact Nat.lt_of_mul_lt_mul_right this
    · have e1 : (-e).toNat = 0 := by omega
      rw [e1]
      obtain ⟨k, hk⟩ : ∃ k : Nat, e.toNat = k := ⟨_, rfl⟩
      rw [hk, Nat.shiftLeft_eq]
      have e2 : (e + 1074).toNat = k + 1074 := by omega
      rw [e2, Nat.pow_add, ← Nat.mul_assoc] at hlt'
      have hlt2 := Nat.lt_of_mul_lt_mul_right hlt'
      obtain ⟨g, hg0, hg, hc⟩ := up_cut (n * 2 ^ k) 0
      have hg1 : g = 1 := by
        rcases hg with q | ⟨_, q⟩
        · simpa using q
        · have : (2 : Nat) ^ 0 = 1 := rfl
          omega
      rw [hc, hg1]
      have hp : 0 < n * 2 ^ k := Nat.mul_pos hn0 (Nat.two_pow_pos _)
      refine ⟨n * 2 ^ k / 1 + (if n * 2 ^ k % 1 = 0 then 0 else 1), ?_, ?_, rfl⟩
      · rw [Nat.mod_one, if_pos rfl, Nat.div_one]; omega
      · rw [Nat.mod_one, if_pos rfl, Nat.div_one]; omega
  obtain ⟨c, hc1, hcm, hc⟩ := key1
  refine ⟨c, hc1, hcm, by unfold ceilB; rw [hc], ?_⟩
  unfold ceilB
  rw [hc]
  exact small_int ⟨c, by omega⟩
end Go.Proofs.YtdjdkhbagoideaaDoor.flt
