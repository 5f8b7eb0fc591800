/- Floats: where nothing is rounded. No program here. -/
import Derived.Test.YtdjdkhbagoideaaHt
namespace Go.Proofs.Ytdjdkhbagoideaa
open flt Ieee

theorem val_of_key {x z : Nat} (hz : rung z < double.infRung) (h : key x = key z) : rung x < double.infRung ∧ val x = val z := by
  refine ⟨fin_between hz hz (by omega) (by omega), ?_⟩
  exact (val_key (x := x) (y := z)).2.2 h
theorem near_exact {s : Bool} {m z : Nat} {e : Int} (he : -1074 ≤ e) (hz : rung z < double.infRung) (h : signed s m (e + 1074).toNat = val z) : rung (double.nearest s m e) < double.infRung ∧ val (double.nearest s m e) = val z := by
  refine val_of_key hz (Int.le_antisymm (round_le he hz (by omega)) (le_round he hz (by omega)))
theorem add_exact {x y z : Nat} (hx : rung x < double.infRung) (hy : rung y < double.infRung) (hz : rung z < double.infRung) (h : val x + val y = val z) : rung (fadd x y) < double.infRung ∧ val (fadd x y) = val z := by
  obtain ⟨s, m, e, h1, he, hv⟩ := fadd_spec hx hy
  rw [h1]
  exact near_exact he hz (by omega)
theorem sub_exact {x y z : Nat} (hx : rung x < double.infRung) (hy : rung y < double.infRung) (hz : rung z < double.infRung) (h : val x - val y = val z) : rung (fsub x y) < double.infRung ∧ val (fsub x y) = val z := by
  obtain ⟨_, s, m, e, h1, he, hv⟩ := fsub_spec hx hy
  rw [h1]
  exact near_exact he hz (by omega)
theorem val_signed (x : Nat) : val x = signed (neg x) (V (rung x)) 0 := by
  unfold val
  rw [signed_eq, Nat.pow_zero, Nat.mul_one]
theorem mul_exact {x y z : Nat} (hx : rung x < double.infRung) (hy : rung y < double.infRung) (hz : rung z < double.infRung) (h : val x * val y = val z * (U : Int)) : rung (fmul x y) < double.infRung ∧ val (fmul x y) = val z := by
  obtain ⟨_, m, e, h1, he, hv⟩ := fmul_spec hx hy
  obtain ⟨n, j, hj, hs, hn, _, hk⟩ := key_own hz
  rw [h1]
  have e1 : ((2148 : Nat) : Int) + e = e + 2148 := by omega
  have e2 : (((2148 : Nat) : Int) + j).toNat = (j + 1074).toNat + K0 := by unfold K0; omega
  have s1 : signed (neg x ^^ neg y) m (((2148 : Nat) : Int) + e).toNat = val x * val y := by
    rw [e1, signed_eq, hv]
    unfold val
    cases neg x <;> cases neg y <;> simp [Int.natCast_mul, Int.neg_mul, Int.mul_neg]
  have s2 : signed (neg z) n (((2148 : Nat) : Int) + j).toNat = val z * (U : Int) := by
    rw [e2, signed_eq, Nat.pow_add, ← Nat.mul_assoc, hn]
    unfold val U
    cases neg z
    · simp only [Bool.false_eq_true, if_false]; rw [Int.natCast_mul]
    · simp only [if_true]; rw [Int.natCast_mul, Int.neg_mul]
  refine val_of_key hz ?_
  rw [← hk]
  refine Int.le_antisymm ?_ ?_
  · exact near_mono (K := 2148) (by decide) (by omega) (by omega) (by rw [s1, s2, h]; exact Int.le_refl _)
  · exact near_mono (K := 2148) (by decide) (by omega) (by omega) (by rw [s1, s2, h]; exact Int.le_refl _)
theorem three_mul (A P B : Nat) : 2 * A * (P * B) = A * P * (B * 2) := by
  rw [Nat.mul_comm 2 A, Nat.mul_assoc, Nat.mul_assoc]
  congr 1
  rw [Nat.mul_left_comm, Nat.mul_comm B 2]
theorem read_two : double.read 4611686018427387904 = .number false (2 ^ 52) (-51) := by decide
theorem div2_exact {x z : Nat} (hx : rung x < double.infRung) (hz : rung z < double.infRung) (h : val x = 2 * val z) : floatBits .quo .f64 x 4611686018427387904 = some (fdiv x 4611686018427387904) ∧ rung (fdiv x 4611686018427387904) < double.infRung ∧ val (fdiv x 4611686018427387904) = val z := by
  obtain ⟨m, i, hr, hi, hm⟩ := read_fin hx
  have hnx : nn x := by unfold nn; rw [hr]; rfl
  refine ⟨(div_some hnx read_two (by decide)).1, ?_⟩
  rw [fdiv_eq hr read_two (by decide), Bool.xor_false]
  have hV : V (rung x) = 2 * V (rung z) := by
    unfold val at h
    cases h1 : neg x <;> cases h2 : neg z <;> simp only [h1, h2, if_true, if_false, Bool.false_eq_true] at h <;> omega
  by_cases h0 : m = 0
  · have hz0 : V (rung z) = 0 := by rw [h0, Nat.zero_mul] at hm; omega
    rw [h0, quoN_zero]
    obtain ⟨w1, w2, w3⟩ := val_word (neg x) (r := 0) (by rw [infRung_eq]; decide)
    refine ⟨by rw [w1, infRung_eq]; decide, ?_⟩
    rw [w3, V_zero]
    unfold val
    rw [hz0]
    split <;> split <;> rfl
  · have hzpos : V (rung z) ≠ 0 := by
      have := Nat.mul_pos (Nat.pos_of_ne_zero h0) (Nat.two_pow_pos (i + 1074).toNat)
      omega
    obtain ⟨K, hK⟩ : ∃ K : Nat, K = 4000 + (54 + (2 ^ 52 : Nat).log2 - m.log2) := ⟨_, rfl⟩
    obtain ⟨r, hr1, hr2⟩ := quoN_rd i (-51) h0 (by decide : (2 ^ 52 : Nat) ≠ 0) K (by omega) (by rw [hK]; omega)
    have hrz : r = rung z := by
      refine rd_eq (by decide) (by decide) ?_ hr2 (rd_V (K - 1074) (rung z))
      rw [Nat.mul_one]
      have e1 : ((K : Int) + i - -51).toNat = (i + 1074).toNat + ((K - 1074) + 51) := by omega
      rw [e1, Nat.pow_add, ← Nat.mul_assoc, hm, hV, Nat.pow_add]
      exact three_mul (V (rung z)) _ (2 ^ 51)
    rw [hr1, hrz, Nat.min_eq_left (Nat.le_of_lt hz)]
    obtain ⟨w1, w2, w3⟩ := val_word (neg x) hz
    refine ⟨by rw [w1]; exact hz, ?_⟩
    rw [w3]
    have hng : neg x = neg z := by
      unfold val at h
      cases h1 : neg x <;> cases h2 : neg z <;> simp only [h1, h2, if_true, if_false, Bool.false_eq_true] at h <;> first | rfl | omega
    rw [hng]
    rfl
/-- a grid of steps of one 2^20-th -/
def K1 : Nat := 1054
def G : Nat := 2 ^ K1
theorem U_G : (U : Int) = 1048576 * (G : Int) := by
  have : U = 1048576 * G := by
    unfold U G
    rw [show K0 = 20 + K1 from rfl, Nat.pow_add]
  rw [this, Int.natCast_mul]; rfl
theorem grid_nat {c : Nat} (h : c < 2 ^ 53) : ∃ r, r < double.infRung ∧ V r = c * G := by
  rcases Nat.eq_zero_or_pos c with hc | hc
  · exact ⟨0, by rw [infRung_eq]; decide, by rw [hc, Nat.zero_mul]; rfl⟩
  · obtain ⟨l, hl⟩ : ∃ l, c.log2 = l := ⟨_, rfl⟩
    have h1 : 2 ^ l ≤ c := by rw [← hl]; exact Nat.log2_self_le (by omega)
    have h2 : c < 2 ^ (l + 1) := by rw [← hl]; exact Nat.lt_log2_self
    have hl53 : l < 53 := two_pow_lt (Nat.lt_of_le_of_lt h1 h)
    have h3 : 2 ^ 52 ≤ c * 2 ^ (52 - l) := by
      have : 2 ^ l * 2 ^ (52 - l) ≤ c * 2 ^ (52 - l) := Nat.mul_le_mul_right _ h1
      rwa [← Nat.pow_add, show l + (52 - l) = 52 by omega] at this
    have h4 : c * 2 ^ (52 - l) < 2 ^ 53 := by
      have : c * 2 ^ (52 - l) < 2 ^ (l + 1) * 2 ^ (52 - l) := Nat.mul_lt_mul_of_pos_right h2 (Nat.two_pow_pos _)
      rwa [← Nat.pow_add, show l + 1 + (52 - l) = 53 by omega] at this
    obtain ⟨f, hf⟩ : ∃ f, c * 2 ^ (52 - l) = 2 ^ 52 + f := ⟨c * 2 ^ (52 - l) - 2 ^ 52, by omega⟩
    have hf2 : f < 2 ^ 52 := by omega
    have hdiv : ((1003 + l) * 2 ^ 52 + f) / 2 ^ 52 = 1003 + l := by omega
    have hmod : ((1003 + l) * 2 ^ 52 + f) % 2 ^ 52 = f := by omega
    refine ⟨(1003 + l) * 2 ^ 52 + f, by rw [infRung_eq]; omega, ?_⟩
    unfold V
    rw [if_neg (by omega), hdiv, hmod, ← hf]
    unfold G
    rw [Nat.mul_assoc, ← Nat.pow_add, show 52 - l + (1003 + l - 1) = K1 by unfold K1; omega]
theorem grid (n : Int) (h : -9007199254740992 < n ∧ n < 9007199254740992) : ∃ z, rung z < double.infRung ∧ val z = n * (G : Int) := by
  obtain ⟨r, hr, hV⟩ := grid_nat (c := n.natAbs) (by omega)
  obtain ⟨h1, _, h3⟩ := val_word (decide (n < 0)) hr
  refine ⟨double.word (decide (n < 0)) r, by rw [h1]; exact hr, ?_⟩
  rw [h3, hV]
  by_cases hn : n < 0
  · simp only [hn, decide_true, if_true]
    rw [Int.natCast_mul, ← Int.neg_mul]
    congr 1; omega
  · simp only [hn, decide_false, if_false, Bool.false_eq_true]
    rw [Int.natCast_mul]
    congr 1; omega
def half : Nat := 4602678819172646912
theorem half_val : rung half < double.infRung ∧ val half * 2 = (U : Int) := by decide +kernel
/-- half the way -/
theorem feel_exact {h x : Nat} {a c : Int} (hh : rung h < double.infRung) (hx : rung x < double.infRung) (ea : val h = a * (G : Int)) (eb : val x = (a + 2 * c) * (G : Int)) (ba : -4503599627370496 < a ∧ a < 4503599627370496) (bc : -1125899906842624 < c ∧ c < 1125899906842624) :
    rung (fadd h (fmul half (fsub x h))) < double.infRung ∧ val (fadd h (fmul half (fsub x h))) = (a + c) * (G : Int) := by
  obtain ⟨z1, f1, v1⟩ := grid (2 * c) (by omega)
  obtain ⟨z2, f2, v2⟩ := grid c (by omega)
  obtain ⟨z3, f3, v3⟩ := grid (a + c) (by omega)
  obtain ⟨g1, w1⟩ := sub_exact hx hh f1 (by rw [ea, eb, v1, ← Int.sub_mul]; congr 1; omega)
  have hm : val half * val (fsub x h) = val z2 * (U : Int) := by
    rw [w1, v1, v2, ← half_val.2]
    have e : 2 * c * (G : Int) = c * (G : Int) * 2 := by rw [Int.mul_assoc, Int.mul_comm 2]
    rw [e, Int.mul_comm (val half), Int.mul_assoc, Int.mul_comm 2]
  obtain ⟨g2, w2⟩ := mul_exact half_val.1 g1 f2 hm
  obtain ⟨g3, w3⟩ := add_exact hh g2 f3 (by rw [ea, w2, v2, v3, Int.add_mul])
  exact ⟨g3, by rw [w3, v3]⟩
/-- a whole number, as a float -/
theorem int_val (n : Int) (h : -9007199254740992 < n ∧ n < 9007199254740992) : rung (floatOfInt .f64 n) < double.infRung ∧ val (floatOfInt .f64 n) = n * (U : Int) := by
  obtain ⟨z, hz, hv⟩ := whole n h
  have e : floatOfInt .f64 n = double.nearest (decide (n < 0)) n.natAbs 0 := rfl
  rw [e, ← hv]
  refine near_exact (by omega) hz ?_
  rw [hv, signed_eq]
  have e2 : (0 + 1074 : Int).toNat = K0 := rfl
  rw [e2]
  show _ = n * ((2 ^ K0 : Nat) : Int)
  by_cases hn : n < 0
  · simp only [hn, decide_true, if_true]
    rw [Int.natCast_mul, ← Int.neg_mul]
    congr 1; omega
  · simp only [hn, decide_false, if_false, Bool.false_eq_true]
    rw [Int.natCast_mul]
    congr 1; omega
theorem int_bt (n : Int) (h : -9007199254740992 < n ∧ n < 9007199254740992) : Bt n n (floatOfInt .f64 n) := by
  obtain ⟨h1, h2⟩ := int_val n h
  exact ⟨h1, by rw [h2]; exact Int.le_refl _, by rw [h2]; exact Int.le_refl _⟩
theorem near_of_bt {x : Nat} (h : Bt (-1000000) 1000000 x) : near x = true := by
  obtain ⟨⟨a1, a2⟩, ⟨b1, b2⟩, _⟩ := far_val
  have na : nn 13920209183539462144 := Bt.nn (a := -1000000) (b := 0) ⟨a2, by rw [a1]; exact Int.le_refl _, by rw [a1]; have := U_pos; omega⟩
  have nb : nn 4696837146684686336 := (Bt.nn (a := 0) (b := 1000000) ⟨b2, by rw [b1]; have := U_pos; omega, by rw [b1]; exact Int.le_refl _⟩)
  unfold near
  rw [ge_val h.nn na, le_val h.nn nb, Bool.and_eq_true, decide_eq_true_eq, decide_eq_true_eq]
  exact ⟨val_le.1 (by rw [a1]; exact h.l), val_le.1 (by rw [b1]; exact h.h)⟩
end Go.Proofs.Ytdjdkhbagoideaa
