/- Sums, products and quotients of the model's floats are monotone. Plain: no program here. -/
import Derived.Test.YtdjdkhbagoideaaDoorFltMono
namespace Go.Proofs.YtdjdkhbagoideaaDoor.flt
open Ieee

theorem key_word (s : Bool) {r : Nat} (h : r ≤ double.infRung) : key (double.word s r) = if s then -(r : Int) else r := by
  have hr : r < double.signWeight := Nat.lt_of_le_of_lt h (Format.infRung_lt double)
  unfold key rung neg
  rw [word_mod double s hr, word_div double s hr]
/-- the rung of a number's rounding -/
def N (m : Nat) (e : Int) : Nat := if m = 0 then 0 else min (rungOf m e) double.infRung
theorem N_le (m : Nat) (e : Int) : N m e ≤ double.infRung := by
  unfold N; split
  · exact Nat.zero_le _
  · exact Nat.min_le_right _ _
theorem nearest_N (s : Bool) (m : Nat) (e : Int) : double.nearest s m e = double.word s (N m e) := by
  unfold N
  by_cases h : m = 0
  · rw [if_pos h]; unfold Format.nearest; rw [if_pos h]
  · rw [if_neg h, nearest_eq s m e h]
theorem key_nearest (s : Bool) (m : Nat) (e : Int) : key (double.nearest s m e) = if s then -(N m e : Int) else N m e := by
  rw [nearest_N, key_word s (N_le m e)]
theorem N_mono {K : Nat} (hK : 1074 ≤ K) {m n : Nat} {i j : Int} (hi : 0 ≤ (K : Int) + i) (hj : 0 ≤ (K : Int) + j) (h : m * 2 ^ ((K : Int) + i).toNat ≤ n * 2 ^ ((K : Int) + j).toNat) : N m i ≤ N n j := by
  unfold N
  by_cases hm : m = 0
  · rw [if_pos hm]; exact Nat.zero_le _
  · have hn : n ≠ 0 := by
      rintro rfl
      rw [Nat.zero_mul] at h
      have := Nat.mul_pos (Nat.pos_of_ne_zero hm) (Nat.two_pow_pos ((K : Int) + i).toNat)
      omega
    rw [if_neg hm, if_neg hn]
    have := rd_mono (by decide) (by decide) (by simpa using h) (rungOf_rd m i hm K hK hi) (rungOf_rd n j hn K hK hj)
    omega
theorem near_mono {K : Nat} (hK : 1074 ≤ K) {s t : Bool} {m n : Nat} {i j : Int} (hi : 0 ≤ (K : Int) + i) (hj : 0 ≤ (K : Int) + j)
    (h : signed s m ((K : Int) + i).toNat ≤ signed t n ((K : Int) + j).toNat) : key (double.nearest s m i) ≤ key (double.nearest t n j) := by
  rw [signed_eq, signed_eq] at h
  rw [key_nearest, key_nearest]
  have p1 := fun h => N_mono hK hi hj (m := m) (n := n) h
  have p2 := fun h => N_mono hK hj hi (m := n) (n := m) h
  have p3 : ∀ (m : Nat) (u : Nat) (e : Int), m * 2 ^ u = 0 → N m e = 0 := fun m u e h => by
    rcases Nat.mul_eq_zero.1 h with h | h
    · unfold N; rw [if_pos h]
    · have := Nat.two_pow_pos u; omega
  have p4 := p3 m ((K : Int) + i).toNat i
  have p5 := p3 n ((K : Int) + j).toNat j
  clear p3
  generalize m * 2 ^ ((K : Int) + i).toNat = a at *
  generalize n * 2 ^ ((K : Int) + j).toNat = b at *
  cases s <;> cases t <;> simp only [if_true, if_false, Bool.false_eq_true] at h ⊢
  · have := p1 (by omega); omega
  · have := p4 (by omega)
    have := p5 (by omega)
    omega
  · omega
  · have := p2 (by omega); omega

/-- the sum, exactly, in units of the least place -/
theorem signed_neg_abs (z : Int) (b : Bool) (hb : z = 0 ∨ b = decide (z < 0)) : signed b z.natAbs 0 = z := by
  rw [signed_eq, Nat.pow_zero, Nat.mul_one]
  rcases hb with rfl | rfl
  · cases b <;> simp
  · by_cases h : z < 0
    · simp only [h, decide_true, if_true]; omega
    · simp only [h, decide_false, if_false, Bool.false_eq_true]; omega
theorem signed_mul (s : Bool) (m u : Nat) : signed s m u = signed s m 0 * (2 ^ u : Nat) := by
  rw [signed_eq, signed_eq, Nat.pow_zero, Nat.mul_one]
  cases s
  · simp only [Bool.false_eq_true, if_false]; rw [Int.natCast_mul]
  · simp only [if_true]; rw [Int.natCast_mul, Int.neg_mul]
theorem fadd_spec {x y : Nat} (hx : rung x < double.infRung) (hy : rung y < double.infRung) : ∃ s m e, fadd x y = double.nearest s m e ∧ -1074 ≤ e ∧ signed s m (e + 1074).toNat = val x + val y := by
  obtain ⟨m, i, h1, hi, hm⟩ := read_fin hx
  obtain ⟨n, j, h2, hj, hn⟩ := read_fin hy
  unfold fadd Format.add
  rw [h1, h2]
  refine ⟨_, _, min i j, rfl, by omega, ?_⟩
  have s1 := signed_val (x := x) (b := min i j) (by omega) (by omega) hm
  have s2 := signed_val (x := y) (b := min i j) (by omega) (by omega) hn
  rw [← s1, ← s2, ← Int.add_mul, signed_mul]
  congr 1
  apply signed_neg_abs
  by_cases h0 : signed (neg x) m (i - min i j).toNat + signed (neg y) n (j - min i j).toNat = 0
  · exact Or.inl h0
  · right; rw [if_neg h0]
/-- A SUM IS MONOTONE -/
theorem fadd_mono {x1 x2 y : Nat} (h1 : rung x1 < double.infRung) (h2 : rung x2 < double.infRung) (hy : rung y < double.infRung) (h : key x1 ≤ key x2) : key (fadd x1 y) ≤ key (fadd x2 y) := by
  obtain ⟨s, m, e, h3, he, hv⟩ := fadd_spec h1 hy
  obtain ⟨t, n, f, h4, hf, hw⟩ := fadd_spec h2 hy
  rw [h3, h4]
  have hval : val x1 ≤ val x2 := by
    rcases Int.lt_or_le (val x2) (val x1) with k | k
    · have := (val_key (x := x2) (y := x1)).1.1 k; omega
    · exact k
  refine near_mono (K := 1074) (by decide) (by omega) (by omega) ?_
  have e1 : ((1074 : Nat) : Int) + e = e + 1074 := by omega
  have e2 : ((1074 : Nat) : Int) + f = f + 1074 := by omega
  rw [e1, e2, hv, hw]
  omega

/-- a quotient's rounding is that of the exact quotient -/
theorem rd_quotient {D n T S u0 r : Nat} (hn : 0 < n) (hT : 0 < T) (k : Nat) (hk : T = 2 ^ k) (hS : S = (2 * (D / n) + (D % n != 0).toNat) * T) (hq : 2 ^ 54 ≤ 2 * (D / n) + (D % n != 0).toNat)
    (h : Rd u0 S 1 r) : Rd u0 (2 * D * T) n r := by
  obtain ⟨u, c, hu, hr, hc, hlt, hge⟩ := h
  have hd := Nat.div_add_mod D n
  have hm := Nat.mod_lt D hn
  have hst : (D % n != 0).toNat = 0 ∧ D % n = 0 ∨ (D % n != 0).toNat = 1 ∧ 0 < D % n := by
    by_cases e : D % n = 0
    · left; simp [e]
    · right; exact ⟨by simp [e], Nat.pos_of_ne_zero e⟩
  generalize (D % n != 0).toNat = st at *
  generalize D % n = t at *
  generalize hw : D / n = w at *
  have hku : k + 2 ≤ u := by
    have a : 2 ^ 54 * 2 ^ k ≤ S := by rw [hS, hk]; exact Nat.mul_le_mul_right _ hq
    rw [← Nat.pow_add] at a
    rw [Nat.mul_one] at hlt
    have := two_pow_lt (Nat.lt_of_le_of_lt a hlt)
    omega
  -- the units, in halves of T
  obtain ⟨hh, hpos, hU⟩ : ∃ hh, 0 < hh ∧ 2 ^ u = 4 * (T * hh) := by
    refine ⟨2 ^ (u - 2 - k), Nat.two_pow_pos _, ?_⟩
    rw [hk, ← Nat.pow_add, show (4 : Nat) = 2 ^ 2 from rfl, ← Nat.pow_add]
    congr 1; omega
  obtain ⟨a1, a2, a3, a4⟩ := hc
  rw [Nat.mul_one] at a1 a2 a3 a4
  have hT2 : 0 < 2 * T := by omega
  have hT4 : 0 < 4 * T := by omega
  -- the sticky quotient's side
  have b1 : 2 * c * 2 ^ u = 4 * (c * hh) * (2 * T) := by rw [hU]; ac_rfl
  have b2 : 2 * S = (2 * w + st) * (2 * T) := by rw [hS]; ac_rfl
  have b3 : 2 ^ u = 2 * hh * (2 * T) := by rw [hU, show (4 : Nat) = 2 * 2 from rfl]; ac_rfl
  have b4 : (2 * c + 1) * 2 ^ u = (4 * (c * hh) + 2 * hh) * (2 * T) := by rw [Nat.add_mul, Nat.one_mul, b1, b3, ← Nat.add_mul]
  have c1 : 4 * (c * hh) ≤ (2 * w + st) + 2 * hh := by
    apply Nat.le_of_mul_le_mul_right _ hT2
    rw [Nat.add_mul _ (2 * hh), ← b1, ← b2, ← b3]; exact a1
  have c2 : 2 * w + st ≤ 4 * (c * hh) + 2 * hh := by
    apply Nat.le_of_mul_le_mul_right _ hT2
    rw [← b2, ← b4]; exact a2
  have c3 : 4 * (c * hh) = (2 * w + st) + 2 * hh → c % 2 = 0 := fun e => a3 (by rw [b1, b2, b3, ← Nat.add_mul, e])
  have c4 : 2 * w + st = 4 * (c * hh) + 2 * hh → c % 2 = 0 := fun e => a4 (by rw [b2, b4, e])
  have c5 : 2 * w + st < 2 * (2 ^ 54 * hh) := by
    apply Nat.lt_of_mul_lt_mul_right (a := T)
    rw [← hS]
    have : 2 ^ (53 + u) = 2 * (2 ^ 54 * hh) * T := by
      rw [Nat.pow_add, hU, show (4 : Nat) = 2 * 2 from rfl, show (2 : Nat) ^ 54 = 2 ^ 53 * 2 from rfl]; ac_rfl
    rw [← this]; rw [Nat.mul_one] at hlt; exact hlt
  have c6 : u0 < u → 2 * (2 ^ 53 * hh) ≤ 2 * w + st := fun e => by
    apply Nat.le_of_mul_le_mul_right _ hT
    rw [← hS]
    have : 2 ^ (52 + u) = 2 * (2 ^ 53 * hh) * T := by
      rw [Nat.pow_add, hU, show (4 : Nat) = 2 * 2 from rfl, show (2 : Nat) ^ 53 = 2 ^ 52 * 2 from rfl]; ac_rfl
    rw [← this]; have := hge e; rw [Nat.mul_one] at this; exact this
  -- the exact quotient's side
  have d1 : 2 * c * (2 ^ u * n) = 2 * (c * hh) * n * (4 * T) := by rw [hU]; ac_rfl
  have d2 : 2 * (2 * D * T) = D * (4 * T) := by rw [show (4 : Nat) = 2 * 2 from rfl]; ac_rfl
  have d3 : 2 ^ u * n = hh * n * (4 * T) := by rw [hU]; ac_rfl
  have d4 : (2 * c + 1) * (2 ^ u * n) = (2 * (c * hh) + hh) * n * (4 * T) := by rw [Nat.add_mul, Nat.one_mul, d1, d3, Nat.add_mul _ hh, Nat.add_mul _ (hh * n)]
  have e1 : 2 * (c * hh) ≤ w + hh := by omega
  have hnw : n * w = w * n := Nat.mul_comm ..
  refine ⟨u, c, hu, hr, ⟨?_, ?_, ?_, ?_⟩, ?_, ?_⟩
  · rw [d1, d2, d3, ← Nat.add_mul]
    apply Nat.mul_le_mul_right
    have := Nat.mul_le_mul_right n e1
    rw [Nat.add_mul] at this
    omega
  · rw [d2, d4]
    apply Nat.mul_le_mul_right
    rcases hst with ⟨e, et⟩ | ⟨e, et⟩
    · have : w ≤ 2 * (c * hh) + hh := by omega
      have := Nat.mul_le_mul_right n this
      omega
    · have : w + 1 ≤ 2 * (c * hh) + hh := by omega
      have := Nat.mul_le_mul_right n this
      rw [Nat.add_mul, Nat.one_mul] at this
      omega
  · rw [d1, d2, d3, ← Nat.add_mul]
    intro e
    have e := Nat.eq_of_mul_eq_mul_right hT4 e
    apply c3
    -- 2 A n = D + h n = n w + t + h n
    have e2 : 2 * (c * hh) * n ≤ (w + hh) * n := Nat.mul_le_mul_right n e1
    rw [Nat.add_mul] at e2
    have et : t = 0 := by omega
    have e3 : 2 * (c * hh) * n = (w + hh) * n := by rw [Nat.add_mul]; omega
    have e4 := Nat.eq_of_mul_eq_mul_right hn e3
    rcases hst with ⟨f, _⟩ | ⟨_, f⟩
    · omega
    · omega
  · rw [d2, d4]
    intro e
    have e := Nat.eq_of_mul_eq_mul_right hT4 e
    apply c4
    rcases hst with ⟨f, ft⟩ | ⟨f, ft⟩
    · have e3 : w * n = (2 * (c * hh) + hh) * n := by omega
      have e4 := Nat.eq_of_mul_eq_mul_right hn e3
      omega
    · exfalso
      have : w + 1 ≤ 2 * (c * hh) + hh := by omega
      have := Nat.mul_le_mul_right n this
      rw [Nat.add_mul, Nat.one_mul] at this
      omega
  · have hw2 : w < 2 ^ 54 * hh := by omega
    have h1 := Nat.mul_le_mul_right n (Nat.succ_le_of_lt hw2)
    rw [Nat.succ_mul] at h1
    have h2 : D < 2 ^ 54 * hh * n := by omega
    have h3 : 2 ^ (53 + u) * n = 2 ^ 54 * hh * n * (2 * T) := by
      rw [Nat.pow_add, hU, show (4 : Nat) = 2 * 2 from rfl, show (2 : Nat) ^ 54 = 2 ^ 53 * 2 from rfl]; ac_rfl
    have h4 : 2 * D * T = D * (2 * T) := by ac_rfl
    rw [h3, h4]
    exact (Nat.mul_lt_mul_right hT2).2 h2
  · intro e
    have := c6 e
    have hw2 : 2 ^ 53 * hh ≤ w := by omega
    have h1 := Nat.mul_le_mul_right n hw2
    have h2 : 2 ^ 53 * hh * n ≤ D := by omega
    have h3 : 2 ^ (52 + u) * n = 2 ^ 53 * hh * n * (2 * T) := by
      rw [Nat.pow_add, hU, show (4 : Nat) = 2 * 2 from rfl, show (2 : Nat) ^ 53 = 2 ^ 52 * 2 from rfl]; ac_rfl
    have h4 : 2 * D * T = D * (2 * T) := by ac_rfl
    rw [h3, h4]
    exact Nat.mul_le_mul_right _ h2

/-- the rung of m 2^i over n 2^j -/
def quoN (m : Nat) (i : Int) (n : Nat) (j : Int) : Nat :=
  let more := 54 + n.log2 - m.log2
  N (2 * (m <<< more / n) + (m <<< more % n != 0).toNat) (i - j - more - 1)
theorem fdiv_eq {x y : Nat} {s t : Bool} {m n : Nat} {i j : Int} (hx : double.read x = .number s m i) (hy : double.read y = .number t n j) (hn : n ≠ 0) : fdiv x y = double.word (s ^^ t) (quoN m i n j) := by
  unfold fdiv Format.div quoN
  rw [hx, hy]
  simp only [Datum.quotient, if_neg hn]
  show double.nearest _ _ _ = _
  rw [nearest_N]
  rfl
theorem quoN_zero (i : Int) (n : Nat) (j : Int) : quoN 0 i n j = 0 := by
  unfold quoN N
  simp
theorem sticky_big {m n : Nat} (hm : m ≠ 0) (hn : n ≠ 0) : 2 ^ 54 ≤ 2 * (m <<< (54 + n.log2 - m.log2) / n) + (m <<< (54 + n.log2 - m.log2) % n != 0).toNat := by
  rw [Nat.shiftLeft_eq]
  have h1 := Nat.log2_self_le hm
  have h2 : n < 2 ^ (n.log2 + 1) := Nat.lt_log2_self
  have h3 : 2 ^ (54 + n.log2) ≤ m * 2 ^ (54 + n.log2 - m.log2) := by
    refine Nat.le_trans ?_ (Nat.mul_le_mul_right _ h1)
    rw [← Nat.pow_add]
    exact two_pow_le (by omega)
  have h4 : 2 ^ 53 * n ≤ m * 2 ^ (54 + n.log2 - m.log2) := by
    refine Nat.le_trans (Nat.mul_le_mul_left _ (Nat.le_of_lt h2)) ?_
    rw [← Nat.pow_add, show 53 + (n.log2 + 1) = 54 + n.log2 by omega]
    exact h3
  have : 2 ^ 53 ≤ m * 2 ^ (54 + n.log2 - m.log2) / n := (Nat.le_div_iff_mul_le (Nat.pos_of_ne_zero hn)).2 h4
  generalize m * 2 ^ (54 + n.log2 - m.log2) / n = w at *
  omega
theorem quoN_rd {m n : Nat} (i j : Int) (hm : m ≠ 0) (hn : n ≠ 0) (K : Nat) (hK : 1074 ≤ K) (hKp : 0 ≤ (K : Int) + (i - j - (54 + n.log2 - m.log2 : Nat) - 1)) :
    ∃ r, quoN m i n j = min r double.infRung ∧ Rd (K - 1074) (m * 2 ^ ((K : Int) + i - j).toNat) n r := by
  have hb := sticky_big hm hn
  unfold quoN
  simp only
  generalize 54 + n.log2 - m.log2 = more at *
  have hq : 2 * (m <<< more / n) + (m <<< more % n != 0).toNat ≠ 0 := by
    intro e; rw [e] at hb; omega
  refine ⟨rungOf (2 * (m <<< more / n) + (m <<< more % n != 0).toNat) (i - j - more - 1), ?_, ?_⟩
  · unfold N; rw [if_neg hq]
  · have h := rungOf_rd _ (i - j - more - 1) hq K hK hKp
    have := rd_quotient (D := m <<< more) (n := n) (T := 2 ^ ((K : Int) + (i - j - more - 1)).toNat) (Nat.pos_of_ne_zero hn) (Nat.two_pow_pos _) _ rfl rfl hb h
    have e : 2 * (m <<< more) * 2 ^ ((K : Int) + (i - j - more - 1)).toNat = m * 2 ^ ((K : Int) + i - j).toNat := by
      rw [Nat.shiftLeft_eq]
      have hs : ((K : Int) + i - j).toNat = 1 + more + ((K : Int) + (i - j - more - 1)).toNat := by omega
      rw [hs, Nat.pow_add, Nat.pow_add, Nat.pow_one]
      ac_rfl
    rw [e] at this
    exact this
theorem quoN_mono {m1 m2 n : Nat} {i1 i2 j : Int} (hn : n ≠ 0) (h1 : -1074 ≤ i1) (h2 : -1074 ≤ i2) (h : m1 * 2 ^ (i1 + 1074).toNat ≤ m2 * 2 ^ (i2 + 1074).toNat) : quoN m1 i1 n j ≤ quoN m2 i2 n j := by
  by_cases hm1 : m1 = 0
  · subst hm1; rw [quoN_zero]; exact Nat.zero_le _
  have hm2 : m2 ≠ 0 := by
    rintro rfl
    rw [Nat.zero_mul] at h
    have := Nat.mul_pos (Nat.pos_of_ne_zero hm1) (Nat.two_pow_pos (i1 + 1074).toNat)
    omega
  let K : Nat := 4000 + i1.natAbs + i2.natAbs + j.natAbs + (54 + n.log2 - m1.log2) + (54 + n.log2 - m2.log2)
  have hKd : K = 4000 + i1.natAbs + i2.natAbs + j.natAbs + (54 + n.log2 - m1.log2) + (54 + n.log2 - m2.log2) := rfl
  obtain ⟨r1, e1, d1⟩ := quoN_rd i1 j hm1 hn K (by omega) (by omega)
  obtain ⟨r2, e2, d2⟩ := quoN_rd i2 j hm2 hn K (by omega) (by omega)
  have hle : m1 * 2 ^ ((K : Int) + i1 - j).toNat ≤ m2 * 2 ^ ((K : Int) + i2 - j).toNat := by
    have a1 : ((K : Int) + i1 - j).toNat = (i1 + 1074).toNat + ((K : Int) - j - 1074).toNat := by omega
    have a2 : ((K : Int) + i2 - j).toNat = (i2 + 1074).toNat + ((K : Int) - j - 1074).toNat := by omega
    rw [a1, a2, Nat.pow_add, Nat.pow_add, ← Nat.mul_assoc, ← Nat.mul_assoc]
    exact Nat.mul_le_mul_right _ h
  have hp := Nat.pos_of_ne_zero hn
  have := rd_mono hp hp (Nat.mul_le_mul_right n hle) d1 d2
  rw [e1, e2]
  omega
/-- A QUOTIENT BY A NUMBER ABOVE NOUGHT IS MONOTONE -/
theorem fdiv_mono {x1 x2 y : Nat} {n : Nat} {j : Int} (h1 : rung x1 < double.infRung) (h2 : rung x2 < double.infRung) (hy : double.read y = .number false n j) (hn : n ≠ 0) (h : key x1 ≤ key x2) : key (fdiv x1 y) ≤ key (fdiv x2 y) := by
  obtain ⟨m1, i1, r1, p1, v1⟩ := read_fin h1
  obtain ⟨m2, i2, r2, p2, v2⟩ := read_fin h2
  rw [fdiv_eq r1 hy hn, fdiv_eq r2 hy hn]
  have a1 : quoN m1 i1 n j ≤ double.infRung := N_le _ _
  have a2 : quoN m2 i2 n j ≤ double.infRung := N_le _ _
  rw [key_word _ a1, key_word _ a2]
  have q12 := fun h => quoN_mono (j := j) hn p1 p2 (m1 := m1) (m2 := m2) h
  have q21 := fun h => quoN_mono (j := j) hn p2 p1 (m1 := m2) (m2 := m1) h
  rw [v1, v2] at q12 q21
  have z : ∀ {r q : Nat}, r ≤ q → V r ≤ V q := fun {r q} k => by
    rcases Nat.eq_or_lt_of_le k with k | k
    · subst k; exact Nat.le_refl _
    · exact Nat.le_of_lt (V_lt k)
  have z1 : rung x1 = 0 → quoN m1 i1 n j = 0 := fun e => by
    rw [e, V_zero] at v1
    rcases Nat.mul_eq_zero.1 v1 with k | k
    · subst k; exact quoN_zero ..
    · have := Nat.two_pow_pos (i1 + 1074).toNat; omega
  have z2 : rung x2 = 0 → quoN m2 i2 n j = 0 := fun e => by
    rw [e, V_zero] at v2
    rcases Nat.mul_eq_zero.1 v2 with k | k
    · subst k; exact quoN_zero ..
    · have := Nat.two_pow_pos (i2 + 1074).toNat; omega
  unfold key at h
  generalize quoN m1 i1 n j = A at *
  generalize quoN m2 i2 n j = B at *
  cases hs1 : neg x1 <;> cases hs2 : neg x2 <;> rw [hs1, hs2] at h <;> simp only [if_true, if_false, Bool.false_eq_true, Bool.xor_false] at h ⊢
  · have := q12 (z (by omega)); omega
  · have := z1 (by omega)
    have := z2 (by omega)
    omega
  · omega
  · have := q21 (z (by omega)); omega

/-- finite, by its key -/
theorem rung_key (x : Nat) : (rung x : Int) = key x ∨ (rung x : Int) = -key x := by
  unfold key; cases neg x
  · left; rfl
  · right; simp
theorem fin_between {a x b : Nat} (ha : rung a < double.infRung) (hb : rung b < double.infRung) (h1 : key a ≤ key x) (h2 : key x ≤ key b) : rung x < double.infRung := by
  have k1 := rung_key a
  have k2 := rung_key b
  have k3 := rung_key x
  omega
/-- whole numbers -/
theorem ofInt_mono {a b : Int} (h : a ≤ b) : key (floatOfInt .f64 a) ≤ key (floatOfInt .f64 b) := by
  refine near_mono (K := 1074) (by decide) (by omega) (by omega) ?_
  rw [signed_mul, signed_mul (decide (b < 0))]
  have e1 := signed_neg_abs a (decide (a < 0)) (Or.inr rfl)
  have e2 := signed_neg_abs b (decide (b < 0)) (Or.inr rfl)
  rw [e1, e2]
  exact Int.mul_le_mul_of_nonneg_right h (Int.natCast_nonneg _)
end Go.Proofs.YtdjdkhbagoideaaDoor.flt
