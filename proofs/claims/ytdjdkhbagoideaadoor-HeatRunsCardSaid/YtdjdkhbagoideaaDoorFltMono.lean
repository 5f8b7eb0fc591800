/- Rounding of the model's floats is monotone; order by keys. Plain: no program here. -/
import Derived.Test.YtdjdkhbagoideaaDoorFlt
namespace Go.Proofs.YtdjdkhbagoideaaDoor.flt
open Ieee

/-- c times 2^u is what P / Q comes to, rounded to a whole number of units 2^u, ties to even -/
def RdAt (u c P Q : Nat) : Prop :=
  2 * c * (2 ^ u * Q) ≤ 2 * P + 2 ^ u * Q ∧ 2 * P ≤ (2 * c + 1) * (2 ^ u * Q) ∧ (2 * c * (2 ^ u * Q) = 2 * P + 2 ^ u * Q → c % 2 = 0) ∧ (2 * P = (2 * c + 1) * (2 ^ u * Q) → c % 2 = 0)
/-- r is the rung of P / Q (in units of 2^u0 below the least place), before the end -/
def Rd (u0 P Q r : Nat) : Prop :=
  ∃ u c, u0 ≤ u ∧ r = (u - u0) * 2 ^ 52 + c ∧ RdAt u c P Q ∧ P < 2 ^ (53 + u) * Q ∧ (u0 < u → 2 ^ (52 + u) * Q ≤ P)

theorem rdAt_mono {u c1 c2 P1 Q1 P2 Q2 : Nat} (q1 : 0 < Q1) (q2 : 0 < Q2) (h : P1 * Q2 ≤ P2 * Q1) (h1 : RdAt u c1 P1 Q1) (h2 : RdAt u c2 P2 Q2) : c1 ≤ c2 := by
  obtain ⟨a1, _, a3, _⟩ := h1
  obtain ⟨_, b2, _, b4⟩ := h2
  have hz : 0 < 2 ^ u * Q1 * Q2 := Nat.mul_pos (Nat.mul_pos (Nat.two_pow_pos u) q1) q2
  have ez : 2 ^ u * Q2 * Q1 = 2 ^ u * Q1 * Q2 := by rw [Nat.mul_assoc, Nat.mul_comm Q2, ← Nat.mul_assoc]
  have A : 2 * c1 * (2 ^ u * Q1 * Q2) ≤ 2 * (P1 * Q2) + 2 ^ u * Q1 * Q2 := by
    have := Nat.mul_le_mul_right Q2 a1
    rw [Nat.add_mul, Nat.mul_assoc, Nat.mul_assoc 2 P1] at this
    exact this
  have Bq : 2 * (P2 * Q1) ≤ (2 * c2 + 1) * (2 ^ u * Q1 * Q2) := by
    have := Nat.mul_le_mul_right Q1 b2
    rw [Nat.mul_assoc, Nat.mul_assoc (2 * c2 + 1), ez] at this
    exact this
  generalize hZ : 2 ^ u * Q1 * Q2 = Z at *
  have hc : 2 * c1 * Z ≤ (2 * c2 + 2) * Z := by
    have e : (2 * c2 + 2) * Z = (2 * c2 + 1) * Z + Z := by rw [show 2 * c2 + 2 = (2 * c2 + 1) + 1 from rfl, Nat.add_mul _ 1, Nat.one_mul]
    omega
  have hle := Nat.le_of_mul_le_mul_right hc hz
  rcases Nat.lt_or_ge c2 c1 with hlt | hge
  · exfalso
    obtain rfl : c1 = c2 + 1 := by omega
    have e : 2 * (c2 + 1) * Z = (2 * c2 + 1) * Z + Z := by rw [show 2 * (c2 + 1) = (2 * c2 + 1) + 1 from rfl, Nat.add_mul _ 1, Nat.one_mul]
    have e1 : 2 * (c2 + 1) * (2 ^ u * Q1) = 2 * P1 + 2 ^ u * Q1 := by
      apply Nat.eq_of_mul_eq_mul_right q2
      rw [Nat.add_mul, Nat.mul_assoc, Nat.mul_assoc 2 P1, hZ]
      omega
    have e2 : 2 * P2 = (2 * c2 + 1) * (2 ^ u * Q2) := by
      apply Nat.eq_of_mul_eq_mul_right q1
      rw [Nat.mul_assoc, Nat.mul_assoc (2 * c2 + 1), ez]
      omega
    have := a3 e1
    have := b4 e2
    omega
  · exact hge

theorem two_pow_lt {a b : Nat} (h : 2 ^ a < 2 ^ b) : a < b := (Nat.pow_lt_pow_iff_right (by decide)).1 h
theorem two_pow_le {a b : Nat} (h : a ≤ b) : 2 ^ a ≤ 2 ^ b := Nat.pow_le_pow_right (by decide) h

theorem rdAt_le {u c P Q : Nat} (q : 0 < Q) (h : RdAt u c P Q) (hP : P < 2 ^ (53 + u) * Q) : c ≤ 2 ^ 53 := by
  have hz : 0 < 2 ^ u * Q := Nat.mul_pos (Nat.two_pow_pos u) q
  have e : 2 ^ (53 + u) * Q = 2 ^ 53 * (2 ^ u * Q) := by rw [Nat.pow_add, Nat.mul_assoc]
  have h1 := h.1
  rw [e] at hP
  generalize 2 ^ u * Q = Z at *
  have e9 : (2 * 2 ^ 53 + 1) * Z = 2 * (2 ^ 53 * Z) + Z := by rw [Nat.add_mul, Nat.one_mul, Nat.mul_assoc]
  have : 2 * c * Z < (2 * 2 ^ 53 + 1) * Z := by omega
  have := Nat.lt_of_mul_lt_mul_right this
  omega
theorem le_rdAt {u c P Q : Nat} (q : 0 < Q) (h : RdAt u c P Q) (hP : 2 ^ (52 + u) * Q ≤ P) : 2 ^ 52 ≤ c := by
  have hz : 0 < 2 ^ u * Q := Nat.mul_pos (Nat.two_pow_pos u) q
  have e : 2 ^ (52 + u) * Q = 2 ^ 52 * (2 ^ u * Q) := by rw [Nat.pow_add, Nat.mul_assoc]
  have h1 := h.2.1
  rw [e] at hP
  generalize 2 ^ u * Q = Z at *
  have : (2 * 2 ^ 52) * Z ≤ (2 * c + 1) * Z := by
    rw [Nat.mul_assoc]
    omega
  have := Nat.le_of_mul_le_mul_right this hz
  omega

/-- ROUNDING IS MONOTONE -/
theorem rd_mono {u0 P1 Q1 r1 P2 Q2 r2 : Nat} (q1 : 0 < Q1) (q2 : 0 < Q2) (h : P1 * Q2 ≤ P2 * Q1) (h1 : Rd u0 P1 Q1 r1) (h2 : Rd u0 P2 Q2 r2) : r1 ≤ r2 := by
  obtain ⟨u, c, hu, rfl, hc, hlt, hge⟩ := h1
  obtain ⟨v, d, hv, rfl, hd, hlt2, hge2⟩ := h2
  rcases Nat.lt_trichotomy u v with e | e | e
  · have a := rdAt_le q1 hc hlt
    have b := le_rdAt q2 hd (hge2 (by omega))
    have : (u - u0 + 1) * 2 ^ 52 ≤ (v - u0) * 2 ^ 52 := Nat.mul_le_mul_right _ (by omega)
    rw [Nat.add_mul] at this
    omega
  · subst e
    have := rdAt_mono q1 q2 h hc hd
    omega
  · exfalso
    have a := hge (by omega)
    have hQ : 0 < Q1 * Q2 := Nat.mul_pos q1 q2
    have b1 : 2 ^ (52 + u) * (Q1 * Q2) ≤ P1 * Q2 := by rw [← Nat.mul_assoc]; exact Nat.mul_le_mul_right Q2 a
    have b2 : P2 * Q1 < 2 ^ (53 + v) * (Q1 * Q2) := by
      have := (Nat.mul_lt_mul_right q1).2 hlt2
      rw [Nat.mul_assoc, Nat.mul_comm Q2] at this
      exact this
    have : 2 ^ (52 + u) * (Q1 * Q2) < 2 ^ (53 + v) * (Q1 * Q2) := by omega
    have := two_pow_lt (Nat.lt_of_mul_lt_mul_right this)
    omega
theorem rd_eq {u0 P1 Q1 r1 P2 Q2 r2 : Nat} (q1 : 0 < Q1) (q2 : 0 < Q2) (h : P1 * Q2 = P2 * Q1) (h1 : Rd u0 P1 Q1 r1) (h2 : Rd u0 P2 Q2 r2) : r1 = r2 :=
  Nat.le_antisymm (rd_mono q1 q2 (by omega) h1 h2) (rd_mono q2 q1 (by omega) h2 h1)

/-- 'cut', to even: what it is -/
theorem cut_spec (neg : Bool) (n d : Nat) : RdAt 0 (Toward.even.cut neg n d) n (2 ^ d) := by
  unfold RdAt Toward.cut
  simp only [Nat.pow_zero, Nat.one_mul]
  have hgap : (1 <<< min d (n.log2 + 2) : Nat) = 2 ^ min d (n.log2 + 2) := by rw [Nat.shiftLeft_eq, Nat.one_mul]
  rw [hgap]
  rcases Nat.le_total d (n.log2 + 2) with h | h
  · rw [Nat.min_eq_left h]
    have hg : 0 < 2 ^ d := Nat.two_pow_pos d
    generalize 2 ^ d = g at *
    have e := Nat.div_add_mod n g
    have hm := Nat.mod_lt n hg
    generalize n / g = q at *
    generalize n % g = t at *
    have e2 : 2 * q * g = 2 * (g * q) := by rw [Nat.mul_assoc, Nat.mul_comm q]
    have e3 : 2 * (q + 1) * g = 2 * (g * q) + 2 * g := by rw [Nat.mul_assoc, Nat.add_mul, Nat.one_mul, Nat.mul_add, Nat.mul_comm q]
    have e4 : (2 * q + 1) * g = 2 * (g * q) + g := by rw [Nat.add_mul, Nat.one_mul, e2]
    have e5 : (2 * (q + 1) + 1) * g = 2 * (g * q) + 3 * g := by rw [Nat.add_mul, Nat.one_mul, e3]; omega
    by_cases h1 : g < 2 * t
    · have hb : (decide (g < 2 * t) || (g == 2 * t && q % 2 == 1)) = true := by simp [h1]
      rw [hb]
      show 2 * (q + 1) * g ≤ _ ∧ 2 * n ≤ (2 * (q + 1) + 1) * g ∧ (2 * (q + 1) * g = _ → _) ∧ (2 * n = (2 * (q + 1) + 1) * g → _)
      rw [e3, e5]
      exact ⟨by omega, by omega, by omega, by omega⟩
    · by_cases h2 : g = 2 * t ∧ q % 2 = 1
      · have hb : (decide (g < 2 * t) || (g == 2 * t && q % 2 == 1)) = true := by simp [h2]
        rw [hb]
        show 2 * (q + 1) * g ≤ _ ∧ 2 * n ≤ (2 * (q + 1) + 1) * g ∧ (2 * (q + 1) * g = _ → (q + 1) % 2 = 0) ∧ (2 * n = (2 * (q + 1) + 1) * g → (q + 1) % 2 = 0)
        rw [e3, e5]
        exact ⟨by omega, by omega, by omega, by omega⟩
      · have hb : (decide (g < 2 * t) || (g == 2 * t && q % 2 == 1)) = false := by
          simp only [Bool.or_eq_false_iff, decide_eq_false_iff_not, Bool.and_eq_false_imp, beq_iff_eq, beq_eq_false_iff_ne]
          exact ⟨h1, fun e => fun k => h2 ⟨e, k⟩⟩
        rw [hb]
        show 2 * q * g ≤ _ ∧ 2 * n ≤ (2 * q + 1) * g ∧ (2 * q * g = _ → q % 2 = 0) ∧ (2 * n = (2 * q + 1) * g → q % 2 = 0)
        rw [e2, e4]
        exact ⟨by omega, by omega, by omega, by omega⟩
  · rw [Nat.min_eq_right h]
    have hn : n < 2 ^ (n.log2 + 1) := Nat.lt_log2_self
    have hp : 2 ^ (n.log2 + 2) = 2 * 2 ^ (n.log2 + 1) := by rw [Nat.pow_succ, Nat.mul_comm]
    have hd : 2 ^ (n.log2 + 2) ≤ 2 ^ d := two_pow_le h
    have hdiv : n / 2 ^ (n.log2 + 2) = 0 := Nat.div_eq_of_lt (by omega)
    have hmod : n % 2 ^ (n.log2 + 2) = n := Nat.mod_eq_of_lt (by omega)
    rw [hdiv, hmod]
    generalize 2 ^ (n.log2 + 2) = g at *
    have hb : (decide (g < 2 * n) || (g == 2 * n && 0 % 2 == 1)) = false := by
      simp only [Bool.or_eq_false_iff, decide_eq_false_iff_not]
      exact ⟨by omega, by simp⟩
    rw [hb]
    show 2 * 0 * 2 ^ d ≤ _ ∧ 2 * n ≤ (2 * 0 + 1) * 2 ^ d ∧ _ ∧ _
    exact ⟨by omega, by omega, by simp, by simp⟩

/-- the least place -/
theorem least_eq : double.leastPlace = -1074 := by decide
theorem frac_eq : double.fractionBits = 52 := rfl
theorem binade_eq : double.binade = 2 ^ 52 := rfl

/-- the rung of m times 2^e, before the end -/
def rungOf (m : Nat) (e : Int) : Nat :=
  let last := max (e + m.log2 - 52) (-1074)
  (last + 1074).toNat * 2 ^ 52 + Toward.even.cut false (m <<< (e - last).toNat) (last - e).toNat
theorem cut_neg (neg : Bool) (n d : Nat) : Toward.even.cut neg n d = Toward.even.cut false n d := rfl
theorem nearest_eq (neg : Bool) (m : Nat) (e : Int) (h : m ≠ 0) : double.nearest neg m e = double.word neg (min (rungOf m e) double.infRung) := by
  unfold Format.nearest rungOf
  rw [if_neg h, least_eq, frac_eq, binade_eq]
  simp only [cut_neg neg]
  congr 2

/-- what 'nearest' finds is the rounding of m times 2^e -/
theorem rungOf_rd (m : Nat) (e : Int) (h : m ≠ 0) (K : Nat) (hK : 1074 ≤ K) (hKe : 0 ≤ (K : Int) + e) : Rd (K - 1074) (m * 2 ^ ((K : Int) + e).toNat) 1 (rungOf m e) := by
  unfold rungOf
  have hl1 := Nat.log2_self_le h
  have hl2 : m < 2 ^ (m.log2 + 1) := Nat.lt_log2_self
  generalize m.log2 = L at *
  simp only
  generalize hlast : max (e + (L : Int) - 52) (-1074) = last
  have hlo : -1074 ≤ last := by omega
  have hge : e + L - 52 ≤ last := by omega
  have hor : last = -1074 ∨ last = e + L - 52 := by omega
  have hc := cut_spec false (m <<< (e - last).toNat) (last - e).toNat
  generalize Toward.even.cut false (m <<< (e - last).toNat) (last - e).toNat = c at *
  rw [Nat.shiftLeft_eq] at hc
  have hsub : ((K : Int) + last).toNat - (K - 1074) = (last + 1074).toNat := by omega
  refine ⟨((K : Int) + last).toNat, c, by omega, by rw [hsub], ?_, ?_, ?_⟩
  · -- the units
    have hX : m * 2 ^ (e - last).toNat * 2 ^ ((K : Int) + last).toNat = m * 2 ^ ((K : Int) + e).toNat * 2 ^ (last - e).toNat := by
      have hs : (e - last).toNat + ((K : Int) + last).toNat = ((K : Int) + e).toNat + (last - e).toNat := by omega
      rw [Nat.mul_assoc, Nat.mul_assoc, ← Nat.pow_add, ← Nat.pow_add, hs]
    unfold RdAt
    simp only [Nat.mul_one]
    generalize m * 2 ^ (e - last).toNat = n at *
    generalize m * 2 ^ ((K : Int) + e).toNat = X at *
    have hd : 0 < 2 ^ (last - e).toNat := Nat.two_pow_pos _
    have hu : 0 < 2 ^ ((K : Int) + last).toNat := Nat.two_pow_pos _
    generalize 2 ^ (last - e).toNat = D at *
    generalize 2 ^ ((K : Int) + last).toNat = U at *
    obtain ⟨a1, a2, a3, a4⟩ := hc
    simp only [Nat.pow_zero, Nat.one_mul] at a1 a2 a3 a4
    have k1 : 2 * n * U = 2 * X * D := by rw [Nat.mul_assoc, hX, ← Nat.mul_assoc]
    have key1 : (2 * c * U) * D = (2 * c * D) * U := by rw [Nat.mul_assoc, Nat.mul_comm U, ← Nat.mul_assoc]
    have key2 : ((2 * c + 1) * U) * D = ((2 * c + 1) * D) * U := by rw [Nat.mul_assoc, Nat.mul_comm U, ← Nat.mul_assoc]
    refine ⟨?_, ?_, ?_, ?_⟩
    · apply Nat.le_of_mul_le_mul_right _ hd
      rw [key1, Nat.add_mul, ← k1, Nat.mul_comm U, ← Nat.add_mul]
      exact Nat.mul_le_mul_right U a1
    · apply Nat.le_of_mul_le_mul_right _ hd
      rw [key2, ← k1]
      exact Nat.mul_le_mul_right U a2
    · intro e1
      apply a3
      apply Nat.eq_of_mul_eq_mul_right hu
      have this : 2 * c * U * D = (2 * X + U) * D := by rw [e1]
      rw [key1, Nat.add_mul, ← k1, Nat.mul_comm U, ← Nat.add_mul] at this
      exact this
    · intro e1
      apply a4
      apply Nat.eq_of_mul_eq_mul_right hu
      have this : 2 * X * D = (2 * c + 1) * U * D := by rw [e1]
      rw [key2, ← k1] at this
      exact this
  · rw [Nat.mul_one]
    calc m * 2 ^ ((K : Int) + e).toNat < 2 ^ (L + 1) * 2 ^ ((K : Int) + e).toNat := (Nat.mul_lt_mul_right (Nat.two_pow_pos _)).2 hl2
      _ = 2 ^ (L + 1 + ((K : Int) + e).toNat) := (Nat.pow_add ..).symm
      _ ≤ 2 ^ (53 + ((K : Int) + last).toNat) := two_pow_le (by omega)
  · intro hlt
    rw [Nat.mul_one]
    have : last = e + L - 52 := by omega
    have hs : 52 + ((K : Int) + last).toNat = L + ((K : Int) + e).toNat := by omega
    calc 2 ^ (52 + ((K : Int) + last).toNat) = 2 ^ (L + ((K : Int) + e).toNat) := by rw [hs]
      _ = 2 ^ L * 2 ^ ((K : Int) + e).toNat := Nat.pow_add ..
      _ ≤ m * 2 ^ ((K : Int) + e).toNat := Nat.mul_le_mul_right _ hl1

/-- the number of a rung, in units of the least place -/
def V (r : Nat) : Nat := if r < 2 ^ 52 then r else (2 ^ 52 + r % 2 ^ 52) * 2 ^ (r / 2 ^ 52 - 1)
theorem rdAt_exact (u c : Nat) (Q : Nat) (q : 0 < Q) : RdAt u c (c * (2 ^ u * Q)) Q := by
  have hz : 0 < 2 ^ u * Q := Nat.mul_pos (Nat.two_pow_pos u) q
  unfold RdAt
  generalize 2 ^ u * Q = Z at *
  have e1 : 2 * c * Z = 2 * (c * Z) := Nat.mul_assoc ..
  have e2 : (2 * c + 1) * Z = 2 * (c * Z) + Z := by rw [Nat.add_mul, Nat.one_mul, e1]
  rw [e1, e2]
  exact ⟨by omega, by omega, by omega, by omega⟩
theorem rd_V (u0 r : Nat) : Rd u0 (V r * 2 ^ u0) 1 r := by
  unfold V
  by_cases h : r < 2 ^ 52
  · rw [if_pos h]
    refine ⟨u0, r, Nat.le_refl _, by omega, ?_, ?_, fun e => absurd e (Nat.lt_irrefl _)⟩
    · have := rdAt_exact u0 r 1 (by decide)
      rw [Nat.mul_one] at this
      exact this
    · rw [Nat.mul_one, Nat.pow_add]
      exact (Nat.mul_lt_mul_right (Nat.two_pow_pos u0)).2 (by omega)
  · rw [if_neg h]
    have hd := Nat.div_add_mod r (2 ^ 52)
    have hm := Nat.mod_lt r (show 0 < 2 ^ 52 by decide)
    have hq : 0 < r / 2 ^ 52 := Nat.div_pos (by omega) (by decide)
    generalize r / 2 ^ 52 = q at *
    generalize r % 2 ^ 52 = t at *
    have e : (2 ^ 52 + t) * 2 ^ (q - 1) * 2 ^ u0 = (2 ^ 52 + t) * 2 ^ (u0 + (q - 1)) := by rw [Nat.mul_assoc, ← Nat.pow_add, Nat.add_comm u0]
    rw [e]
    refine ⟨u0 + (q - 1), 2 ^ 52 + t, by omega, by rw [show u0 + (q - 1) - u0 = q - 1 by omega]; omega, ?_, ?_, ?_⟩
    · have := rdAt_exact (u0 + (q - 1)) (2 ^ 52 + t) 1 (by decide)
      rw [Nat.mul_one] at this
      exact this
    · rw [Nat.mul_one, Nat.pow_add 2 53]
      exact (Nat.mul_lt_mul_right (Nat.two_pow_pos _)).2 (by omega)
    · intro _
      rw [Nat.mul_one, Nat.pow_add 2 52]
      exact Nat.mul_le_mul_right _ (by omega)
theorem V_le {r q : Nat} (h : V r ≤ V q) : r ≤ q := rd_mono (u0 := 0) (by decide) (by decide) (by simpa using h) (rd_V 0 r) (rd_V 0 q)
theorem V_lt {r q : Nat} (h : r < q) : V r < V q := by
  rcases Nat.lt_or_ge (V r) (V q) with e | e
  · exact e
  · have := V_le e; omega
theorem V_lt_iff {r q : Nat} : V r < V q ↔ r < q := ⟨fun h => by
  rcases Nat.lt_or_ge r q with e | e
  · exact e
  · rcases Nat.eq_or_lt_of_le e with e | e
    · subst e; omega
    · have := V_lt e; omega, V_lt⟩
theorem V_zero : V 0 = 0 := rfl
theorem V_pos {r : Nat} (h : 0 < r) : 0 < V r := V_lt h

/-- the rung and the sign of a word -/
def rung (x : Nat) : Nat := x % double.signWeight
def neg (x : Nat) : Bool := x / double.signWeight % 2 == 1
/-- where a word stands among all: the noughts together -/
def key (x : Nat) : Int := if neg x then -(rung x : Int) else rung x
theorem inf_eq : double.infRung = 2047 * 2 ^ 52 := by decide
theorem rung_le {x : Nat} (h : nn x) : rung x ≤ double.infRung := by
  unfold nn Format.read at h
  unfold rung
  simp only at h
  split at h
  · rename_i h1; rw [binade_eq] at h1; rw [inf_eq]; omega
  · split at h
    · rename_i h1; omega
    · split at h
      · rename_i h1; omega
      · cases h
/-- a finite word's number -/
theorem read_fin {x : Nat} (h : rung x < double.infRung) : ∃ m e, double.read x = .number (neg x) m e ∧ -1074 ≤ e ∧ m * 2 ^ (e + 1074).toNat = V (rung x) := by
  unfold Format.read
  simp only
  show ∃ m e, (if rung x < double.binade then _ else _) = _ ∧ _
  unfold V
  rw [binade_eq, least_eq]
  by_cases h1 : rung x < 2 ^ 52
  · rw [if_pos h1, if_pos h1]
    exact ⟨rung x, -1074, rfl, by omega, by simp⟩
  · rw [if_neg h1, if_neg h1]
    rw [show x % double.signWeight = rung x from rfl, if_pos h]
    refine ⟨_, _, rfl, by omega, ?_⟩
    congr 2
    omega
theorem read_inf {x : Nat} (h : rung x = double.infRung) : double.read x = .infinity (neg x) := by
  unfold Format.read
  simp only
  rw [show x % double.signWeight = rung x from rfl, if_neg (by rw [h, inf_eq, binade_eq]; omega), if_neg (by omega), if_pos h]
  rfl
theorem cmp_congr {a b c d : Int} (h1 : a < b ↔ c < d) (h2 : a = b ↔ c = d) : compare a b = compare c d := by
  show compareOfLessAndEq a b = compareOfLessAndEq c d
  unfold compareOfLessAndEq
  by_cases e : a < b
  · rw [if_pos e, if_pos (h1.1 e)]
  · rw [if_neg e, if_neg (fun k => e (h1.2 k))]
    by_cases e2 : a = b
    · rw [if_pos e2, if_pos (h2.1 e2)]
    · rw [if_neg e2, if_neg (fun k => e2 (h2.2 k))]
theorem signed_eq (s : Bool) (m u : Nat) : signed s m u = if s then -((m * 2 ^ u : Nat) : Int) else ((m * 2 ^ u : Nat) : Int) := by
  unfold signed; rw [Nat.shiftLeft_eq]
theorem scale_lt {a b : Int} {d : Int} (h : 0 < d) : a * d < b * d ↔ a < b := ⟨fun e => Int.lt_of_mul_lt_mul_right e (Int.le_of_lt h), fun e => Int.mul_lt_mul_of_pos_right e h⟩
theorem scale_eq {a b : Int} {d : Int} (h : 0 < d) : a * d = b * d ↔ a = b := ⟨fun e => Int.eq_of_mul_eq_mul_right (by omega) e, fun e => by rw [e]⟩
/-- the signed number of a word, in units of the least place -/
def val (x : Nat) : Int := if neg x then -(V (rung x) : Int) else V (rung x)
theorem val_key {x y : Nat} : (val x < val y ↔ key x < key y) ∧ (val x = val y ↔ key x = key y) := by
  unfold val key
  have a := V_lt_iff (r := rung x) (q := rung y)
  have b := V_lt_iff (r := rung y) (q := rung x)
  have c := V_lt_iff (r := 0) (q := rung x)
  have d := V_lt_iff (r := 0) (q := rung y)
  rw [V_zero] at c d
  generalize V (rung x) = v at *
  generalize V (rung y) = w at *
  generalize rung x = r at *
  generalize rung y = q at *
  cases neg x <;> cases neg y <;> simp only [if_true, if_false, Bool.false_eq_true] <;> constructor <;> constructor <;> intro h <;> omega
theorem signed_val {x : Nat} {m : Nat} {e b : Int} (hb : -1074 ≤ b) (hbe : b ≤ e) (hm : m * 2 ^ (e + 1074).toNat = V (rung x)) : signed (neg x) m (e - b).toNat * (2 ^ (b + 1074).toNat : Nat) = val x := by
  rw [signed_eq]
  unfold val
  have hs : m * 2 ^ (e - b).toNat * 2 ^ (b + 1074).toNat = V (rung x) := by
    rw [Nat.mul_assoc, ← Nat.pow_add, ← hm]
    have : (e - b).toNat + (b + 1074).toNat = (e + 1074).toNat := by omega
    rw [this]
  generalize m * 2 ^ (e - b).toNat = z at *
  generalize 2 ^ (b + 1074).toNat = D at *
  rw [← hs]
  cases neg x
  · simp
  · show -(z : Int) * (D : Int) = -((z * D : Nat) : Int)
    rw [Int.neg_mul, Int.natCast_mul]
/-- ORDER BY KEYS -/
theorem order_key {x y : Nat} (hx : nn x) (hy : nn y) : double.order x y = some (compare (key x) (key y)) := by
  have rx := rung_le hx
  have ry := rung_le hy
  unfold Format.order
  rcases Nat.lt_or_ge (rung x) double.infRung with e1 | e1
  · obtain ⟨m, i, h1, hi, hm⟩ := read_fin e1
    rw [h1]
    rcases Nat.lt_or_ge (rung y) double.infRung with e2 | e2
    · obtain ⟨n, j, h2, hj, hn⟩ := read_fin e2
      rw [h2]
      show some (compare _ _) = _
      congr 1
      have s1 := signed_val (x := x) (b := min i j) (by omega) (by omega) hm
      have s2 := signed_val (x := y) (b := min i j) (by omega) (by omega) hn
      have hD : (0 : Int) < ((2 ^ (min i j + 1074).toNat : Nat) : Int) := Int.natCast_pos.2 (Nat.two_pow_pos _)
      apply cmp_congr
      · rw [← scale_lt hD, s1, s2]; exact val_key.1
      · rw [← scale_eq hD, s1, s2]; exact val_key.2
    · have e2 : rung y = double.infRung := by omega
      rw [read_inf e2]
      show some _ = _
      congr 1
      unfold key
      rw [e2]
      generalize double.infRung = I at *
      show _ = compareOfLessAndEq _ _
      unfold compareOfLessAndEq
      cases neg y
      · simp only [Bool.false_eq_true, if_false]
        cases neg x
        · simp only [Bool.false_eq_true, if_false]; rw [if_pos (by omega)]
        · simp only [if_true]; rw [if_pos (by omega)]
      · simp only [if_true]
        cases neg x
        · simp only [Bool.false_eq_true, if_false]; rw [if_neg (by omega), if_neg (by omega)]
        · simp only [if_true]; rw [if_neg (by omega), if_neg (by omega)]
  · have e1 : rung x = double.infRung := by omega
    rw [read_inf e1]
    rcases Nat.lt_or_ge (rung y) double.infRung with e2 | e2
    · obtain ⟨n, j, h2, hj, hn⟩ := read_fin e2
      rw [h2]
      show some _ = _
      congr 1
      unfold key
      rw [e1]
      generalize double.infRung = I at *
      show _ = compareOfLessAndEq _ _
      unfold compareOfLessAndEq
      cases neg x
      · simp only [Bool.false_eq_true, if_false]
        cases neg y
        · simp only [Bool.false_eq_true, if_false]; rw [if_neg (by omega), if_neg (by omega)]
        · simp only [if_true]; rw [if_neg (by omega), if_neg (by omega)]
      · simp only [if_true]
        cases neg y
        · simp only [Bool.false_eq_true, if_false]; rw [if_pos (by omega)]
        · simp only [if_true]; rw [if_pos (by omega)]
    · have e2 : rung y = double.infRung := by omega
      rw [read_inf e2]
      show some _ = _
      congr 1
      unfold key
      rw [e1, e2]
      cases neg x <;> cases neg y <;> decide
end Go.Proofs.YtdjdkhbagoideaaDoor.flt
