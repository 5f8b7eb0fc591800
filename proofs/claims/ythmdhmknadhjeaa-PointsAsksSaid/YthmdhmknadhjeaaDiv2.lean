/- Points: Div64, any upper half. -/
import Derived.Test.YthmdhmknadhjeaaDiv
import Derived.Laws.BitsAllLaws
import Derived.Deep.Cut
namespace Go.Proofs.Ythmdhmknadhjeaa
open Go.RowKit Go.BigFrame

/-- one digit of the long division -/
structure Kn (U y1 y0 u Y T : Nat) : Prop where
  a1 : 2147483648 ≤ y1
  a2 : y1 < 4294967296
  b : y0 < 4294967296
  e : Y = y1 * 4294967296 + y0
  hU : U < Y
  hu : u < 4294967296
  t : T = (U * 4294967296 + u) / Y
theorem Kn.lt {U y1 y0 u Y T : Nat} (k : Kn U y1 y0 u Y T) : T < 4294967296 := by
  have h1 := k.hU
  have h2 := k.hu
  rw [k.t]
  apply Nat.div_lt_of_lt_mul
  have : (U + 1) * 4294967296 ≤ Y * 4294967296 := Nat.mul_le_mul_right _ h1
  omega
theorem Kn.mul {U y1 y0 u Y T : Nat} (k : Kn U y1 y0 u Y T) (q : Nat) : q * Y = q * y1 * 4294967296 + q * y0 := by
  rw [k.e, Nat.mul_add, Nat.mul_assoc]
theorem Kn.down {U y1 y0 u Y T q r : Nat} (k : Kn U y1 y0 u Y T) (h1 : q * y1 + r = U) (h2 : T ≤ q) (h : 4294967296 ≤ q ∨ 4294967296 * r + u < q * y0) : 1 ≤ q ∧ (q - 1) * y1 + (r + y1) = U ∧ T ≤ q - 1 := by
  have hlt := k.lt
  have hq : T < q := by
    rcases h with h | h
    · omega
    · rw [k.t]
      apply Nat.div_lt_of_lt_mul
      rw [Nat.mul_comm Y q, k.mul q]
      have : q * y1 * 4294967296 + r * 4294967296 = U * 4294967296 := by rw [← Nat.add_mul, h1]
      omega
  refine ⟨by omega, ?_, by omega⟩
  obtain ⟨p, rfl⟩ : ∃ p, q = p + 1 := ⟨q - 1, by omega⟩
  rw [Nat.add_mul, Nat.one_mul] at h1
  show p * y1 + (r + y1) = U
  omega
theorem Kn.end_ {U y1 y0 u Y T q r : Nat} (k : Kn U y1 y0 u Y T) (h1 : q * y1 + r = U) (h2 : T ≤ q) (h : q * y0 ≤ 4294967296 * r + u) : q = T := by
  have : q ≤ T := by
    rw [k.t]
    rw [Nat.le_div_iff_mul_le (by have := k.hU; omega), k.mul q]
    have : q * y1 * 4294967296 + r * 4294967296 = U * 4294967296 := by rw [← Nat.add_mul, h1]
    omega
  omega
theorem Kn.small {U y1 y0 u Y T q r : Nat} (k : Kn U y1 y0 u Y T) (h1 : q * y1 + r = U) (h : 4294967296 ≤ r) : q < 4294967296 := by
  have hU := k.hU
  have he := k.e
  have hb := k.b
  have : q * y1 < 4294967296 * y1 := by rw [Nat.mul_comm 4294967296]; omega
  exact Nat.lt_of_mul_lt_mul_right this
theorem Kn.brk {U y1 y0 u Y T q r : Nat} (k : Kn U y1 y0 u Y T) (h1 : q * y1 + r = U) (h2 : T ≤ q) (h : 4294967296 ≤ r) : q = T := by
  refine k.end_ h1 h2 ?_
  have hq := k.small h1 h
  have hb := k.b
  have : q * y0 ≤ 4294967296 * 4294967296 := Nat.mul_le_mul (by omega) (by omega)
  omega
theorem Kn.rem {U y1 y0 u Y T : Nat} (k : Kn U y1 y0 u Y T) : U * 4294967296 + u = T * Y + (U * 4294967296 + u) % Y := by
  have := Nat.div_add_mod (U * 4294967296 + u) Y
  rw [Nat.mul_comm Y] at this
  rw [k.t]; exact this.symm
theorem u64_in (n : Int) (h : 0 ≤ n ∧ n ≤ 18446744073709551615) : IntKind.u64.wrap n = n := by rw [IntKind.wrap_u64]; omega
theorem u64_mod (n : Nat) : IntKind.u64.wrap (n : Int) = ((n % 18446744073709551616 : Nat) : Int) := by rw [IntKind.wrap_u64]; omega
theorem and32 (a : Nat) (ha : a < 18446744073709551616) : bits .and .u64 (a : Int) 4294967295 = ((a % 4294967296 : Nat) : Int) := Mul64.maskN a ha

/-- the digits of N = hi * 2^64 + lo by y, shifted by s -/
structure Dg (hi lo y s Y y1 y0 Hs Lh U Lo u1 u0 T1 R1 T0 R0 : Nat) : Prop where
  e1 : IntKind.u64.wrap ((y : Int) * 2 ^ s) = (Y : Int)
  e2 : (Y : Int) / 4294967296 = (y1 : Int)
  e3 : bits .and .u64 (Y : Int) 4294967295 = (y0 : Int)
  e4 : IntKind.u64.wrap ((hi : Int) * 2 ^ s) = (Hs : Int)
  e5 : (lo : Int) / 2 ^ (64 - s) = (Lh : Int)
  e6 : bits .or .u64 (Hs : Int) (Lh : Int) = (U : Int)
  e7 : IntKind.u64.wrap ((lo : Int) * 2 ^ s) = (Lo : Int)
  e8 : (Lo : Int) / 4294967296 = (u1 : Int)
  e9 : bits .and .u64 (Lo : Int) 4294967295 = (u0 : Int)
  k1 : Kn U y1 y0 u1 Y T1
  k0 : Kn R1 y1 y0 u0 Y T0
  r1 : R1 = (U * 4294967296 + u1) % Y
  r0 : R0 = (R1 * 4294967296 + u0) % Y
  lY : Y < 18446744073709551616
  q : (hi * 18446744073709551616 + lo) / y = T1 * 4294967296 + T0
  m : (hi * 18446744073709551616 + lo) % y = R0 / 2 ^ s
theorem divmod {N Y t R : Nat} (h : N = t * Y + R) (hR : R < Y) : N / Y = t ∧ N % Y = R := by
  subst h
  rw [Nat.mul_comm, Nat.mul_add_div (by omega), Nat.div_eq_of_lt hR, Nat.mul_add_mod, Nat.mod_eq_of_lt hR]
  exact ⟨rfl, rfl⟩
theorem two_digits {H L N1 T1 R1 N0 T0 R0 Y u1 u0 : Nat} (h1 : N1 = H * 4294967296 + u1) (hL : L = u1 * 4294967296 + u0) (e1 : N1 = T1 * Y + R1) (h0 : N0 = R1 * 4294967296 + u0) (e0 : N0 = T0 * Y + R0) :
    H * 18446744073709551616 + L = (T1 * 4294967296 + T0) * Y + R0 := by
  rw [Nat.add_mul, Nat.mul_right_comm]
  generalize T1 * Y = a at *
  generalize T0 * Y = b at *
  omega
theorem dg_of (hi lo y : Nat) (h0 : 0 < hi) (hlo : lo < 18446744073709551616) (hy : hi < y) (hy2 : y < 18446744073709551616) :
    ∃ s Y y1 y0 Hs Lh U Lo u1 u0 T1 R1 T0 R0, s ≤ 62 ∧ (64 : Int) - (Lib.bitLen y : Int) = (s : Nat) ∧ Dg hi lo y s Y y1 y0 Hs Lh U Lo u1 u0 T1 R1 T0 R0 := by
  have hy1 : 2 ≤ y := by omega
  have l1 := Nat.log2_self_le (show y ≠ 0 by omega)
  have l2 : y < 2 ^ (y.log2 + 1) := Nat.lt_log2_self
  have l3 : y.log2 ≤ 63 := by
    rcases Nat.lt_or_ge 63 y.log2 with q | q
    · have : 2 ^ 64 ≤ 2 ^ y.log2 := Nat.pow_le_pow_right (by decide) q
      omega
    · exact q
  have l4 : 1 ≤ y.log2 := by
    rcases Nat.eq_zero_or_pos y.log2 with q | q
    · rw [q] at l2; omega
    · exact q
  have hb : Lib.bitLen y = y.log2 + 1 := by
    rw [Lib.bitLen_shift y.log2 y l1 (by omega)]
    have : y / 2 ^ y.log2 = 1 := by
      apply Nat.div_eq_of_lt_le
      · omega
      · rw [Nat.pow_succ] at l2; omega
    rw [this]
    rfl
  obtain ⟨s, hs⟩ : ∃ s, s + y.log2 = 63 := ⟨63 - y.log2, by omega⟩
  have p1 : 2 ^ s * 2 ^ y.log2 = 9223372036854775808 := by rw [← Nat.pow_add, hs]
  have p2 : 2 ^ s * 2 ^ (y.log2 + 1) = 18446744073709551616 := by rw [← Nat.pow_add, show s + (y.log2 + 1) = 64 by omega]
  have p3 : 2 ^ (64 - s) * 2 ^ s = 18446744073709551616 := by rw [← Nat.pow_add, show 64 - s + s = 64 by omega]
  have hs62 : s ≤ 62 := by omega
  have es : (64 : Int) - (Lib.bitLen y : Int) = (s : Nat) := by rw [hb]; omega
  have hp0 : 0 < 2 ^ s := Nat.two_pow_pos s
  have hY1 : 9223372036854775808 ≤ y * 2 ^ s := by
    rw [← p1, Nat.mul_comm]; exact Nat.mul_le_mul_right _ l1
  have hY2 : y * 2 ^ s < 18446744073709551616 := by
    rw [← p2, Nat.mul_comm (2 ^ s)]; exact (Nat.mul_lt_mul_right hp0).2 l2
  have hH : (hi + 1) * 2 ^ s ≤ y * 2 ^ s := Nat.mul_le_mul_right _ hy
  rw [Nat.add_mul, Nat.one_mul] at hH
  have hL : lo * 2 ^ s / 18446744073709551616 = lo / 2 ^ (64 - s) := by
    rw [← p3, Nat.mul_div_mul_right _ _ hp0]
  have hLs : lo / 2 ^ (64 - s) < 2 ^ s := by
    apply Nat.div_lt_of_lt_mul; rw [p3]; exact hlo
  have hLm := Nat.div_add_mod (lo * 2 ^ s) 18446744073709551616
  rw [hL] at hLm
  have hLl := Nat.mod_lt (lo * 2 ^ s) (show 0 < 18446744073709551616 by decide)
  have cY : ((y : Int) * 2 ^ s) = ((y * 2 ^ s : Nat) : Int) := by rw [Int.natCast_mul, Int.natCast_pow]; rfl
  have cH : ((hi : Int) * 2 ^ s) = ((hi * 2 ^ s : Nat) : Int) := by rw [Int.natCast_mul, Int.natCast_pow]; rfl
  have cL : ((lo : Int) * 2 ^ s) = ((lo * 2 ^ s : Nat) : Int) := by rw [Int.natCast_mul, Int.natCast_pow]; rfl
  have cD : ((lo : Int) / 2 ^ (64 - s)) = ((lo / 2 ^ (64 - s) : Nat) : Int) := by rw [Int.natCast_ediv, Int.natCast_pow]; rfl
  have hor : hi * 2 ^ s ||| lo / 2 ^ (64 - s) = hi * 2 ^ s + lo / 2 ^ (64 - s) := by
    have := Nat.shiftLeft_add_eq_or_of_lt hLs hi
    rw [Nat.shiftLeft_eq] at this
    exact this.symm
  have hN : (hi * 18446744073709551616 + lo) * 2 ^ s = (hi * 2 ^ s + lo / 2 ^ (64 - s)) * 18446744073709551616 + lo * 2 ^ s % 18446744073709551616 := by
    rw [Nat.add_mul, Nat.add_mul, Nat.mul_right_comm]; omega
  have hq := Nat.mul_div_mul_right (hi * 18446744073709551616 + lo) y hp0
  have hm := Nat.mul_mod_mul_right (2 ^ s) (hi * 18446744073709551616 + lo) y
  rw [hN] at hq hm
  suffices key : ∃ T1 R1 T0 R0, Dg hi lo y s (y * 2 ^ s) (y * 2 ^ s / 4294967296) (y * 2 ^ s % 4294967296) (hi * 2 ^ s) (lo / 2 ^ (64 - s)) (hi * 2 ^ s + lo / 2 ^ (64 - s)) (lo * 2 ^ s % 18446744073709551616) (lo * 2 ^ s % 18446744073709551616 / 4294967296) (lo * 2 ^ s % 18446744073709551616 % 4294967296) T1 R1 T0 R0 by
    obtain ⟨T1, R1, T0, R0, k⟩ := key
    exact ⟨s, _, _, _, _, _, _, _, _, _, T1, R1, T0, R0, hs62, es, k⟩
  have b6 := u64_or_nat (hi * 2 ^ s) (lo / 2 ^ (64 - s)) (by omega) (by omega)
  rw [hor] at b6
  have c1 : IntKind.u64.wrap ((y : Int) * 2 ^ s) = ((y * 2 ^ s : Nat) : Int) := by rw [cY, u64_in _ (by omega)]
  have c4 : IntKind.u64.wrap ((hi : Int) * 2 ^ s) = ((hi * 2 ^ s : Nat) : Int) := by rw [cH, u64_in _ (by omega)]
  have c7 : IntKind.u64.wrap ((lo : Int) * 2 ^ s) = ((lo * 2 ^ s % 18446744073709551616 : Nat) : Int) := by rw [cL, u64_mod]
  generalize lo * 2 ^ s % 18446744073709551616 = Lo at *
  generalize lo / 2 ^ (64 - s) = Lh at *
  generalize hi * 2 ^ s = Hs at *
  generalize y * 2 ^ s = Y at *
  have k1 : Kn (Hs + Lh) (Y / 4294967296) (Y % 4294967296) (Lo / 4294967296) Y (((Hs + Lh) * 4294967296 + Lo / 4294967296) / Y) := ⟨by omega, by omega, by omega, by omega, by omega, by omega, rfl⟩
  have hR := Nat.mod_lt ((Hs + Lh) * 4294967296 + Lo / 4294967296) (show 0 < Y by omega)
  have k0 : Kn (((Hs + Lh) * 4294967296 + Lo / 4294967296) % Y) (Y / 4294967296) (Y % 4294967296) (Lo % 4294967296) Y ((((Hs + Lh) * 4294967296 + Lo / 4294967296) % Y * 4294967296 + Lo % 4294967296) / Y) := ⟨by omega, by omega, by omega, by omega, hR, by omega, rfl⟩
  have hfin := two_digits (H := Hs + Lh) (L := Lo) (u1 := Lo / 4294967296) (u0 := Lo % 4294967296) rfl (by omega) k1.rem rfl k0.rem
  have hR0 := Nat.mod_lt (((Hs + Lh) * 4294967296 + Lo / 4294967296) % Y * 4294967296 + Lo % 4294967296) (show 0 < Y by omega)
  have hdm := divmod hfin hR0
  refine ⟨_, _, _, _, c1, by omega, and32 Y hY2, c4, cD, b6, c7, by omega, and32 Lo hLl, k1, k0, rfl, rfl, hY2, ?_, ?_⟩
  · rw [← hq]; exact hdm.1
  · rw [hdm.2] at hm
    rw [hm, Nat.mul_div_cancel _ hp0]
end Go.Proofs.Ythmdhmknadhjeaa
