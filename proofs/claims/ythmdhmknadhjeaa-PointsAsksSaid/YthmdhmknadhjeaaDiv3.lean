/- Points: Div64's loop, plain. -/
import Derived.Test.YthmdhmknadhjeaaDiv2
namespace Go.Proofs.Ythmdhmknadhjeaa
open Go.RowKit Go.BigFrame

theorem top_le {U u Y T y1 y0 : Nat} (k : Kn U y1 y0 u Y T) : T ≤ U / y1 := by
  have h1 := k.a1
  rw [Nat.le_div_iff_mul_le (by omega)]
  have hd : T * Y ≤ U * 4294967296 + u := by rw [k.t]; exact Nat.div_mul_le_self _ _
  have hm := k.mul T
  have hu := k.hu
  rw [hm] at hd
  clear hm h1 k
  generalize T * y1 = z at *
  generalize T * y0 = z2 at *
  clear T y1 y0 Y
  omega
theorem Kn.un {U u Y T y1 y0 R : Nat} (k : Kn U y1 y0 u Y T) (hR : R = (U * 4294967296 + u) % Y) (hY : Y < 18446744073709551616) :
    ∃ A B C : Nat, IntKind.u64.wrap ((U : Int) * 4294967296) = (A : Int) ∧ IntKind.u64.wrap ((A : Int) + (u : Int)) = (B : Int) ∧ IntKind.u64.wrap ((T : Int) * (Y : Int)) = (C : Int) ∧ IntKind.u64.wrap ((B : Int) - (C : Int)) = (R : Int) := by
  have hrem := k.rem
  rw [← hR] at hrem
  have hRY : R < Y := by rw [hR]; exact Nat.mod_lt _ (by have := k.hU; omega)
  have e3 : ((T : Int) * (Y : Int)) = ((T * Y : Nat) : Int) := by rw [Int.natCast_mul]
  rw [e3]
  clear e3 hR k
  generalize T * Y = z at *
  refine ⟨U * 4294967296 % 18446744073709551616, (U * 4294967296 % 18446744073709551616 + u) % 18446744073709551616, z % 18446744073709551616, ?_, ?_, u64_mod z, ?_⟩
  · rw [← u64_mod]; rfl
  · rw [← u64_mod]; rfl
  · rw [IntKind.wrap_u64]; omega
theorem Kn.move {U u Y T y1 y0 q r : Nat} (k : Kn U y1 y0 u Y T) (hY : Y < 18446744073709551616) (h1 : q * y1 + r = U) (h2 : T ≤ q) (h3 : r < 4294967296) :
    ∃ a b c : Nat, (q < 4294967296 → IntKind.u64.wrap ((q : Int) * (y0 : Int)) = (a : Int)) ∧ IntKind.u64.wrap (4294967296 * (r : Int)) = (b : Int) ∧ IntKind.u64.wrap ((b : Int) + (u : Int)) = (c : Int) ∧
    ((∃ p ρ : Nat, IntKind.u64.wrap ((q : Int) - 1) = (p : Int) ∧ IntKind.u64.wrap ((r : Int) + (y1 : Int)) = (ρ : Int) ∧ p * y1 + ρ = U ∧ T ≤ p ∧ p < q ∧ ((4294967296 ≤ q) ∨ (q < 4294967296 ∧ c < a)) ∧ (4294967296 ≤ ρ ∧ p = T ∨ ρ < 4294967296)) ∨
     (q = T ∧ q < 4294967296 ∧ ¬ c < a)) := by
  have b1 := k.a1
  have b2 := k.a2
  have b3 := k.b
  have b4 := k.hu
  have b5 := k.hU
  have hqU : q ≤ U := by
    have : q * 1 ≤ q * y1 := Nat.mul_le_mul_left _ (by omega)
    omega
  refine ⟨q * y0, 4294967296 * r, 4294967296 * r + u, ?_, ?_, ?_, ?_⟩
  · intro hq
    have : q * y0 ≤ 4294967295 * 4294967295 := Nat.mul_le_mul (by omega) (by omega)
    rw [← Int.natCast_mul, u64_in _ (by omega)]
  · rw [u64_in _ (by omega)]; omega
  · rw [u64_in _ (by omega)]; omega
  · have fin : (4294967296 ≤ q ∨ 4294967296 * r + u < q * y0) → _ := k.down h1 h2
    rcases Nat.lt_or_ge q 4294967296 with hq | hq
    · rcases Nat.lt_or_ge (4294967296 * r + u) (q * y0) with hc | hc
      · obtain ⟨f1, f2, f3⟩ := fin (Or.inr hc)
        refine Or.inl ⟨q - 1, r + y1, by rw [u64_in _ (by omega)]; omega, by rw [u64_in _ (by omega)]; omega, f2, f3, by omega, Or.inr ⟨hq, hc⟩, ?_⟩
        rcases Nat.lt_or_ge (r + y1) 4294967296 with h | h
        · exact Or.inr h
        · exact Or.inl ⟨h, k.brk f2 f3 h⟩
      · exact Or.inr ⟨k.end_ h1 h2 hc, hq, by omega⟩
    · obtain ⟨f1, f2, f3⟩ := fin (Or.inl hq)
      refine Or.inl ⟨q - 1, r + y1, by rw [u64_in _ (by omega)]; omega, by rw [u64_in _ (by omega)]; omega, f2, f3, by omega, Or.inl hq, ?_⟩
      rcases Nat.lt_or_ge (r + y1) 4294967296 with h | h
      · exact Or.inr h
      · exact Or.inl ⟨h, k.brk f2 f3 h⟩
/-- the first guess of a digit -/
theorem Kn.guess {U u Y T y1 y0 : Nat} (k : Kn U y1 y0 u Y T) (hY : Y < 18446744073709551616) :
    ∃ q r qy : Nat, IntKind.u64.wrap ((U : Int) / (y1 : Int)) = (q : Int) ∧ IntKind.u64.wrap ((q : Int) * (y1 : Int)) = (qy : Int) ∧ IntKind.u64.wrap ((U : Int) - (qy : Int)) = (r : Int) ∧ q * y1 + r = U ∧ T ≤ q ∧ r < 4294967296 := by
  have b1 := k.a1
  have b2 := k.a2
  have b5 := k.hU
  have ht := top_le k
  have hdm := Nat.div_add_mod U y1
  have hml := Nat.mod_lt U (show 0 < y1 by omega)
  have hle := Nat.div_le_self U y1
  rw [Nat.mul_comm] at hdm
  refine ⟨U / y1, U % y1, U / y1 * y1, ?_, ?_, ?_, hdm, ht, by omega⟩
  · rw [← Int.natCast_ediv, u64_in _ (by omega)]
  · rw [← Int.natCast_mul, u64_in _ (by omega)]
  · rw [u64_in _ (by omega)]; omega
end Go.Proofs.Ythmdhmknadhjeaa
