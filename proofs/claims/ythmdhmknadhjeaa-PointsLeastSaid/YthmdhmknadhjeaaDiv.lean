/- Points: Add64, Div64 where the upper half is nought. -/
import Derived.Test.YthmdhmknadhjeaaShelf
import Derived.Test.YthmdhmknadhjeaaBase2
import Derived.Laws.Externs
namespace Go.Proofs.Ythmdhmknadhjeaa
open Go.RowKit Go.BigFrame

/-- Div64 is right at this upper half -/
def DivOk (hi : Nat) : Prop := ∀ (lo y : Nat) (w : World), lo < 18446744073709551616 → hi < y → y < 18446744073709551616 →
  Calls Try.prog 54 #[.int .u64 hi, .int .u64 lo, .int .u64 y] w fun e w' => e = .returned (.tuple #[.int .u64 (((hi * 18446744073709551616 + lo) / y : Nat) : Int), .int .u64 (((hi * 18446744073709551616 + lo) % y : Nat) : Int)]) ∧ Drawn w w'
theorem add64_run (x y : Int) (hx : 0 ≤ x) (hy : 0 ≤ y) (w : World) : (callFunc 53 #[.int .u64 x, .int .u64 y, .int .u64 0]).run Try.prog w =
      .ok (.value (.tuple #[.int .u64 ((x + y) % 18446744073709551616), .int .u64 ((x + y) / 18446744073709551616)])) w := by
  rw [run_callFunc_extern Try.func53 (by kernel_rfl) (by kernel_rfl) (by kernel_rfl) (e := add64Entry) (by kernel_rfl), run_add64 x y 0 hx hy (by omega) (by omega)]
  simp only [Result.andThen, Int.add_zero]
theorem ret_uu {a b c d : Int} (h1 : a = c) (h2 : b = d) : Ending.returned (.tuple #[.int .u64 a, .int .u64 b]) = .returned (.tuple #[.int .u64 c, .int .u64 d]) := by rw [h1, h2]
set_option maxRecDepth 100000 in
theorem div_zero : DivOk 0 := by
  intro lo y w hlo hy hy2
  have h1 : ((y : Int) == 0) = false := by simp; omega
  have h3 : (y : Int) ≠ 0 := by omega
  have h2 : ¬ (y : Int) ≤ 0 := by omega
  go_enter Try.func54, Try.ntmps54
  go_wp2
  go_big_quiet (fail)
  go_wp2
  go_ret2
  exact ⟨ret_uu (a := IntKind.u64.wrap ((lo : Int) / y)) (b := (lo : Int) % y) (by
    have := Nat.div_le_self lo y
    rw [Nat.zero_mul, Nat.zero_add, ← Int.natCast_ediv, IntKind.wrap_u64]
    generalize lo / y = q at *
    omega) (by rw [Nat.zero_mul, Nat.zero_add, Int.natCast_emod]), ⟨_, rfl⟩⟩
end Go.Proofs.Ythmdhmknadhjeaa
