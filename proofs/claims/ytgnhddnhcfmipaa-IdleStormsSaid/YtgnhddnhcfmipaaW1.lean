/- Idle: ticks. -/
import Derived.Test.YtgnhddnhcfmipaaProg
import Derived.Test.YtgnhddnhcfmipaaMem
import Derived.WalkKit
import Derived.WalkLawsBesides
import Derived.WalkSpells
import Derived.Lib.Hide
import Derived.Handy
import Derived.Deep.QuietTactic
import Derived.BigQuiet
namespace Go.Proofs.Ytgnhddnhcfmipaa
open Go.RowKit

def isTick (n : Int) : Bool := decide (0 ≤ n ∧ n ≤ 2147483647)
theorem tick_any (n : Int) (w : World) : Calls Try.prog 41 #[.int .i64 n] w fun e w' => e = .returned (.bool (isTick n)) ∧ w = w' := by
  by_cases h0 : 0 ≤ n
  · by_cases h1 : n ≤ 2147483647
    · have e : Hid (isTick n = true) := Lib.hid (by unfold isTick; simp; omega)
      go_enter Try.func41, Try.ntmps41
      go_wp2
      go_ret
      exact ⟨ret_bool e.out.symm, rfl⟩
    · have e : Hid (isTick n = false) := Lib.hid (by unfold isTick; simp; omega)
      go_enter Try.func41, Try.ntmps41
      go_wp2
      go_ret
      exact ⟨ret_bool e.out.symm, rfl⟩
  · have e : Hid (isTick n = false) := Lib.hid (by unfold isTick; simp; omega)
    go_enter Try.func41, Try.ntmps41
    go_wp2
    go_ret
    exact ⟨ret_bool e.out.symm, rfl⟩
theorem rtick_any (n : Int) (w : World) : Calls Try.prog 12 #[.int .i64 n] w fun e w' => e = .returned (.bool (isTick n)) ∧ w = w' := by
  by_cases h0 : 0 ≤ n
  · by_cases h1 : n ≤ 2147483647
    · have e : Hid (isTick n = true) := Lib.hid (by unfold isTick; simp; omega)
      go_enter Try.func12, Try.ntmps12
      go_wp2
      go_ret
      exact ⟨ret_bool e.out.symm, rfl⟩
    · have e : Hid (isTick n = false) := Lib.hid (by unfold isTick; simp; omega)
      go_enter Try.func12, Try.ntmps12
      go_wp2
      go_ret
      exact ⟨ret_bool e.out.symm, rfl⟩
  · have e : Hid (isTick n = false) := Lib.hid (by unfold isTick; simp; omega)
    go_enter Try.func12, Try.ntmps12
    go_wp2
    go_ret
    exact ⟨ret_bool e.out.symm, rfl⟩

end Go.Proofs.Ytgnhddnhcfmipaa
