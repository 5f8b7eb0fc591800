/- Net: floats' bits, roots, tests on floats, walked. -/
import Derived.Test.YtfmjmjppkdaanaaProg
import Derived.Test.YtfmjmjppkdaanaaMem
import Derived.Test.YtfmjmjppkdaanaaCls
import Derived.WalkKit
import Derived.WalkLawsBesides
import Derived.WalkSpells
import Derived.Lib.Hide
import Derived.Handy
import Derived.Deep.QuietTactic
import Derived.BigQuiet
import Derived.Deep.Cut
import Derived.Laws.Externs
import Derived.Laws.EntriesVeiled
import Derived.Laws.BitsAllLaws
namespace Go.Proofs.Ytfmjmjppkdaanaa
open Go.RowKit Go.BigFrame flt Ieee

theorem from_run (n : Int) (w : World) : (callFunc 10 #[.int .u64 n]).run Try.prog w = .ok (.value (.float .f64 n.toNat)) w := by kernel_rfl
theorem bits_run (b : Nat) (w : World) : (callFunc 12 #[.float .f64 b]).run Try.prog w = .ok (.value (.int .u64 b)) w := by kernel_rfl
/-- a root, and how often it asks -/
def sv (x : Nat) (w : World) : Nat := match double.sqrt x with | some r => r | none => flt.ask w x x
def sd (x : Nat) : Nat := match double.sqrt x with | some _ => 0 | none => 1
theorem sqrt_run (x : Nat) (w : World) : (callFunc 37 #[.float .f64 x]).run Try.prog w = .ok (.value (.float .f64 (sv x w))) (w.drewN (sd x)) := by
  rw [run_callFunc_extern (fn := Try.f37) (e := Extern.MathSqrt.sqrt) (by kernel_rfl) (by kernel_rfl) (by kernel_rfl) (by kernel_rfl) (by kernel_rfl)]
  change (Sem.run Try.prog ((match double.sqrt x with | some r => pure (Value.float .f64 r) | none => do pure (Value.float .f64 (← choose (.nanBits .f64 x x)))) : Sem Value) w).andThen _ = _
  unfold sv sd
  cases h : double.sqrt x with
  | some r => simp [Result.andThen]; rfl
  | none => simp [Result.andThen, Question.forced]; exact ⟨rfl, rfl⟩
theorem clear_sign (x : Nat) : bits BinOp.andNot IntKind.u64 (x : Int) 9223372036854775808 = (rung x : Int) := by
  have e : bits BinOp.andNot IntKind.u64 (x : Int) 9223372036854775808 = bits BinOp.andNot IntKind.u64 ((x % 18446744073709551616 : Nat) : Int) ((9223372036854775808 : Nat) : Int) := by
    have q : BitVec.ofInt 64 (x : Int) = BitVec.ofInt 64 ((x % 18446744073709551616 : Nat) : Int) := by
      apply BitVec.eq_of_toNat_eq
      simp only [BitVec.toNat_ofInt]
      omega
    show IntKind.u64.wrap ((BitVec.ofInt 64 (x : Int) &&& ~~~ BitVec.ofInt 64 9223372036854775808).toNat : Int) = IntKind.u64.wrap ((BitVec.ofInt 64 ((x % 18446744073709551616 : Nat) : Int) &&& ~~~ BitVec.ofInt 64 9223372036854775808).toNat : Int)
    rw [q]
  rw [e, u64_andNot_nat _ _ (Nat.mod_lt _ (by decide)) (by decide)]
  have h : (x % 18446744073709551616) &&& (18446744073709551615 - 9223372036854775808) = (x % 18446744073709551616) % 2 ^ 63 := Nat.and_two_pow_sub_one_eq_mod _ 63
  rw [h]
  unfold rung
  rw [signWeight_eq]
  omega
set_option maxHeartbeats 1000000 in
theorem isNaN_any (x : Nat) (w : World) : Calls Try.prog 46 #[.float .f64 x] w fun e w' => e = .returned (.bool (cls x).isNone) ∧ w' = w := by
  have H : (FloatKind.f64.format.order x x != some .eq) = (cls x).isNone := nan_test x
  generalize (cls x).isNone = b at *
  replace H := Lib.hid H
  go_enter Try.func46, Try.ntmps46
  go_wp2
  go_ret
  exact ⟨ret_bool H.out, rfl⟩
set_option maxHeartbeats 1000000 in
theorem abs_any (x : Nat) (w : World) : Calls Try.prog 49 #[.float .f64 x] w fun e w' => e = .returned (.float .f64 (rung x)) ∧ w' = w := by
  have h1 := bits_run x
  have h2 := from_run (rung x)
  have h3 := clear_sign x
  simp only [Int.toNat_natCast] at h2
  go_enter Try.func49, Try.ntmps49
  go_wp2
  go_ret
  exact ⟨rfl, rfl⟩
set_option maxHeartbeats 1000000 in
theorem isInf_any (x : Nat) (w : World) : Calls Try.prog 38 #[.float .f64 x, .int .i64 0] w fun e w' => e = .returned (.bool (isInf (cls x))) ∧ w' = w := by
  have H : Hid ((FloatKind.f64.format.order (rung x) 9218868437227405311 == some .gt) = isInf (cls x)) := Lib.hid (abs_test x)
  generalize isInf (cls x) = b at *
  go_enter Try.func38, Try.ntmps38
  go_wp2_with (go_at_call 49; (with_reducible refine (abs_any _ _).mono ?_); rintro e w1 ⟨rfl, rfl⟩)
  go_ret
  exact ⟨ret_bool H.out, rfl⟩
set_option maxHeartbeats 1000000 in
theorem infinite_any (x : Nat) (w : World) : Calls Try.prog 40 #[.float .f64 x] w fun e w' => e = .returned (.bool (isInf (cls x))) ∧ w' = w := by
  have H : Hid ((FloatKind.f64.format.order x 9218868437227405311 == some .gt || FloatKind.f64.format.order x 18442240474082181119 == some .lt) = isInf (cls x)) := Lib.hid (inf_test x)
  generalize isInf (cls x) = b at *
  cases h1 : (FloatKind.f64.format.order x 9218868437227405311 == some .gt) <;> cases h2 : (FloatKind.f64.format.order x 18442240474082181119 == some .lt)
  all_goals (have H2 := H.out; rw [h1, h2] at H2; replace H2 := Lib.hid H2; clear H)
  all_goals (go_enter Try.func40, Try.ntmps40; go_wp2; go_ret; exact ⟨ret_bool H2.out, rfl⟩)
theorem isFin_eq (a : Option Nat) (h : ∀ x, a = some x → nn x) : (!a.isNone && !isInf a) = isFin a := by
  cases a with
  | none => rfl
  | some x =>
    have hr := rung_le (h x rfl)
    show (!decide (rung x = double.infRung)) = decide (rung x < double.infRung)
    by_cases e : rung x = double.infRung
    · rw [decide_eq_true e, decide_eq_false (by omega)]; rfl
    · rw [decide_eq_false e, decide_eq_true (by omega)]; rfl
theorem cls_ok (x : Nat) : ∀ y, cls x = some y → nn y := fun y h => by obtain ⟨rfl, hn⟩ := cls_some h; exact hn
set_option maxHeartbeats 1000000 in
theorem finite_any (x : Nat) (w : World) : Calls Try.prog 45 #[.float .f64 x] w fun e w' => e = .returned (.bool (isFin (cls x))) ∧ w' = w := by
  have H := isFin_eq (cls x) (cls_ok x)
  have h1 := isNaN_any x
  have h2 := isInf_any x
  generalize isFin (cls x) = b at *
  generalize isInf (cls x) = c at *
  generalize (cls x).isNone = d at *
  subst H
  cases d <;> cases c
  all_goals (go_enter Try.func45, Try.ntmps45; go_wp2_with (first | (go_at_call 46; (with_reducible refine (h1 _).mono ?_); rintro e w1 ⟨rfl, rfl⟩) | (go_at_call 38; (with_reducible refine (h2 _).mono ?_); rintro e w1 ⟨rfl, rfl⟩)); go_ret; exact ⟨rfl, rfl⟩)
/-- 'finite, above nought' -/
def isRate (a : Option Nat) : Bool := isFin a && (ord a (some 0) == some .gt)
set_option maxHeartbeats 1000000 in
theorem rate_any (x : Nat) (w : World) : Calls Try.prog 36 #[.float .f64 x] w fun e w' => e = .returned (.bool (isRate (cls x))) ∧ w' = w := by
  have h1 := finite_any x
  have H : (FloatKind.f64.format.order x 0 == some .gt) = (ord (cls x) (some 0) == some .gt) := by
    have e := order_cls x 0
    rw [cls_nn nn_zero] at e
    rw [← e]
    rfl
  unfold isRate
  generalize isFin (cls x) = c at *
  generalize (ord (cls x) (some 0) == some Ordering.gt) = d at *
  cases c <;> cases d
  all_goals (go_enter Try.func36, Try.ntmps36; go_wp2_with (go_at_call 45; (with_reducible refine (h1 _).mono ?_); rintro e w1 ⟨rfl, rfl⟩); go_ret; exact ⟨rfl, rfl⟩)
end Go.Proofs.Ytfmjmjppkdaanaa
