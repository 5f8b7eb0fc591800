/- Heat: no watch; a lag; a reading: the functions that HeatNone calls beside the watch's; walked. -/
import Derived.Test.YtdjdkhbagoideaaDoorRead
import Derived.Test.YtdjdkhbagoideaaDoorStep4
namespace Go.Proofs.YtdjdkhbagoideaaDoor
open Go.RowKit Go.BigFrame flt Ieee

set_option maxHeartbeats 1000000 in
theorem step_nil (x secs : Nat) (W : World) : Calls Tryd.prog 5 #[.pointer none, .float .f64 x, .float .f64 secs] W fun e w' => e = .returned (.tuple #[.agg (sarr 0 false 0 false (.slice none 0 0)), .int .i64 2]) ∧ Below W.heap.size W w' := by
  have K1 := nan_any x
  have hx := heap_alloc_at W (.cells #[.float .f64 0, .bool false, .int .i64 0, .bool false, .slice none 0 0] 26)
  go_enter Tryd.func5, Tryd.ntmps5
  go_wp2_with (first
    | (go_at_call 23; (with_reducible refine (K1 _).mono ?_); rintro e wq ⟨rfl, rfl⟩)
    | (refine wpList_store_row rfl 26 _ _ rfl W.heap.size #[.float .f64 0, .bool false, .int .i64 0, .bool false, .slice none 0 0] rfl rfl 26 _ hx (by kernel_rfl) (by kernel_rfl) (by kernel_rfl) ?_))
  (try simp only [Exit.inBlock, Exit.then, Act.put])
  refine bodyPost_ret (results2 rfl _ _ W.heap.size 26 _ (0, 0) _ rfl rfl (setRow_at hx) Tryd.underlying26 rfl (by kernel_rfl)) rfl ?_
  exact ⟨rfl, below_setRow (below_al (Below.refl _ _) _) (Nat.le_refl _) _⟩
theorem on_nil (i : Int) (W : World) : Calls Tryd.prog 12 #[.pointer none, .int .i64 i] W fun e w' => e = .returned (.bool false) ∧ W = w' := by
  go_enter Tryd.func12, Tryd.ntmps12
  go_wp2
  go_ret
  exact ⟨rfl, rfl⟩
theorem shut_nil (W : World) : Calls Tryd.prog 13 #[.pointer none] W fun e w' => e = .returned (.bool false) ∧ W = w' := by
  go_enter Tryd.func13, Tryd.ntmps13
  go_wp2
  go_ret
  exact ⟨rfl, rfl⟩
theorem nan_none (W : World) : Calls Tryd.prog 8 #[] W fun e w' => e = .returned (.float .f64 9221120237041090561) ∧ W = w' := by
  have hf : ∀ W, (callFunc 29 #[.int .u64 9221120237041090561]).run Tryd.prog W = .ok (.value (.float .f64 9221120237041090561)) W := fun W => by kernel_rfl
  go_enter Tryd.func8, Tryd.ntmps8
  go_wp2
  go_ret
  exact ⟨rfl, rfl⟩
/-- what a sensor's voltage tells -/
def reads (m : Int) : Nat := if (milli m).2 then flt.fdiv (floatOfInt .f64 (milli m).1) 4652007308841189376 else 9221120237041090561
set_option maxHeartbeats 400000 in
theorem reading_any (m : Int) (w : World) (h : Has w) : Calls Tryd.prog 11 #[.int .i64 m] w fun e w' => e = .returned (.float .f64 (reads m)) ∧ Drawn w w' := by
  have HR : Hid (reads m = if (milli m).2 then flt.fdiv (floatOfInt .f64 (milli m).1) 4652007308841189376 else 9221120237041090561) := Lib.hid rfl
  generalize reads m = R at *
  have K8 := nan_none
  have KM := milli_any m w h
  have h1 := flt.div_some (flt.nn_ofInt (milli m).1) read_1000 (by decide)
  generalize hn : (milli m).1 = n at *
  generalize hb : (milli m).2 = b at *
  have r1 := fun w : World => run_float_arith (P := Tryd.prog) w .quo 23 .f64 _ _ _ h1.1
  have HR' := HR.out
  clear h1 hn hb HR
  cases b with
  | true =>
    simp only [if_true] at HR'
    subst HR'
    go_enter Tryd.func11, Tryd.ntmps11
    go_wp2_with (go_at_call 33; (with_reducible refine (KM).mono ?_); rintro e w1 ⟨rfl, hd⟩)
    go_ret
    exact ⟨rfl, hd⟩
  | false =>
    simp only [Bool.false_eq_true, if_false] at HR'
    subst HR'
    go_enter Tryd.func11, Tryd.ntmps11
    go_wp2_with (first
      | (go_at_call 33; (with_reducible refine (KM).mono ?_); rintro e w1 ⟨rfl, hd⟩)
      | (go_at_call 8; (with_reducible refine (K8 _).mono ?_); rintro e w2 ⟨rfl, rfl⟩))
    go_ret
    exact ⟨rfl, hd⟩
end Go.Proofs.YtdjdkhbagoideaaDoor
