/- Heat: a lag's Next, at the two inputs of HeatNone; walked. -/
import Derived.Test.YtdjdkhbagoideaaDoorNn0
namespace Go.Proofs.YtdjdkhbagoideaaDoor
open Go.RowKit Go.BigFrame flt Ieee

set_option maxHeartbeats 1000000 in
theorem may_zero (W : World) : Calls Tryd.prog 31 #[.agg #[.float .f64 0, .float .f64 0, .float .f64 0]] W fun e w' => e = .returned (.bool false) ∧ Below W.heap.size W w' := by
  have t1 : (FloatKind.f64.format.order 0 4517329193108106637 == some .gt || FloatKind.f64.format.order 0 4517329193108106637 == some .eq) = false := by decide +kernel
  go_enter Tryd.func31, Tryd.ntmps31
  go_wp2
  go_ret
  exact ⟨rfl, below_al (Below.refl _ _) _⟩
set_option maxHeartbeats 1000000 in
theorem next_zero (W : World) : Calls Tryd.prog 10 #[.agg #[.float .f64 0, .float .f64 0, .float .f64 0], .float .f64 0, .float .f64 0, .float .f64 4607182418800017408] W fun e w' => e = .returned (.tuple #[.float .f64 0, .int .i64 270]) ∧ Below W.heap.size W w' := by
  have K := may_zero
  have hx := heap_alloc_at W (.cells #[.float .f64 0, .float .f64 0, .float .f64 0] 42)
  have hb := below_al (Below.refl W.heap.size W) (.cells #[.float .f64 0, .float .f64 0, .float .f64 0] 42)
  go_enter Tryd.func10, Tryd.ntmps10
  go_wp2_with (first
    | (refine wpList_load_row rfl 42 _ rfl W.heap.size rfl 42 _ (0, 0) _ hx Tryd.underlying42 rfl (by kernel_rfl) ?_)
    | (go_at_call 31; (with_reducible refine (K _).mono ?_); rintro e w1 ⟨rfl, hb1⟩))
  go_ret2
  exact ⟨rfl, hb.trans (hb1.mono hb.size)⟩
set_option maxHeartbeats 1000000 in
theorem may_big (W : World) : Calls Tryd.prog 31 #[.agg #[.float .f64 4517329193108106637, .float .f64 4517329193108106637, .float .f64 4696837146684686336]] W fun e w' => e = .returned (.bool true) ∧ Below W.heap.size W w' := by
  have t1 : (FloatKind.f64.format.order 4517329193108106637 4517329193108106637 == some .gt || FloatKind.f64.format.order 4517329193108106637 4517329193108106637 == some .eq) = true := by decide +kernel
  have t2 : (FloatKind.f64.format.order 4517329193108106637 4696837146684686336 == some .lt || FloatKind.f64.format.order 4517329193108106637 4696837146684686336 == some .eq) = true := by decide +kernel
  have K := near_any 4696837146684686336
  rw [show near 4696837146684686336 = true by decide +kernel] at K
  go_enter Tryd.func31, Tryd.ntmps31
  go_wp2_with (go_at_call 24; (with_reducible refine (K _).mono ?_); rintro e w1 ⟨rfl, rfl⟩)
  go_ret
  exact ⟨rfl, below_al (Below.refl _ _) _⟩
set_option maxHeartbeats 1000000 in
theorem flow_big (W : World) : Calls Tryd.prog 32 #[.agg #[.float .f64 4517329193108106637, .float .f64 4517329193108106637, .float .f64 4696837146684686336], .float .f64 4696837146684686336, .float .f64 4696837146684686336, .float .f64 4696837146684686336] W fun e w' => e = .returned (.float .f64 4876203697187513988) ∧ Below W.heap.size W w' := by
  have r1 := fun w : World => run_float_arith (P := Tryd.prog) w .sub 23 .f64 4696837146684686336 4696837146684686336 0 (by decide +kernel)
  have r2 := fun w : World => run_float_arith (P := Tryd.prog) w .quo 23 .f64 0 4517329193108106637 0 (by decide +kernel)
  have r3 := fun w : World => run_float_arith (P := Tryd.prog) w .sub 23 .f64 4696837146684686336 0 4696837146684686336 (by decide +kernel)
  have r4 := fun w : World => run_float_arith (P := Tryd.prog) w .quo 23 .f64 4696837146684686336 4517329193108106637 4786511204640096256 (by decide +kernel)
  have r5 := fun w : World => run_float_arith (P := Tryd.prog) w .mul 23 .f64 4696837146684686336 4786511204640096256 4876203697187506176 (by decide +kernel)
  have r6 := fun w : World => run_float_arith (P := Tryd.prog) w .add 23 .f64 4696837146684686336 4876203697187506176 4876203697187513988 (by decide +kernel)
  go_enter Tryd.func32, Tryd.ntmps32
  go_wp2
  go_ret
  exact ⟨rfl, below_al (Below.refl _ _) _⟩
set_option maxHeartbeats 1000000 in
theorem next_big (W : World) : Calls Tryd.prog 10 #[.agg #[.float .f64 4517329193108106637, .float .f64 4517329193108106637, .float .f64 4696837146684686336], .float .f64 4696837146684686336, .float .f64 4696837146684686336, .float .f64 4696837146684686336] W fun e w' => e = .returned (.tuple #[.float .f64 4876203697187513988, .int .i64 0]) ∧ Below W.heap.size W w' := by
  have K := may_big
  have KF := flow_big
  have KN := near_any 4696837146684686336
  rw [show near 4696837146684686336 = true by decide +kernel] at KN
  have t1 : (FloatKind.f64.format.order 4696837146684686336 0 == some .gt) = true := by decide +kernel
  have t2 : (FloatKind.f64.format.order 4696837146684686336 4696837146684686336 == some .lt || FloatKind.f64.format.order 4696837146684686336 4696837146684686336 == some .eq) = true := by decide +kernel
  have hx := heap_alloc_at W (.cells #[.float .f64 4517329193108106637, .float .f64 4517329193108106637, .float .f64 4696837146684686336] 42)
  have hb := below_al (Below.refl W.heap.size W) (.cells #[.float .f64 4517329193108106637, .float .f64 4517329193108106637, .float .f64 4696837146684686336] 42)
  go_enter Tryd.func10, Tryd.ntmps10
  go_wp2_with (first
    | (refine wpList_load_row rfl 42 _ rfl W.heap.size rfl 42 _ (0, 0) _ hx Tryd.underlying42 rfl (by kernel_rfl) ?_)
    | (go_at_call 31; (with_reducible refine (K _).mono ?_); rintro e w1 ⟨rfl, hb1⟩; have hx1 := (hb1.block _ (heap_lt hx)).trans hx)
    | (go_at_call 24; (with_reducible refine (KN _).mono ?_); rintro e wq ⟨rfl, rfl⟩)
    | (refine wpList_load_row rfl 42 _ rfl W.heap.size rfl 42 _ (0, 0) _ hx1 Tryd.underlying42 rfl (by kernel_rfl) ?_)
    | (go_at_call 32; (with_reducible refine (KF _).mono ?_); rintro e w2 ⟨rfl, hb2⟩))
  go_ret2
  have h1 := hb.trans (hb1.mono hb.size)
  exact ⟨rfl, h1.trans (hb2.mono h1.size)⟩
end Go.Proofs.YtdjdkhbagoideaaDoor
