/- Idle: no book, no word; walked. -/
import Derived.Test.YtgnhddnhcfmipaaOpn
import Derived.Test.YtgnhddnhcfmipaaDoes2
namespace Go.Proofs.Ytgnhddnhcfmipaa
open Go.RowKit Go.BigFrame

theorem nil_at (i : Int) (W : World) : Calls Try.prog 50 #[.pointer none, .int .i64 i] W fun e w' => e = .returned (.tuple #[.pointer none, .int .i64 2]) ∧ w' = W := by
  go_enter Try.func50, Try.ntmps50
  go_wp2
  go_ret2
  exact ⟨rfl, rfl⟩
theorem nil_get (i : Int) (W : World) : Calls Try.prog 28 #[.pointer none, .int .i64 i] W fun e w' => e = .returned (.tuple #[.slice none 0 0, .int .i64 2]) ∧ Below W.heap.size W w' := by
  have K := nil_at i
  go_enter Try.func28, Try.ntmps28
  go_wp2_with (go_at_call 50; (with_reducible refine (K _).mono ?_); rintro e w1 ⟨rfl, rfl⟩)
  go_ret2
  exact ⟨rfl, below_al (Below.refl _ _) _⟩
theorem nil_put (i : Int) (W : World) : Calls Try.prog 30 #[.pointer none, .int .i64 i] W fun e w' => e = .returned (.tuple #[.slice none 0 0, .int .i64 2]) ∧ w' = W := by
  have K := nil_at i
  go_enter Try.func30, Try.ntmps30
  go_wp2_with (go_at_call 50; (with_reducible refine (K _).mono ?_); rintro e w1 ⟨rfl, rfl⟩)
  go_ret2
  exact ⟨rfl, rfl⟩
set_option maxRecDepth 100000 in
theorem nil_tick (i : Int) (W : World) : Calls Try.prog 32 #[.pointer none, .int .i64 i] W fun e w' => e = .returned (.tuple #[.slice none 0 0, .int .i64 2]) ∧ w' = W := by
  go_enter Try.func32, Try.ntmps32
  go_wp2
  go_ret2
  exact ⟨rfl, rfl⟩
theorem nil_uses (i : Int) (W : World) : Calls Try.prog 38 #[.pointer none, .int .i64 i] W fun e w' => e = .returned (.int .i64 0) ∧ w' = W := by
  have K := nil_at i
  go_enter Try.func38, Try.ntmps38
  go_wp2_with (go_at_call 50; (with_reducible refine (K _).mono ?_); rintro e w1 ⟨rfl, rfl⟩)
  go_ret
  exact ⟨rfl, rfl⟩
theorem nil_awake (i : Int) (W : World) : Calls Try.prog 37 #[.pointer none, .int .i64 i] W fun e w' => e = .returned (.bool false) ∧ w' = W := by
  have K := nil_at i
  go_enter Try.func37, Try.ntmps37
  go_wp2_with (go_at_call 50; (with_reducible refine (K _).mono ?_); rintro e w1 ⟨rfl, rfl⟩)
  go_ret
  exact ⟨rfl, rfl⟩
theorem nil_now (W : World) : Calls Try.prog 34 #[.pointer none] W fun e w' => e = .returned (.int .i64 0) ∧ w' = W := by
  go_enter Try.func34, Try.ntmps34
  go_wp2
  go_ret
  exact ⟨rfl, rfl⟩
theorem nil_does (k : Int) (i : Int) (W : World) : Calls Try.prog 42 #[.pointer none, .int .u8 k, .int .i64 i] W fun e w' => e = .returned (.int .i64 2) ∧ w' = W := by
  go_enter Try.func42, Try.ntmps42
  go_wp2
  go_ret
  exact ⟨rfl, rfl⟩
theorem nil_wget (i : Int) (W : World) : Calls Try.prog 14 #[.pointer none, .int .i64 i] W fun e w' => e = .returned (.int .i64 2) ∧ w' = W := by
  have K := nil_does 1 i
  go_enter Try.func14, Try.ntmps14
  go_wp2_with (go_at_call 42; (with_reducible refine (K _).mono ?_); rintro e w1 ⟨rfl, rfl⟩)
  go_ret
  exact ⟨rfl, rfl⟩
theorem nil_wput (i : Int) (W : World) : Calls Try.prog 15 #[.pointer none, .int .i64 i] W fun e w' => e = .returned (.int .i64 2) ∧ w' = W := by
  have K := nil_does 2 i
  go_enter Try.func15, Try.ntmps15
  go_wp2_with (go_at_call 42; (with_reducible refine (K _).mono ?_); rintro e w1 ⟨rfl, rfl⟩)
  go_ret
  exact ⟨rfl, rfl⟩
theorem nil_wsweep (i : Int) (W : World) : Calls Try.prog 16 #[.pointer none, .int .i64 i] W fun e w' => e = .returned (.int .i64 2) ∧ w' = W := by
  have K := nil_does 3 i
  go_enter Try.func16, Try.ntmps16
  go_wp2_with (go_at_call 42; (with_reducible refine (K _).mono ?_); rintro e w1 ⟨rfl, rfl⟩)
  go_ret
  exact ⟨rfl, rfl⟩
theorem nil_view (W : World) : Calls Try.prog 18 #[.pointer none] W fun e w' => e = .returned (.agg #[.int .i64 0, .bool false, .int .i64 0, .int .i64 0]) ∧ Below W.heap.size W w' := by
  have r2 : (W.alloc (.cells #[.int .i64 0, .bool false, .int .i64 0, .int .i64 0] 38)).heap[W.heap.size]? = some (.cells #[.int .i64 0, .bool false, .int .i64 0, .int .i64 0] 38) := heap_alloc_at _ _
  have hb := below_al (Below.refl W.heap.size W) (.cells #[.int .i64 0, .bool false, .int .i64 0, .int .i64 0] 38)
  go_enter Try.func18, Try.ntmps18
  go_wp2
  (try simp only [Exit.inBlock, Exit.then])
  refine bodyPost_ret (results_cell_row rfl _ _ W.heap.size 38 #[.int .i64 0, .bool false, .int .i64 0, .int .i64 0] (0, 0) _ rfl r2 Try.underlying38 rfl (by kernel_rfl)) rfl ?_
  exact ⟨rfl, hb⟩
end Go.Proofs.Ytgnhddnhcfmipaa
