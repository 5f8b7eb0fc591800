/- Idle: the atomic word's Load and CompareAndSwap; View; deeds; walked. -/
import Derived.Test.YtgnhddnhcfmipaaDoes
import Derived.Conc.AtomicLaws2
import Derived.Laws.EntriesVeiled
import Derived.Laws.Externs
import Derived.Laws.CopyOwn
import Derived.Deep.Cut
namespace Go.Proofs.Ytgnhddnhcfmipaa
open Go.RowKit Go.BigFrame

theorem run58 (p : Addr) (x : Int) (w : World) (h : w.cell? p = some (.int .u64 x)) : (callFunc 58 #[.pointer (some p)]).run Try.prog w = .ok (.value (.int .u64 x)) w := by
  rw [run_callFunc_extern (fn := Try.f58) (e := Extern.Atomic.loadT (.int .u64)) (by kernel_rfl) (by kernel_rfl) (by kernel_rfl) (by kernel_rfl) (by kernel_rfl)]
  change (Sem.run Try.prog (do
    let a ← asAddr (.pointer (some p))
    Extern.Atomic.read (.int .u64) a) w).andThen _ = _
  simp [Extern.Atomic.read, asAddr, h, Result.andThen]
theorem cell_lt {w : World} {p : Addr} {v : Value} (h : w.cell? p = some v) : p.block < w.heap.size := by
  rcases Nat.lt_or_ge p.block w.heap.size with q | q
  · exact q
  · simp [World.cell?, Array.getElem?_eq_none q] at h
theorem run78 (p : Addr) (x y z : Int) (w : World) (h : w.cell? p = some (.int .u64 x)) (hf : w.frozen? p = false) : (callFunc 78 #[.pointer (some p), .int .u64 y, .int .u64 z]).run Try.prog w = .ok (.value (.bool (decide (x = y)))) (if x = y then w.setCell p (.int .u64 z) else w) := by
  rw [run_callFunc_extern (fn := Try.f78) (e := Extern.Atomic.casT (.int .u64)) (by kernel_rfl) (by kernel_rfl) (by kernel_rfl) (by kernel_rfl) (by kernel_rfl), Conc.casT_eq]
  by_cases e : x = y
  · subst e
    rw [Conc.run_cas_hit_entry h hf, if_pos rfl, decide_eq_true rfl]
    rfl
  · rw [Conc.run_cas_miss_entry h hf e, if_neg e, decide_eq_false e]
    rfl
set_option maxHeartbeats 1000000 in
theorem load_any (g : Nat) (x : Int) (w : World) (h : w.cell? ⟨g, 1, none⟩ = some (.int .u64 x)) : Calls Try.prog 43 #[.pointer (some ⟨g, 1, none⟩)] w fun e w' => e = .returned (.int .u64 x) ∧ w' = w := by
  have R := run58 ⟨g, 1, none⟩ x w h
  go_enter Try.func43, Try.ntmps43
  go_wp2
  go_ret
  exact ⟨rfl, rfl⟩
set_option maxHeartbeats 1000000 in
theorem cas_any (g : Nat) (x y z : Int) (w : World) (h : w.cell? ⟨g, 1, none⟩ = some (.int .u64 x)) (hf : w.frozen? ⟨g, 1, none⟩ = false) : Calls Try.prog 59 #[.pointer (some ⟨g, 1, none⟩), .int .u64 y, .int .u64 z] w fun e w' => e = .returned (.bool (decide (x = y))) ∧ w' = if x = y then w.setCell ⟨g, 1, none⟩ (.int .u64 z) else w := by
  have R := run78 ⟨g, 1, none⟩ x y z w h hf
  by_cases e : x = y
  · rw [if_pos e, decide_eq_true e] at R ⊢
    clear e h hf
    go_enter Try.func59, Try.ntmps59
    go_wp2
    go_ret
    exact ⟨rfl, rfl⟩
  · rw [if_neg e, decide_eq_false e] at R ⊢
    clear e h hf
    go_enter Try.func59, Try.ntmps59
    go_wp2
    go_ret
    exact ⟨rfl, rfl⟩
set_option maxHeartbeats 1000000 in
theorem deeds_any (w : World) : Calls Try.prog 60 #[] w fun e w' => e = .returned (.agg #[.nilFunc, .func (.func 79) #[] #[], .func (.func 80) #[] #[], .func (.func 81) #[] #[]]) ∧ Below w.heap.size w w' := by
  go_enter Try.func60, Try.ntmps60
  go_wp2
  refine bodyPost_ret (results_cell_row rfl _ _ w.heap.size 134 _ (0, 0) _ rfl (heap_alloc_at _ _) Try.underlying134 rfl (by kernel_rfl)) rfl ?_
  exact ⟨rfl, below_al (Below.refl _ _) _⟩
set_option maxHeartbeats 1000000 in
theorem wview_any (g : Nat) (v : VW) (hv : v.ok) (w : World) (h : w.cell? ⟨g, 1, none⟩ = some (.int .u64 v.num)) : Calls Try.prog 18 #[.pointer (some ⟨g, 0, none⟩)] w fun e w' => e = .returned (.agg v.arr) ∧ Below w.heap.size w w' := by
  obtain ⟨u, a, s, k⟩ := v
  have V := fun W => view_any ⟨u, a, s, k⟩ hv W
  unfold VW.arr at *
  generalize VW.num ⟨u, a, s, k⟩ = n at *
  go_enter Try.func18, Try.ntmps18
  go_upto_region 1 with fail
  obtain ⟨w0, hw0⟩ : ∃ w0, w0 = w.alloc (.cells #[.int .i64 0, .bool false, .int .i64 0, .int .i64 0] 38) := ⟨_, rfl⟩
  rw [← hw0]
  have c0 : w0.cell? ⟨g, 1, none⟩ = some (.int .u64 n) := by
    rw [hw0]
    exact ((below_al (Below.refl _ w) _).cell (p := ⟨g, 1, none⟩) (cell_lt h)).trans h
  have r0 : w0.heap[w.heap.size]? = some (.cells #[.int .i64 0, .bool false, .int .i64 0, .int .i64 0] 38) := by rw [hw0]; exact heap_alloc_at _ _
  have g0 : Below w.heap.size w w0 := by rw [hw0]; exact below_al (Below.refl _ _) _
  have s0 : w0.heap.size = w.heap.size + 1 := by rw [hw0, size_al]
  clear hw0
  go_wp2_with (first
    | (go_at_call 43; (with_reducible refine (load_any g _ _ c0).mono ?_); rintro e w1 ⟨rfl, rfl⟩)
    | (go_at_call 44; (with_reducible refine (V _).mono ?_); rintro e w2 ⟨rfl, hb⟩; have r2 := (hb.block w.heap.size (by omega)).trans r0)
    | (refine wpList_store_row rfl 38 _ _ rfl w.heap.size #[.int .i64 u, .bool a, .int .i64 s, .int .i64 k] rfl rfl 38 _ r2 (by kernel_rfl) (by kernel_rfl) (by kernel_rfl) ?_))
  (try simp only [Exit.inBlock, Exit.then])
  refine bodyPost_ret (results_cell_row rfl _ _ w.heap.size 38 #[.int .i64 u, .bool a, .int .i64 s, .int .i64 k] (0, 0) _ rfl (setRow_heap _ _ _ _ _ _ r2) Try.underlying38 rfl (by kernel_rfl)) rfl ?_
  exact ⟨rfl, below_setRow (g0.trans (hb.mono (by omega))) (Nat.le_refl _) _⟩
end Go.Proofs.Ytgnhddnhcfmipaa
