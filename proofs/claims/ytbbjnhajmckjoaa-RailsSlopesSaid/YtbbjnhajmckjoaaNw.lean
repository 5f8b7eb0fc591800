/- Rails: New, Volts, Turns of a set, walked. -/
import Derived.Test.YtbbjnhajmckjoaaSet
namespace Go.Proofs.Ytbbjnhajmckjoaa
open Go.RowKit Go.Maps

set_option maxHeartbeats 2000000 in
theorem new_no {lo hi st : Int} (h : rn lo hi st = 0) (w : World) :
    Calls Try.prog 23 #[.agg #[.int .i64 lo, .int .i64 hi, .int .i64 st]] w fun e w' => e = .returned (.tuple #[.pointer none, .int .i64 190]) ∧ Below w.heap.size w w' := by
  have K := fun W => rungs_any lo hi st W
  rw [h] at K
  go_enter Try.func23, Try.ntmps23
  go_wp2_with (go_at_call 49; (with_reducible refine (K _).mono ?_); rintro e w1 ⟨rfl, hb⟩)
  go_ret2
  exact ⟨rfl, (below_al (Below.refl _ _) _).trans (hb.mono (by rw [size_al]; omega))⟩
set_option maxHeartbeats 2000000 in
theorem new_yes {lo hi st : Int} (h : rn lo hi st ≠ 0) (w : World) :
    Calls Try.prog 23 #[.agg #[.int .i64 lo, .int .i64 hi, .int .i64 st]] w fun e w' => ∃ g b, e = .returned (.tuple #[.pointer (some ⟨g, 0, none⟩), .int .i64 0]) ∧ St w' g b lo hi st [] 0 0 ∧ w.heap.size ≤ g ∧ w.heap.size ≤ b ∧ Below w.heap.size w w' := by
  have K := fun W => rungs_any lo hi st W
  have hN1 : ((rn lo hi st : Int) == 0) = false := by simpa using (by omega : (rn lo hi st : Int) ≠ 0)
  generalize rn lo hi st = N at *
  have hmm := @run_makeMap Try.prog
  go_enter Try.func23, Try.ntmps23
  go_upto_region 3 with (go_at_call 49; (with_reducible refine (K _).mono ?_); rintro e w1 ⟨rfl, hb⟩)
  have hs1 := hb.size
  rw [size_al] at hs1
  have r1 : w1.heap[w.heap.size]? = some (.cells #[.int .i64 lo, .int .i64 hi, .int .i64 st] 49) := (hb.block _ (by rw [size_al]; omega)).trans (heap_alloc_at _ _)
  have hg1 : Below w.heap.size w w1 := (below_al (Below.refl _ _) _).trans (hb.mono (by rw [size_al]; omega))
  have y0 : w1.cell? ⟨w.heap.size, 0, none⟩ = some (.int .i64 lo) := by rw [cell_of_row _ _ 0 _ 49 (0, 0) r1]; rfl
  have y1 : w1.cell? ⟨w.heap.size, 1, none⟩ = some (.int .i64 hi) := by rw [cell_of_row _ _ 1 _ 49 (0, 0) r1]; rfl
  have y2 : w1.cell? ⟨w.heap.size, 2, none⟩ = some (.int .i64 st) := by rw [cell_of_row _ _ 2 _ 49 (0, 0) r1]; rfl
  clear K r1 hb
  go_wp2
  go_ret2
  refine ⟨w1.heap.size + 1, w1.heap.size, rfl, ⟨?_, ?_, List.Pairwise.nil, fun q hq => by cases hq⟩, by omega, by omega, below_al (below_al hg1 _) _⟩
  · exact heap_alloc_at' _ _ _ (by rw [size_al])
  · exact (World.ownsMap_made _ _ _ _).alloc _
theorem volts_any {w : World} {g b : Nat} {lo hi st : Int} {m : Hl} {v t : Int} (hS : St w g b lo hi st m v t) :
    Calls Try.prog 26 #[.pointer (some ⟨g, 0, none⟩)] w fun e w' => e = .returned (.int .i64 v) ∧ w = w' := by
  have c4 := hS.cl 4 (x := .int .i64 v) rfl
  clear hS
  go_enter Try.func26, Try.ntmps26
  go_wp2
  go_ret
  exact ⟨rfl, rfl⟩
theorem turns_any {w : World} {g b : Nat} {lo hi st : Int} {m : Hl} {v t : Int} (hS : St w g b lo hi st m v t) :
    Calls Try.prog 28 #[.pointer (some ⟨g, 0, none⟩)] w fun e w' => e = .returned (.int .i64 t) ∧ w = w' := by
  have c5 := hS.cl 5 (x := .int .i64 t) rfl
  clear hS
  go_enter Try.func28, Try.ntmps28
  go_wp2
  go_ret
  exact ⟨rfl, rfl⟩
end Go.Proofs.Ytbbjnhajmckjoaa
