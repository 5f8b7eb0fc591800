/- Idle: Begin of the reference. -/
import Derived.Test.YtgnhddnhcfmipaaRc5
namespace Go.Proofs.Ytgnhddnhcfmipaa
open Go.RowKit Go.BigFrame

def mk (z : Value) (s n : Nat) : Array Value := madeCells z.cells (n * s)
def z108 : Value := .agg #[.int .i64 0, .int .i64 0]
def z29 : Value := .agg #[.int .i64 0, .bool false, .int .i64 0, .int .i64 0]
set_option maxRecDepth 100000 in
theorem made_of {t e : TypeId} {z : Value} {s bytes : Nat} (u : Try.prog.underlying t = some (.slice e)) (hi : (Try.prog.info? e).map (fun i => (i.zero, i.size, i.bytes)) = some (some z, s, bytes)) {n : Nat} (hb : bytes * n ≤ 281474976710656) (hn : n ≤ 9223372036854775807) (W : World) :
    (Instr.makeSlice t (.int .i64 n) (.int .i64 n)).run Try.prog W = .ok (.slice (some ⟨W.heap.size, 0, none⟩) n n) (W.alloc (.cells (mk z s n) e)) := by
  obtain ⟨i0, hi0, hz0, hz1, hz2⟩ := info_parts hi
  have := run_make (P := Try.prog) W t e i0 z u hi0 hz0 .i64 .i64 n n (by omega) (by omega) (by rw [hz2]; omega) (by omega)
  rw [hz1] at this
  unfold mk
  simpa using this
set_option maxHeartbeats 8000000 in
set_option maxRecDepth 100000 in
theorem begin_any (D : Int) (n : Nat) (A : Option Addr) (c : Nat) (W : World) (h16 : n * 16 ≤ 140737488351232) :
    Calls Try.prog 22 #[.int .i64 D, .slice A n c] W fun e w' => ∃ rb g1 g2 g3 g4, e = .returned (.pointer (some ⟨rb, 0, none⟩)) ∧ w'.heap[rb]? = some (.cells (rarr D A n c zv g1 g2 g3 g4 (.slice none 0 0)) 56) ∧ rb = W.heap.size + 4 ∧
      (w'.heap[g1]? = some (.cells (mk z108 2 n) 108) ∧ w'.heap[g2]? = some (.cells (mk z29 4 n) 29) ∧ w'.heap[g3]? = some (.cells (mk (.bool false) 1 n) 4) ∧ w'.heap[g4]? = some (.cells (mk (.bool false) 1 n) 4)) ∧ Below W.heap.size W w' ∧
      (W.heap.size ≤ g1 ∧ W.heap.size ≤ g2 ∧ W.heap.size ≤ g3 ∧ W.heap.size ≤ g4 ∧ g1 < W.heap.size + 4 ∧ g2 < W.heap.size + 4 ∧ g3 < W.heap.size + 4 ∧ g4 < W.heap.size + 4 ∧ g1 ≠ g2 ∧ g1 ≠ g3 ∧ g1 ≠ g4 ∧ g2 ≠ g3 ∧ g2 ≠ g4 ∧ g3 ≠ g4) := by
  have m1 := fun W => made_of (n := n) (z := z108) (s := 2) (bytes := 16) Try.underlying52 (by kernel_rfl) (by omega) (by omega) W
  have m2 := fun W => made_of (n := n) (z := z29) (s := 4) (bytes := 32) Try.underlying53 (by kernel_rfl) (by omega) (by omega) W
  have m3 := fun W => made_of (n := n) (z := .bool false) (s := 1) (bytes := 1) Try.underlying54 (by kernel_rfl) (by omega) (by omega) W
  have hn : n ≤ 9223372036854775807 := by omega
  clear h16
  go_enter Try.func22, Try.ntmps22
  go_wp2
  go_region_law (fail)
  all_goals go_wp2
  all_goals go_ret
  all_goals simp only [show ∀ Y : World, Y.drew.heap = Y.heap from fun _ => rfl]
  all_goals refine ⟨_, _, _, _, _, rfl, heap_alloc_at' _ _ _ (by simp only [size_al]), ?_, ?_, ?_, ?_⟩
  all_goals first
    | exact (below_al (below_al (below_al (below_al (below_al (Below.refl _ _) _) _) _) _) _).drew
    | exact below_al (below_al (below_al (below_al (below_al (Below.refl _ _) _) _) _) _) _
    | (simp only [Nat.add_assoc]; done)
    | omega
    | (refine ⟨?_, ?_, ?_, ?_⟩ <;> (repeat first | (refine heap_alloc_at' _ _ _ ?_; simp only [size_al]; done) | refine heap_alloc ?_))
    | skip
end Go.Proofs.Ytgnhddnhcfmipaa
