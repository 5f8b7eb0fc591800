/- append as an equation of runs: for regions that draw. Plain: no program here. -/
import Derived.Test.YtgpapbpkcggolaaDoorMem3
import Derived.Deep.RegionLaw
namespace Go.Proofs.YtgpapbpkcggolaaDoor
open Go.RowKit

theorem run_push_at {P : Program} {w : World} {t e : TypeId} {size bytes : Nat} (el : Elt P t e size bytes) (ty : TypeId) {base : Nat} {v : Value} {xs : List (List Value)} (hown : Own w base e size xs v)
    (row : List Value) (g0 : Nat) (T : TypeId) (hg0 : w.heap[g0]? = some (.cells row.toArray T)) (hl : row.length = size)
    (h1 : ∀ u ∈ row, u.oneCell' = true) (hbytes : (xs.length + 1) * bytes ≤ 140737488355328) (hbase : base ≤ w.heap.size) :
    ∃ v' w', (Builtin.append_ #[t, t] ty #[v, .slice (some ⟨g0, 0, none⟩) 1 1]).run P w = .ok v' w' ∧ Own w' base e size (xs ++ [row]) v' ∧ Below base w w' ∧ w.heap.size ≤ w'.heap.size ∧ w.grownBy w' v.ownBlock ∧ (v'.ownBlock = v.ownBlock ∨ v'.ownBlock = some w.heap.size) := by
  obtain ⟨i0, z, hi, hz0, hz1, hz2, hz⟩ := el.i
  obtain ⟨v', w', hrun, ho', hg, _, hat⟩ := run_append_own_at (P := P) w base t ty e i0 z size bytes el.u hi hz0 hz1 hz2 hz el.pos v xs.length xs.flatten hown.1 ⟨g0, 0, none⟩ 1 1 row (by rw [Nat.one_mul]; exact hl) (fun j u hj => by
    rw [addr_add, Nat.zero_add, cell_of_row w g0 j _ T (0, 0) hg0]
    simpa using hj) h1 (by
    have : xs.length + 1 ≤ (xs.length + 1) * bytes := Nat.le_mul_of_pos_right _ el.bpos
    unfold maxLen; omega) hbytes hbase
  refine ⟨v', w', hrun, ⟨?_, fun r hr => ?_⟩, (Below.refl _ _).grown hg hbase (fun k hk => (hown.lt k hk).1), hg.size, hg, hat⟩
  · rw [List.length_append, List.flatten_append]; simpa using ho'
  · rcases List.mem_append.1 hr with h' | h'
    · exact hown.2 r h'
    · simp only [List.mem_singleton] at h'; rw [h']; exact hl
/-- an append in a region that draws, by its run -/
theorem step_run {P : Program} {ops : Array Oper} {o : Oper} {a : Act} {w : World} {K : Act → World → Prop} {Q : Exit → Act → World → Prop} {E : Prop} (hg : o.guard = none) (s x : Operand) (t : TypeId)
    (ho : o.op = .call { callee := .builtin .append, args := #[s, x], argTypes := #[t, t] }) {v xv v' : Value} {w' : World} (hs : a.eval s = v) (hx : a.eval x = xv) (hrun : (Builtin.append_ #[t, t] o.type #[v, xv]).run P w = .ok v' w') (hK : K (a.put o.dst v') w') :
    if Region.wanted o (yielded ops a.tmps) = true then Oper.wp P o a w K Q else E := by
  have hw : Region.wanted o (yielded ops a.tmps) = true := by simp [Region.wanted, hg]
  rw [if_pos hw]
  unfold Oper.wp execOp
  simp only [ho, resolve, invoke, builtin, Sem.run_bind, Sem.run_pure, Result.andThen_ok, List.map_toArray, List.map_cons, List.map_nil, hs, hx, hrun]
  exact hK
end Go.Proofs.YtgpapbpkcggolaaDoor
