/- append of one row: the slice that was grown still holds what it held. Plain: no program here. -/
import Derived.Test.YtfmjmjppkdaanaaMem4
namespace Go.Proofs.Ytfmjmjppkdaanaa
open Go.RowKit

theorem run_push_keep {P : Program} {w : World} {t e : TypeId} {size bytes : Nat} (el : Elt P t e size bytes) (ty : TypeId) {base : Nat} {g n cap : Nat} {xs : List (List Value)} (hown : Own w base e size xs (.slice (some ⟨g, 0, none⟩) n cap)) (hn : xs.length = n)
    (row : List Value) (g0 : Nat) (T : TypeId) (hg0 : w.heap[g0]? = some (.cells row.toArray T)) (hl : row.length = size)
    (h1 : ∀ u ∈ row, u.oneCell' = true) (hbytes : (n + 1) * bytes ≤ 140737488355328) {v' : Value} {w' : World}
    (hrun : (Builtin.append_ #[t, t] ty #[.slice (some ⟨g, 0, none⟩) n cap, .slice (some ⟨g0, 0, none⟩) 1 1]).run P w = .ok v' w') : ∀ j u, j < n * size → w.cell? ⟨g, j, none⟩ = some u → w'.cell? ⟨g, j, none⟩ = some u := by
  obtain ⟨i0, z, hi, hz0, hz1, hz2, hz⟩ := el.i
  have hnews : ∀ j u, row[j]? = some u → w.cell? ((⟨g0, 0, none⟩ : Addr).add j) = some u := fun j u hj => by
    rw [addr_add, Nat.zero_add, cell_of_row w g0 j _ T (0, 0) hg0]
    simpa using hj
  intro j u hj hc
  by_cases hr : n + 1 ≤ cap
  · obtain ⟨hlen, hor⟩ := hown.1
    rcases hor with ⟨h, _⟩ | ⟨g', cap', cur, hv, _, hcur, _, _, hsz, _⟩
    · cases h
    · obtain ⟨e1, _, e3⟩ := Value.slice.inj hv
      cases e1
      subst e3
      subst hz1
      have hcells : ∀ k, k < row.length → n * i0.size + k < cur.size := fun k hk => by
        rw [hsz]
        have : (n + 1) * i0.size ≤ cap * i0.size := Nat.mul_le_mul_right _ hr
        rw [Nat.succ_mul] at this
        omega
      have hrun2 := run_append_room_cells (P := P) w t ty e i0 el.u hi g 0 n cap ⟨g0, 0, none⟩ 1 1 row (by rw [Nat.one_mul]; exact hl) hnews h1 hr
        (fun k hk => by rw [Nat.zero_add, cell_of_row w g _ _ e (0, 0) hcur, Array.getElem?_eq_getElem (hcells k hk)]; rfl) (fun k hk => frozen_row hcur _)
      rw [hrun] at hrun2
      have e2 : w' = w.setCells g (0 + n * i0.size) row := by injection hrun2
      rw [e2, World.cell?_setCells_out g row _ w _ (fun _ _ => Or.inl (by show j < 0 + n * i0.size; omega))]
      exact hc
  · have hfl : xs.flatten.length = n * size := by rw [flat_length xs hown.2, hn]
    obtain ⟨A, c, hv, hs⟩ := hown.sl
    obtain ⟨e1, _, _⟩ := Value.slice.inj hv
    subst e1
    have hsl : ∀ k x, xs.flatten[k]? = some x → w.cell? ((⟨g, 0, none⟩ : Addr).add k) = some x := hs.flat el.pos
    obtain ⟨v2, w2, hrun2, _, hg2⟩ := run_append_arg_grows (P := P) w t ty e i0 z size bytes el.u hi hz0 hz1 hz2 hz el.pos ⟨g, 0, none⟩ n cap xs.flatten hfl hsl ⟨g0, 0, none⟩ 1 1 row (by rw [Nat.one_mul]; exact hl) hnews (by omega) (by
      have : n + 1 ≤ (n + 1) * bytes := Nat.le_mul_of_pos_right _ el.bpos
      unfold maxLen; omega) hbytes
    rw [hrun] at hrun2
    have e2 : w' = w2 := by injection hrun2
    subst e2
    have hgl : g < w.heap.size := (hown.lt g rfl).2
    rw [← hc]
    exact World.cell?_of_block (hg2.block g hgl (by simp))
theorem wpList_push_keep {P : Program} {w : World} {ops : Array Oper} {rest : List Oper} {o : Oper} {a : Act} {Q : Exit → Act → World → Prop} {t e : TypeId} {size bytes : Nat} (el : Elt P t e size bytes) (hgd : o.guard = none) (s x : Operand)
    (ho : o.op = .call { callee := .builtin .append, args := #[s, x], argTypes := #[t, t] }) {base : Nat} {g n cap : Nat} {xs : List (List Value)} (hs : a.eval s = .slice (some ⟨g, 0, none⟩) n cap) (hown : Own w base e size xs (.slice (some ⟨g, 0, none⟩) n cap)) (hn : xs.length = n)
    (row : List Value) (g0 : Nat) (T : TypeId) (hx : a.eval x = .slice (some ⟨g0, 0, none⟩) 1 1) (hg0 : w.heap[g0]? = some (.cells row.toArray T)) (hl : row.length = size)
    (h1 : ∀ u ∈ row, u.oneCell' = true) (hbytes : (n + 1) * bytes ≤ 140737488355328) (hbase : base ≤ w.heap.size)
    (h : ∀ v' w', Own w' base e size (xs ++ [row]) v' → Below base w w' → w.heap.size ≤ w'.heap.size → (∀ j u, j < n * size → w.cell? ⟨g, j, none⟩ = some u → w'.cell? ⟨g, j, none⟩ = some u) → wpList P ops Q rest (a.put o.dst v') w') :
    wpList P ops Q (o :: rest) a w := by
  refine wpList_plain hgd fun K hK' => ?_
  obtain ⟨v', w', hrun, h2, h3, h4, _, _⟩ := run_push_at el o.type hown row g0 T hg0 hl h1 (by rw [hn]; exact hbytes) hbase
  have hk := run_push_keep el o.type hown hn row g0 T hg0 hl h1 hbytes hrun
  unfold Oper.wp
  simp [execOp, ho, resolve, invoke, builtin, hs, hx, hrun, Result.andThen]
  exact hK' _ _ (h v' w' h2 h3 h4 hk)
end Go.Proofs.Ytfmjmjppkdaanaa
