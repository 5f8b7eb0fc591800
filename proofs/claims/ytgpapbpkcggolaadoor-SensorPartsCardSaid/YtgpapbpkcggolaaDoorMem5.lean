/- 'make([]T, n)' of one-cell elements: n noughts of the call's own. Plain: no program here. -/
import Derived.Test.YtgpapbpkcggolaaDoorMem4
namespace Go.Proofs.YtgpapbpkcggolaaDoor
open Go.RowKit

theorem rep_flat (n : Nat) (z : Value) : (List.replicate n [z]).flatten = List.replicate n z := by
  induction n with
  | zero => rfl
  | succ n ih => rw [List.replicate_succ, List.replicate_succ, List.flatten_cons, ih]; rfl
theorem wpList_made1 {P : Program} {w : World} {ops : Array Oper} {rest : List Oper} {o : Oper} {a : Act} {Q : Exit → Act → World → Prop} {t e : TypeId} {bytes : Nat} {z : Value} (u : P.underlying t = some (.slice e)) (hi : (P.info? e).map (fun i => (i.zero, i.size, i.bytes)) = some (some z, 1, bytes)) (hz : z.cells = #[z]) (hgd : o.guard = none) (l c : Operand)
    (ho : o.op = .makeSlice t l c) (n : Nat) (hl : a.eval l = .int .i64 n) (hc : a.eval c = .int .i64 n) (hb : bytes * n ≤ 281474976710656) (hn : n ≤ maxLen)
    (h : ∀ w', Own w' w.heap.size e 1 (List.replicate n [z]) (.slice (some ⟨w.heap.size, 0, none⟩) n n) → Below w.heap.size w w' → wpList P ops Q rest (a.put o.dst (.slice (some ⟨w.heap.size, 0, none⟩) n n)) w') :
    wpList P ops Q (o :: rest) a w := by
  obtain ⟨i0, hi0, hz0, hz1, hz2⟩ := info_parts hi
  refine wpList_make_full w hgd l c t ho w.heap.size e i0 z 1 u hi0 hz0 hz1 .i64 .i64 n n n hl hc rfl rfl (by rw [hz2]; exact hb) hn (Nat.le_refl _) fun w' hw hg => ?_
  have e1 : (madeCells z.cells (n * 1)).toList = List.replicate n z := by rw [hz, Nat.mul_one, toList_madeCells_one]
  rw [e1] at hw
  refine h w' ⟨?_, fun r hr => ?_⟩ ((Below.refl _ _).grown hg (Nat.le_refl _) (fun k hk => by cases hk))
  · rw [rep_flat, List.length_replicate]; exact hw
  · rw [(List.mem_replicate.1 hr).2]; rfl
end Go.Proofs.YtgpapbpkcggolaaDoor
