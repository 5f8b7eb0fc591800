/- appends at steps of regions that draw. Plain: no program here. -/
import Derived.Test.YtbbjnhajmckjoaaMem4
import Derived.Laws.OwnMore
namespace Go.Proofs.Ytbbjnhajmckjoaa
open Go.RowKit

theorem run_app_any {P : Program} {w : World} {t e : TypeId} {size bytes : Nat} (el : Elt P t e size bytes) (ty : TypeId) {base : Nat} {v : Value} {xs ys : List (List Value)} (hown : Own w base e size xs v)
    (A : Option Addr) (c m : Nat) (hm : m = ys.length) (hA : A = none → c = 0) {S : Nat → Prop} (hys : Sl S w A size ys)
    (h1 : ∀ r ∈ ys, ∀ u ∈ r, u.oneCell' = true) (hbytes : (xs.length + ys.length) * bytes ≤ 140737488355328) (hbase : base ≤ w.heap.size) :
    ∃ v' w', (Builtin.append_ #[t, t] ty #[v, .slice A m c]).run P w = .ok v' w' ∧ Own w' base e size (xs ++ ys) v' ∧ Below base w w' ∧ w.heap.size ≤ w'.heap.size ∧ w.grownBy w' v.ownBlock ∧ (v'.ownBlock = v.ownBlock ∨ v'.ownBlock = some w.heap.size) := by
  subst hm
  obtain ⟨i0, z, hi, hz0, hz1, hz2, hz⟩ := el.i
  cases A with
  | none =>
    obtain rfl := hA rfl
    have hy : ys = [] := by
      rcases Nat.eq_zero_or_pos ys.length with z | z
      · exact List.length_eq_zero_iff.1 z
      · obtain ⟨b, off, e, _⟩ := hys.2.2 z; cases e
    subst hy
    refine ⟨v, w, run_append_owned_none (P := P) (w := w) base t ty e i0 size el.u hi v xs.length xs.flatten hown.1, by rw [List.append_nil]; exact hown, Below.refl _ _, Nat.le_refl _, World.grownBy.refl w _, .inl rfl⟩
  | some ad =>
    obtain ⟨v', w', hrun, ho', hg, _, hat⟩ := run_append_own_at (P := P) w base t ty e i0 z size bytes el.u hi hz0 hz1 hz2 hz el.pos v xs.length xs.flatten hown.1 ad ys.length c ys.flatten (flat_length ys hys.2.1) (hys.flat el.pos) (fun u hu => by
      obtain ⟨r, hr, hur⟩ := List.mem_flatten.1 hu
      exact h1 r hr u hur) (by
      have : xs.length + ys.length ≤ (xs.length + ys.length) * bytes := Nat.le_mul_of_pos_right _ el.bpos
      unfold maxLen; omega) hbytes hbase
    refine ⟨v', w', hrun, ⟨?_, fun r hr => ?_⟩, (Below.refl _ _).grown hg hbase (fun k hk => (hown.lt k hk).1), hg.size, hg, hat⟩
    · rw [List.length_append, List.flatten_append]; exact ho'
    · rcases List.mem_append.1 hr with h' | h'
      · exact hown.2 r h'
      · exact hys.2.1 r h'
/-- an append of rows at a step of a region that draws -/
theorem step_app_any {P : Program} {ops : Array Oper} {o : Oper} {a : Act} {w : World} {K : Act → World → Prop} {Q : Exit → Act → World → Prop} {E : Prop} {t e : TypeId} {size bytes : Nat} (el : Elt P t e size bytes) (hg : o.guard = none) (s x : Operand)
    (ho : o.op = .call { callee := .builtin .append, args := #[s, x], argTypes := #[t, t] }) {base : Nat} {v : Value} {xs ys : List (List Value)} (hs : a.eval s = v) (hown : Own w base e size xs v)
    (A : Option Addr) (c m : Nat) (hm : m = ys.length) (hx : a.eval x = .slice A m c) (hA : A = none → c = 0) {S : Nat → Prop} (hys : Sl S w A size ys)
    (h1 : ∀ r ∈ ys, ∀ u ∈ r, u.oneCell' = true) (hbytes : (xs.length + ys.length) * bytes ≤ 140737488355328) (hbase : base ≤ w.heap.size)
    (h : ∀ v' w', Own w' base e size (xs ++ ys) v' → Below base w w' → w.grownBy w' v.ownBlock → (v'.ownBlock = v.ownBlock ∨ v'.ownBlock = some w.heap.size) → K (a.put o.dst v') w') :
    if Region.wanted o (yielded ops a.tmps) = true then Oper.wp P o a w K Q else E := by
  obtain ⟨v', w', hrun, h2, h3, _, h5, h6⟩ := run_app_any el o.type hown A c m hm hA hys h1 hbytes hbase
  exact step_run hg s x t ho hs hx hrun (h v' w' h2 h3 h5 h6)
/-- an append of one row at a step of a region that draws -/
theorem step_push_one {P : Program} {ops : Array Oper} {o : Oper} {a : Act} {w : World} {K : Act → World → Prop} {Q : Exit → Act → World → Prop} {E : Prop} {t e : TypeId} {size bytes : Nat} (el : Elt P t e size bytes) (hg : o.guard = none) (s x : Operand)
    (ho : o.op = .call { callee := .builtin .append, args := #[s, x], argTypes := #[t, t] }) {base : Nat} {v : Value} {xs : List (List Value)} (hs : a.eval s = v) (hown : Own w base e size xs v)
    (row : List Value) (g0 : Nat) (T : TypeId) (hx : a.eval x = .slice (some ⟨g0, 0, none⟩) 1 1) (hg0 : w.heap[g0]? = some (.cells row.toArray T)) (hl : row.length = size)
    (h1 : ∀ u ∈ row, u.oneCell' = true) (hbytes : (xs.length + 1) * bytes ≤ 140737488355328) (hbase : base ≤ w.heap.size)
    (h : ∀ v' w', Own w' base e size (xs ++ [row]) v' → Below base w w' → w.grownBy w' v.ownBlock → (v'.ownBlock = v.ownBlock ∨ v'.ownBlock = some w.heap.size) → K (a.put o.dst v') w') :
    if Region.wanted o (yielded ops a.tmps) = true then Oper.wp P o a w K Q else E := by
  obtain ⟨v', w', hrun, h2, h3, _, h5, h6⟩ := run_push_at el o.type hown row g0 T hg0 hl h1 hbytes hbase
  exact step_run hg s x t ho hs hx hrun (h v' w' h2 h3 h5 h6)
end Go.Proofs.Ytbbjnhajmckjoaa
