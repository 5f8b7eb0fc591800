/- Slices of slices of the call's own. Plain: no program here. -/
import Derived.Test.YtgpapbpkcggolaaDoorMem
import Derived.Maps.AppendAt
namespace Go.Proofs.YtgpapbpkcggolaaDoor
open Go.RowKit

/-- 'append(v, x)': one row, in a block that has just been laid; and where the row then lies -/
theorem wpList_push_at {P : Program} {w : World} {ops : Array Oper} {rest : List Oper} {o : Oper} {a : Act} {Q : Exit → Act → World → Prop} {t e : TypeId} {size bytes : Nat} (el : Elt P t e size bytes) (hgd : o.guard = none) (s x : Operand)
    (ho : o.op = .call { callee := .builtin .append, args := #[s, x], argTypes := #[t, t] }) {base : Nat} {v : Value} {xs : List (List Value)} (hs : a.eval s = v) (hown : Own w base e size xs v)
    (row : List Value) (g0 : Nat) (T : TypeId) (hx : a.eval x = .slice (some ⟨g0, 0, none⟩) 1 1) (hg0 : w.heap[g0]? = some (.cells row.toArray T)) (hl : row.length = size)
    (h1 : ∀ u ∈ row, u.oneCell' = true) (hbytes : (xs.length + 1) * bytes ≤ 140737488355328) (hbase : base ≤ w.heap.size)
    (h : ∀ v' w', Own w' base e size (xs ++ [row]) v' → Below base w w' → w.heap.size ≤ w'.heap.size → (v' = .slice none 0 0 → False) → w.grownBy w' v.ownBlock → (v'.ownBlock = v.ownBlock ∨ v'.ownBlock = some w.heap.size) → wpList P ops Q rest (a.put o.dst v') w') :
    wpList P ops Q (o :: rest) a w := by
  obtain ⟨i0, z, hi, hz0, hz1, hz2, hz⟩ := el.i
  refine wpList_append_own_at w hgd s x t ho base e i0 z size bytes el.u hi hz0 hz1 hz2 hz el.pos v xs.length xs.flatten hs hown.1 ⟨g0, 0, none⟩ 1 1 row hx (by rw [Nat.one_mul]; exact hl) (fun j u hj => ?_) h1 ?_ hbytes hbase (fun v' w' ho' hg hn hat => ?_)
  · rw [addr_add, Nat.zero_add, cell_of_row w g0 j _ T (0, 0) hg0]
    simpa using hj
  · have : xs.length + 1 ≤ (xs.length + 1) * bytes := Nat.le_mul_of_pos_right _ el.bpos
    unfold maxLen; omega
  · refine h v' w' ⟨?_, fun r hr => ?_⟩ ((Below.refl _ _).grown hg hbase (fun k hk => (hown.lt k hk).1)) hg.size (fun e => ?_) hg hat
    · rw [List.length_append, List.flatten_append]; simpa using ho'
    · rcases List.mem_append.1 hr with h' | h'
      · exact hown.2 r h'
      · simp only [List.mem_singleton] at h'; rw [h']; exact hl
    · have := hn.1 e
      simp at this

/-- v holds slices of the call's own (their rows: tt), each in a block of its own; all begin at 'base' or behind -/
structure Tbl (w : World) (base : Nat) (eo ei : TypeId) (size : Nat) (tt : List (List (List Value))) (v : Value) (vs : List Value) : Prop where
  o : Own w base eo 1 (vs.map fun x => [x]) v
  l : vs.length = tt.length
  r : ∀ (k : Nat) (x : Value) (t : List (List Value)), vs[k]? = some x → tt[k]? = some t → Own w base ei size t x
  d : ∀ (k : Nat) (x : Value), vs[k]? = some x → ∀ g : Nat, x.ownBlock = some g → v.ownBlock ≠ some g
  dd : ∀ (k j : Nat) (x y : Value), vs[k]? = some x → vs[j]? = some y → k ≠ j → ∀ g : Nat, x.ownBlock = some g → y.ownBlock ≠ some g
theorem Tbl.nil (w : World) (base : Nat) (eo ei : TypeId) (size : Nat) : Tbl w base eo ei size [] (.slice none 0 0) [] :=
  ⟨Own.nil _ _ _ _, rfl, by simp, by simp, by simp⟩
theorem Tbl.keep {w w' : World} {base : Nat} {eo ei : TypeId} {size : Nat} {tt : List (List (List Value))} {v : Value} {vs : List Value} (h : Tbl w base eo ei size tt v vs) (hk : ∀ g, base ≤ g → g < w.heap.size → (v.ownBlock = some g ∨ ∃ x ∈ vs, x.ownBlock = some g) → w'.heap[g]? = w.heap[g]?) : Tbl w' base eo ei size tt v vs :=
  ⟨h.o.keep fun g hg => hk g (h.o.lt g hg).1 (h.o.lt g hg).2 (Or.inl hg), h.l, fun k x t hx ht => (h.r k x t hx ht).keep fun g hg => hk g ((h.r k x t hx ht).lt g hg).1 ((h.r k x t hx ht).lt g hg).2 (Or.inr ⟨x, List.mem_of_getElem? hx, hg⟩), h.d, h.dd⟩
theorem Tbl.below {w w' : World} {base : Nat} {eo ei : TypeId} {size : Nat} {tt : List (List (List Value))} {v : Value} {vs : List Value} (h : Tbl w base eo ei size tt v vs) (d : Below w.heap.size w w') : Tbl w' base eo ei size tt v vs :=
  h.keep fun g _ hl _ => d.block g hl
theorem Tbl.drawn {w w' : World} {base : Nat} {eo ei : TypeId} {size : Nat} {tt : List (List (List Value))} {v : Value} {vs : List Value} (h : Tbl w base eo ei size tt v vs) (d : Drawn w w') : Tbl w' base eo ei size tt v vs :=
  h.keep fun g _ _ _ => by rw [d.heap]
/-- one more -/
theorem Tbl.push {w w1 w2 w3 : World} {base : Nat} {eo ei : TypeId} {size : Nat} {tt : List (List (List Value))} {v v' x : Value} {vs : List Value} {t : List (List Value)} (h : Tbl w base eo ei size tt v vs)
    (hb1 : Below w.heap.size w w1) (hx : Own w1 w.heap.size ei size t x) (hb : base ≤ w.heap.size) (hb2 : Below w1.heap.size w1 w2) (ho : Own w3 base eo 1 ((vs.map fun x => [x]) ++ [[x]]) v') (hg : w2.grownBy w3 v.ownBlock)
    (hat : v'.ownBlock = v.ownBlock ∨ v'.ownBlock = some w2.heap.size) : Tbl w3 base eo ei size (tt ++ [t]) v' (vs ++ [x]) := by
  have hs1 := hb1.size
  have hs2 := hb2.size
  have hvl : ∀ g, v.ownBlock = some g → g < w.heap.size := fun g hg => (h.o.lt g hg).2
  have hxl : ∀ g, x.ownBlock = some g → w.heap.size ≤ g ∧ g < w1.heap.size := hx.lt
  have hkl : ∀ (k : Nat) (y : Value), vs[k]? = some y → ∀ g, y.ownBlock = some g → g < w.heap.size := fun k y hy g hgy => by
    have hk : k < tt.length := by rw [← h.l]; exact (List.getElem?_eq_some_iff.1 hy).1
    exact ((h.r k y _ hy (List.getElem?_eq_getElem hk)).lt g hgy).2
  have hcase : ∀ (k : Nat) (y : Value), (vs ++ [x])[k]? = some y → (k < vs.length ∧ vs[k]? = some y) ∨ (k = vs.length ∧ y = x) := by
    intro k y hy
    rcases Nat.lt_or_ge k vs.length with q | q
    · rw [List.getElem?_append_left q] at hy; exact Or.inl ⟨q, hy⟩
    · rw [List.getElem?_append_right q] at hy
      have : k - vs.length = 0 := by
        rcases Nat.eq_zero_or_pos (k - vs.length) with z | z
        · exact z
        · rw [List.getElem?_eq_none (by simp; omega)] at hy; cases hy
      rw [this] at hy
      exact Or.inr ⟨by omega, (Option.some.inj hy).symm⟩
  have keep : ∀ g : Nat, g < w1.heap.size → v.ownBlock ≠ some g → w3.heap[g]? = w1.heap[g]? := fun g hl hn => by
    rw [hg.block g (by omega) (fun e => hn e.symm), hb2.block g hl]
  refine ⟨by rw [List.map_append]; exact ho, by rw [List.length_append, List.length_append, h.l]; rfl, fun k y t' hy ht => ?_, fun k y hy g hgy e => ?_, fun k j y z hy hz hkj g hgy e => ?_⟩
  · rcases hcase k y hy with ⟨hk, hy⟩ | ⟨rfl, rfl⟩
    · rw [List.getElem?_append_left (by rw [← h.l]; exact hk)] at ht
      exact ((h.r k y t' hy ht).below hb1).keep fun g hgy => keep g (by have := hkl k y hy g hgy; omega) (h.d k y hy g hgy)
    · rw [h.l, List.getElem?_append_right (Nat.le_refl _), Nat.sub_self] at ht
      obtain rfl : t = t' := Option.some.inj ht
      exact (hx.mono hb).keep fun g hgy => keep g (hxl g hgy).2 (fun e => by have := hvl g e; have := (hxl g hgy).1; omega)
  · rcases hcase k y hy with ⟨hk, hy⟩ | ⟨rfl, rfl⟩
    · rcases hat with q | q
      · rw [q] at e; exact h.d k y hy g hgy e
      · rw [q] at e; cases e; have := hkl k y hy _ hgy; omega
    · rcases hat with q | q
      · rw [q] at e; have := hvl g e; have := (hxl g hgy).1; omega
      · rw [q] at e; cases e; have := (hxl _ hgy).2; omega
  · rcases hcase k y hy with ⟨hk, hy'⟩ | ⟨hk, hy'⟩ <;> rcases hcase j z hz with ⟨hj, hz'⟩ | ⟨hj, hz'⟩
    · exact h.dd k j y z hy' hz' hkj g hgy e
    · have := hkl k y hy' g hgy; have := (hxl g (hz' ▸ e)).1; omega
    · have := hkl j z hz' g e; have := (hxl g (hy' ▸ hgy)).1; omega
    · exact hkj (hk.trans hj.symm)
end Go.Proofs.YtgpapbpkcggolaaDoor
