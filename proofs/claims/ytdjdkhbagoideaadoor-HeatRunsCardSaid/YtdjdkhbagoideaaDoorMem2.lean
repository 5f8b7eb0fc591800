/- Slices of slices of the call's own. Plain: no program here. -/
import Derived.Test.YtdjdkhbagoideaaDoorMem
import Derived.Maps.AppendAt
import Derived.Laws.AppendOwnNone
import Derived.Deep.RegionLaw
namespace Go.Proofs.YtdjdkhbagoideaaDoor
open Go.RowKit

/-- 'append(v, x)': one row, in a block that has just been laid; and where the row then lies -/
theorem wpList_push_at {P : Program} {w : World} {ops : Array Oper} {rest : List Oper} {o : Oper} {a : Act} {Q : Exit → Act → World → Prop} {t e : TypeId} {size bytes : Nat} (el : Elt P t e size bytes) (hgd : o.guard = none) (s x : Operand)
    (ho : o.op = .call { callee := .builtin .append, args := #[s, x], argTypes := #[t, t] }) {base : Nat} {v : Value} {xs : List (List Value)} (hs : a.eval s = v) (hown : Own w base e size xs v)
    (row : List Value) (g0 : Nat) (T : TypeId) (hx : a.eval x = .slice (some ⟨g0, 0, none⟩) 1 1) (hg0 : w.heap[g0]? = some (.cells row.toArray T)) (hl : row.length = size)
    (h1 : ∀ u ∈ row, u.oneCell' = true) (hbytes : (xs.length + 1) * bytes ≤ 140737488355328) (hbase : base ≤ w.heap.size)
    (h : ∀ v' w', Own w' base e size (xs ++ [row]) v' → Below base w w' → w.heap.size ≤ w'.heap.size → (v' = .slice none 0 0 → False) → w.grownBy w' v.ownBlock → (v'.ownBlock = v.ownBlock ∨ v'.ownBlock = some w.heap.size) → wpList P ops Q rest (a.put o.dst v') w') :
    wpList P ops Q (o :: rest) a w := by
  obtain ⟨i0, z, hi, hz0, hz1, hz2, hz⟩ := el.i
  refine wpList_append_own_at w hgd s x t ho base e i0 z size bytes el.u hi hz0 hz1 hz2 hz el.pos v xs.length xs.flatten hs hown.1 ⟨g0, 0, none⟩ 1 1 row hx (by rw [Nat.one_mul]; exact hl) (fun j u hj => ?_) h1 ?_ hbytes hbase (fun v' w' ho' hg hn hat => ?_)
  · rw [addr_add, Nat.zero_add, cell_of_row w g0 j _ T (0, 0) hg0]
    simpa using hj
  · have : xs.length + 1 ≤ (xs.length + 1) * bytes := Nat.le_mul_of_pos_right _ el.bpos
    unfold maxLen; omega
  · refine h v' w' ⟨?_, fun r hr => ?_⟩ ((Below.refl _ _).grown hg hbase (fun k hk => (hown.lt k hk).1)) hg.size (fun e => ?_) hg hat
    · rw [List.length_append, List.flatten_append]; simpa using ho'
    · rcases List.mem_append.1 hr with h' | h'
      · exact hown.2 r h'
      · simp only [List.mem_singleton] at h'; rw [h']; exact hl
    · have := hn.1 e
      simp at this

/-- v holds slices of the call's own (their rows: tt), each in a block of its own; all begin at 'base' or behind -/
structure Tbl (w : World) (base : Nat) (eo ei : TypeId) (size : Nat) (tt : List (List (List Value))) (v : Value) (vs : List Value) : Prop where
  o : Own w base eo 1 (vs.map fun x => [x]) v
  l : vs.length = tt.length
  r : ∀ (k : Nat) (x : Value) (t : List (List Value)), vs[k]? = some x → tt[k]? = some t → Own w base ei size t x
  d : ∀ (k : Nat) (x : Value), vs[k]? = some x → ∀ g : Nat, x.ownBlock = some g → v.ownBlock ≠ some g
  dd : ∀ (k j : Nat) (x y : Value), vs[k]? = some x → vs[j]? = some y → k ≠ j → ∀ g : Nat, x.ownBlock = some g → y.ownBlock ≠ some g
theorem Tbl.nil (w : World) (base : Nat) (eo ei : TypeId) (size : Nat) : Tbl w base eo ei size [] (.slice none 0 0) [] :=
  ⟨Own.nil _ _ _ _, rfl, by simp, by simp, by simp⟩
theorem Tbl.keep {w w' : World} {base : Nat} {eo ei : TypeId} {size : Nat} {tt : List (List (List Value))} {v : Value} {vs : List Value} (h : Tbl w base eo ei size tt v vs) (hk : ∀ g, base ≤ g → g < w.heap.size → (v.ownBlock = some g ∨ ∃ x ∈ vs, x.ownBlock = some g) → w'.heap[g]? = w.heap[g]?) : Tbl w' base eo ei size tt v vs :=
  ⟨h.o.keep fun g hg => hk g (h.o.lt g hg).1 (h.o.lt g hg).2 (Or.inl hg), h.l, fun k x t hx ht => (h.r k x t hx ht).keep fun g hg => hk g ((h.r k x t hx ht).lt g hg).1 ((h.r k x t hx ht).lt g hg).2 (Or.inr ⟨x, List.mem_of_getElem? hx, hg⟩), h.d, h.dd⟩
theorem Tbl.below {w w' : World} {base : Nat} {eo ei : TypeId} {size : Nat} {tt : List (List (List Value))} {v : Value} {vs : List Value} (h : Tbl w base eo ei size tt v vs) (d : Below w.heap.size w w') : Tbl w' base eo ei size tt v vs :=
  h.keep fun g _ hl _ => d.block g hl
theorem Tbl.drawn {w w' : World} {base : Nat} {eo ei : TypeId} {size : Nat} {tt : List (List (List Value))} {v : Value} {vs : List Value} (h : Tbl w base eo ei size tt v vs) (d : Drawn w w') : Tbl w' base eo ei size tt v vs :=
  h.keep fun g _ _ _ => by rw [d.heap]
/-- one more -/
theorem Tbl.push {w w1 w2 w3 : World} {base : Nat} {eo ei : TypeId} {size : Nat} {tt : List (List (List Value))} {v v' x : Value} {vs : List Value} {t : List (List Value)} (h : Tbl w base eo ei size tt v vs)
    (hb1 : Below w.heap.size w w1) (hx : Own w1 w.heap.size ei size t x) (hb : base ≤ w.heap.size) (hb2 : Below w1.heap.size w1 w2) (ho : Own w3 base eo 1 ((vs.map fun x => [x]) ++ [[x]]) v') (hg : w2.grownBy w3 v.ownBlock)
    (hat : v'.ownBlock = v.ownBlock ∨ v'.ownBlock = some w2.heap.size) : Tbl w3 base eo ei size (tt ++ [t]) v' (vs ++ [x]) := by
  have hs1 := hb1.size
  have hs2 := hb2.size
  have hvl : ∀ g, v.ownBlock = some g → g < w.heap.size := fun g hg => (h.o.lt g hg).2
  have hxl : ∀ g, x.ownBlock = some g → w.heap.size ≤ g ∧ g < w1.heap.size := hx.lt
  have hkl : ∀ (k : Nat) (y : Value), vs[k]? = some y → ∀ g, y.ownBlock = some g → g < w.heap.size := fun k y hy g hgy => by
    have hk : k < tt.length := by rw [← h.l]; exact (List.getElem?_eq_some_iff.1 hy).1
    exact ((h.r k y _ hy (List.getElem?_eq_getElem hk)).lt g hgy).2
  have hcase : ∀ (k : Nat) (y : Value), (vs ++ [x])[k]? = some y → (k < vs.length ∧ vs[k]? = some y) ∨ (k = vs.length ∧ y = x) := by
    intro k y hy
    rcases Nat.lt_or_ge k vs.length with q | q
    · rw [List.getElem?_append_left q] at hy; exact Or.inl ⟨q, hy⟩
    · rw [List.getElem?_append_right q] at hy
      have : k - vs.length = 0 := by
        rcases Nat.eq_zero_or_pos (k - vs.length) with z | z
        · exact z
        · rw [List.getElem?_eq_none (by simp; omega)] at hy; cases hy
      rw [this] at hy
      exact Or.inr ⟨by omega, (Option.some.inj hy).symm⟩
  have keep : ∀ g : Nat, g < w1.heap.size → v.ownBlock ≠ some g → w3.heap[g]? = w1.heap[g]? := fun g hl hn => by
    rw [hg.block g (by omega) (fun e => hn e.symm), hb2.block g hl]
  refine ⟨by rw [List.map_append]; exact ho, by rw [List.length_append, List.length_append, h.l]; rfl, fun k y t' hy ht => ?_, fun k y hy g hgy e => ?_, fun k j y z hy hz hkj g hgy e => ?_⟩
  · rcases hcase k y hy with ⟨hk, hy⟩ | ⟨rfl, rfl⟩
    · rw [List.getElem?_append_left (by rw [← h.l]; exact hk)] at ht
      exact ((h.r k y t' hy ht).below hb1).keep fun g hgy => keep g (by have := hkl k y hy g hgy; omega) (h.d k y hy g hgy)
    · rw [h.l, List.getElem?_append_right (Nat.le_refl _), Nat.sub_self] at ht
      obtain rfl : t = t' := Option.some.inj ht
      exact (hx.mono hb).keep fun g hgy => keep g (hxl g hgy).2 (fun e => by have := hvl g e; have := (hxl g hgy).1; omega)
  · rcases hcase k y hy with ⟨hk, hy⟩ | ⟨rfl, rfl⟩
    · rcases hat with q | q
      · rw [q] at e; exact h.d k y hy g hgy e
      · rw [q] at e; cases e; have := hkl k y hy _ hgy; omega
    · rcases hat with q | q
      · rw [q] at e; have := hvl g e; have := (hxl g hgy).1; omega
      · rw [q] at e; cases e; have := (hxl _ hgy).2; omega
  · rcases hcase k y hy with ⟨hk, hy'⟩ | ⟨hk, hy'⟩ <;> rcases hcase j z hz with ⟨hj, hz'⟩ | ⟨hj, hz'⟩
    · exact h.dd k j y z hy' hz' hkj g hgy e
    · have := hkl k y hy' g hgy; have := (hxl g (hz' ▸ e)).1; omega
    · have := hkl j z hz' g e; have := (hxl g (hy' ▸ hgy)).1; omega
    · exact hkj (hk.trans hj.symm)
end Go.Proofs.YtdjdkhbagoideaaDoor

/- More of slices of the call's own: literals, append of any slice, a table's inner row written. Plain: no program here. -/
namespace Go.Proofs.YtdjdkhbagoideaaDoor
open Go.RowKit

theorem Own.lit {w : World} {base : Nat} {e : TypeId} {size : Nat} {xs : List (List Value)} (cs : Array Value) (n : Nat) (hn : xs.length = n) (hc : cs.toList = xs.flatten) (hr : ∀ r ∈ xs, r.length = size) (hb : base ≤ w.heap.size) (hm : n ≤ maxLen) :
    Own (w.alloc (.cells cs e)) base e size xs (.slice (some ⟨w.heap.size, 0, none⟩) n n) := by
  subst hn
  refine ⟨?_, hr⟩
  rw [← hc]
  refine World.ownsRow_lit w cs _ hb hm ?_
  rw [← Array.length_toList, hc, flat_length xs hr]
theorem Sl.flat {S : Nat → Prop} {w : World} {a : Addr} {size : Nat} {ys : List (List Value)} (h : Sl S w (some a) size ys) (hp : 0 < size) : ∀ j u, ys.flatten[j]? = some u → w.cell? (a.add j) = some u := by
  intro j u hj
  have hlt : j < ys.flatten.length := (List.getElem?_eq_some_iff.1 hj).1
  rw [flat_length ys h.2.1] at hlt
  have hn : 0 < ys.length := by
    rcases Nat.eq_zero_or_pos ys.length with z | z
    · rw [z] at hlt; simp at hlt
    · exact z
  obtain ⟨b, off, e, _, _, hc⟩ := h.2.2 hn
  cases e
  have hq : j / size < ys.length := Nat.div_lt_of_lt_mul (by rw [Nat.mul_comm]; exact hlt)
  have hmod : j % size < size := Nat.mod_lt _ hp
  have hd : j = (j / size) * size + j % size := by rw [Nat.mul_comm]; exact (Nat.div_add_mod j size).symm
  have hr := h.2.1 _ (List.getElem_mem hq)
  have hu' : ys[j / size][j % size]? = some (ys[j / size][j % size]'(by rw [hr]; exact hmod)) := List.getElem?_eq_getElem _
  have hg := flat_get ys h.2.1 _ _ (List.getElem?_eq_getElem hq) _ _ hu'
  rw [← hd, hj] at hg
  have := hc _ _ (List.getElem?_eq_getElem hq) _ _ hu'
  rw [← Option.some.inj hg] at this
  rw [addr_add]
  rw [show off + (j / size) * size + j % size = off + j by omega] at this
  exact this
/-- 'append(v, x...)', x any slice: nil, empty or not -/
theorem wpList_app_any {P : Program} {w : World} {ops : Array Oper} {rest : List Oper} {o : Oper} {a : Act} {Q : Exit → Act → World → Prop} {t e : TypeId} {size bytes : Nat} (el : Elt P t e size bytes) (hgd : o.guard = none) (s x : Operand)
    (ho : o.op = .call { callee := .builtin .append, args := #[s, x], argTypes := #[t, t] }) {base : Nat} {v : Value} {xs ys : List (List Value)} (hs : a.eval s = v) (hown : Own w base e size xs v)
    (A : Option Addr) (c m : Nat) (hm : m = ys.length) (hx : a.eval x = .slice A m c) (hA : A = none → c = 0) {S : Nat → Prop} (hys : Sl S w A size ys)
    (h1 : ∀ r ∈ ys, ∀ u ∈ r, u.oneCell' = true) (hbytes : (xs.length + ys.length) * bytes ≤ 140737488355328) (hbase : base ≤ w.heap.size)
    (h : ∀ v' w', Own w' base e size (xs ++ ys) v' → Below base w w' → w.heap.size ≤ w'.heap.size → w.grownBy w' v.ownBlock → (v'.ownBlock = v.ownBlock ∨ v'.ownBlock = some w.heap.size) → wpList P ops Q rest (a.put o.dst v') w') :
    wpList P ops Q (o :: rest) a w := by
  subst hm
  obtain ⟨i0, z, hi, hz0, hz1, hz2, hz⟩ := el.i
  cases A with
  | none =>
    obtain rfl := hA rfl
    have hy : ys = [] := by
      rcases Nat.eq_zero_or_pos ys.length with z | z
      · exact List.length_eq_zero_iff.1 z
      · obtain ⟨b, off, e, _⟩ := hys.2.2 z; cases e
    subst hy
    refine wpList_append_own_none hgd s x t ho base e i0 size el.u hi v xs.length xs.flatten hs hown.1 hx ?_
    exact h v w (by rw [List.append_nil]; exact hown) (Below.refl _ _) (Nat.le_refl _) (World.grownBy.refl w _) (.inl rfl)
  | some ad =>
    refine wpList_append_own_at w hgd s x t ho base e i0 z size bytes el.u hi hz0 hz1 hz2 hz el.pos v xs.length xs.flatten hs hown.1 ad ys.length c ys.flatten hx (flat_length ys hys.2.1) (hys.flat el.pos) (fun u hu => ?_) ?_ hbytes hbase (fun v' w' ho' hg _ hat => ?_)
    · obtain ⟨r, hr, hur⟩ := List.mem_flatten.1 hu
      exact h1 r hr u hur
    · have : xs.length + ys.length ≤ (xs.length + ys.length) * bytes := Nat.le_mul_of_pos_right _ el.bpos
      unfold maxLen; omega
    · refine h v' w' ⟨?_, fun r hr => ?_⟩ ((Below.refl _ _).grown hg hbase (fun k hk => (hown.lt k hk).1)) hg.size hg hat
      · rw [List.length_append, List.flatten_append]; exact ho'
      · rcases List.mem_append.1 hr with h' | h'
        · exact hown.2 r h'
        · exact hys.2.1 r h'
theorem Tbl.lt {w : World} {base : Nat} {eo ei : TypeId} {size : Nat} {tt : List (List (List Value))} {v : Value} {vs : List Value} (h : Tbl w base eo ei size tt v vs) : ∀ g, (v.ownBlock = some g ∨ ∃ x ∈ vs, x.ownBlock = some g) → base ≤ g ∧ g < w.heap.size := by
  rintro g (hg | ⟨x, hx, hg⟩)
  · exact h.o.lt g hg
  · obtain ⟨k, hk, rfl⟩ := List.getElem_of_mem hx
    exact (h.r k _ _ (List.getElem?_eq_getElem hk) (List.getElem?_eq_getElem (by rw [← h.l]; exact hk))).lt g hg
theorem Tbl.mono {w : World} {base base' : Nat} {eo ei : TypeId} {size : Nat} {tt : List (List (List Value))} {v : Value} {vs : List Value} (h : Tbl w base eo ei size tt v vs) (hb : base' ≤ base) : Tbl w base' eo ei size tt v vs :=
  ⟨h.o.mono hb, h.l, fun k x t hx ht => (h.r k x t hx ht).mono hb, h.d, h.dd⟩
/-- one inner row is another one -/
theorem Tbl.upd {w w' : World} {base : Nat} {eo ei : TypeId} {size : Nat} {tt : List (List (List Value))} {v : Value} {vs : List Value} (h : Tbl w base eo ei size tt v vs) {k : Nat} {x : Value} (hx : vs[k]? = some x) {g : Nat} (hg : x.ownBlock = some g)
    (hk : ∀ b, b ≠ g → w'.heap[b]? = w.heap[b]?) {t' : List (List Value)} (ht : Own w' base ei size t' x) : Tbl w' base eo ei size (tt.set k t') v vs := by
  refine ⟨h.o.keep fun b hb => hk b (fun e => h.d k x hx g hg (e ▸ hb)), by rw [List.length_set]; exact h.l, fun j y t hy htj => ?_, h.d, h.dd⟩
  by_cases hjk : j = k
  · subst hjk
    rw [hx] at hy
    cases hy
    rw [List.getElem?_set_self (by rw [← h.l]; exact (List.getElem?_eq_some_iff.1 hx).1)] at htj
    cases htj
    exact ht
  · rw [List.getElem?_set_ne (fun e => hjk e.symm)] at htj
    exact (h.r j y t hy htj).keep fun b hb => hk b (fun e => h.dd k j x y hx hy (fun e => hjk e.symm) g hg (e ▸ hb))

/-- what lies outside blocks B0 .. B1 is as it was -/
structure Off (B0 B1 : Nat) (w w' : World) : Prop where
  o : ∀ b, b < B0 ∨ B1 ≤ b → b < w.heap.size → w'.heap[b]? = w.heap[b]?
  g : Below B0 w w'
theorem Off.refl (B0 B1 : Nat) (w : World) : Off B0 B1 w w := ⟨fun _ _ _ => rfl, Below.refl _ _⟩
theorem Off.set {B0 B1 : Nat} {w w' : World} (h : Off B0 B1 w w') {p : Addr} (h0 : B0 ≤ p.block) (h1 : p.block < B1) (v : Value) : Off B0 B1 w (w'.setCell p v) :=
  ⟨fun b hb hl => by rw [Below.heap_setCell w' p v b (by omega)]; exact h.o b hb hl, h.g.setCell h0 v⟩
theorem Off.drewN {B0 B1 : Nat} {w w' : World} (h : Off B0 B1 w w') (n : Nat) : Off B0 B1 w (w'.drewN n) := ⟨h.o, below_drewN' h.g n⟩
theorem Off.own {B0 B1 : Nat} {w w' : World} (h : Off B0 B1 w w') {base : Nat} {e : TypeId} {size : Nat} {xs : List (List Value)} {v : Value} (ho : Own w base e size xs v) (hk : ∀ g, v.ownBlock = some g → g < B0 ∨ B1 ≤ g) : Own w' base e size xs v :=
  ho.keep fun g hg => h.o g (hk g hg) (ho.lt g hg).2
theorem Off.tbl {B0 B1 : Nat} {w w' : World} (h : Off B0 B1 w w') {base : Nat} {eo ei : TypeId} {size : Nat} {tt : List (List (List Value))} {v : Value} {vs : List Value} (ht : Tbl w base eo ei size tt v vs) (hk : ∀ g, (v.ownBlock = some g ∨ ∃ x ∈ vs, x.ownBlock = some g) → g < B0 ∨ B1 ≤ g) : Tbl w' base eo ei size tt v vs :=
  ht.keep fun g _ hl ho => h.o g (hk g ho) hl
/-- the cell of row k, to be written -/
theorem Own.row1 {w : World} {base : Nat} {e : TypeId} {rs : List (List Value)} {A : Option Addr} {n c : Nat} (h : Own w base e 1 rs (.slice A n c)) (hn : rs.length = n) {k : Nat} (hk : k < n) :
    ∃ g u0, A = some ⟨g, 0, none⟩ ∧ base ≤ g ∧ g < w.heap.size ∧ w.cell? ⟨g, k, none⟩ = some u0 ∧ w.frozen? ⟨g, k, none⟩ = false ∧ rs[k]? = some [u0] ∧
      (∀ x, Own (w.setCell ⟨g, k, none⟩ x) base e 1 (rs.set k [x]) (.slice A n c)) := by
  subst hn
  obtain ⟨g, cap, hv, hg1, hg2, hg3⟩ := h.form (by omega)
  simp only [Value.slice.injEq, true_and] at hv
  obtain ⟨rfl, rfl⟩ := hv
  have hl := h.2 _ (List.getElem_mem hk)
  have hr := List.getElem?_eq_getElem hk
  match hm : rs[k], hl with
  | [u0], _ =>
    have c0 := h.cell hk (f := 0) (u := u0) (by rw [hm]; rfl)
    rw [Nat.mul_one, Nat.add_zero] at c0
    refine ⟨g, u0, rfl, hg1, hg2, c0.1, c0.2, by rw [hr, hm], fun x => ?_⟩
    have h1 := h.set hk (f := 0) (by decide) x
    rw [hm, Nat.mul_one, Nat.add_zero] at h1
    exact h1
end Go.Proofs.YtdjdkhbagoideaaDoor

/- append as an equation of runs: for regions that draw. Plain: no program here. -/
namespace Go.Proofs.YtdjdkhbagoideaaDoor
open Go.RowKit

theorem run_push_at {P : Program} {w : World} {t e : TypeId} {size bytes : Nat} (el : Elt P t e size bytes) (ty : TypeId) {base : Nat} {v : Value} {xs : List (List Value)} (hown : Own w base e size xs v)
    (row : List Value) (g0 : Nat) (T : TypeId) (hg0 : w.heap[g0]? = some (.cells row.toArray T)) (hl : row.length = size)
    (h1 : ∀ u ∈ row, u.oneCell' = true) (hbytes : (xs.length + 1) * bytes ≤ 140737488355328) (hbase : base ≤ w.heap.size) :
    ∃ v' w', (Builtin.append_ #[t, t] ty #[v, .slice (some ⟨g0, 0, none⟩) 1 1]).run P w = .ok v' w' ∧ Own w' base e size (xs ++ [row]) v' ∧ Below base w w' ∧ w.heap.size ≤ w'.heap.size ∧ w.grownBy w' v.ownBlock ∧ (v'.ownBlock = v.ownBlock ∨ v'.ownBlock = some w.heap.size) := by
  obtain ⟨i0, z, hi, hz0, hz1, hz2, hz⟩ := el.i
  obtain ⟨v', w', hrun, ho', hg, _, hat⟩ := run_append_own_at (P := P) w base t ty e i0 z size bytes el.u hi hz0 hz1 hz2 hz el.pos v xs.length xs.flatten hown.1 ⟨g0, 0, none⟩ 1 1 row (by rw [Nat.one_mul]; exact hl) (fun j u hj => by
    rw [addr_add, Nat.zero_add, cell_of_row w g0 j _ T (0, 0) hg0]
    simpa using hj) h1 (by
    have : xs.length + 1 ≤ (xs.length + 1) * bytes := Nat.le_mul_of_pos_right _ el.bpos
    unfold maxLen; omega) hbytes hbase
  refine ⟨v', w', hrun, ⟨?_, fun r hr => ?_⟩, (Below.refl _ _).grown hg hbase (fun k hk => (hown.lt k hk).1), hg.size, hg, hat⟩
  · rw [List.length_append, List.flatten_append]; simpa using ho'
  · rcases List.mem_append.1 hr with h' | h'
    · exact hown.2 r h'
    · simp only [List.mem_singleton] at h'; rw [h']; exact hl
/-- an append in a region that draws, by its run -/
theorem step_run {P : Program} {ops : Array Oper} {o : Oper} {a : Act} {w : World} {K : Act → World → Prop} {Q : Exit → Act → World → Prop} {E : Prop} (hg : o.guard = none) (s x : Operand) (t : TypeId)
    (ho : o.op = .call { callee := .builtin .append, args := #[s, x], argTypes := #[t, t] }) {v xv v' : Value} {w' : World} (hs : a.eval s = v) (hx : a.eval x = xv) (hrun : (Builtin.append_ #[t, t] o.type #[v, xv]).run P w = .ok v' w') (hK : K (a.put o.dst v') w') :
    if Region.wanted o (yielded ops a.tmps) = true then Oper.wp P o a w K Q else E := by
  have hw : Region.wanted o (yielded ops a.tmps) = true := by simp [Region.wanted, hg]
  rw [if_pos hw]
  unfold Oper.wp execOp
  simp only [ho, resolve, invoke, builtin, Sem.run_bind, Sem.run_pure, Result.andThen_ok, List.map_toArray, List.map_cons, List.map_nil, hs, hx, hrun]
  exact hK
end Go.Proofs.YtdjdkhbagoideaaDoor

/- 'make([]T, n)' of one-cell elements: n noughts of the call's own. Plain: no program here. -/
namespace Go.Proofs.YtdjdkhbagoideaaDoor
open Go.RowKit

theorem rep_flat (n : Nat) (z : Value) : (List.replicate n [z]).flatten = List.replicate n z := by
  induction n with
  | zero => rfl
  | succ n ih => rw [List.replicate_succ, List.replicate_succ, List.flatten_cons, ih]; rfl
theorem wpList_made1 {P : Program} {w : World} {ops : Array Oper} {rest : List Oper} {o : Oper} {a : Act} {Q : Exit → Act → World → Prop} {t e : TypeId} {bytes : Nat} {z : Value} (u : P.underlying t = some (.slice e)) (hi : (P.info? e).map (fun i => (i.zero, i.size, i.bytes)) = some (some z, 1, bytes)) (hz : z.cells = #[z]) (hgd : o.guard = none) (l c : Operand)
    (ho : o.op = .makeSlice t l c) (n : Nat) (hl : a.eval l = .int .i64 n) (hc : a.eval c = .int .i64 n) (hb : bytes * n ≤ 281474976710656) (hn : n ≤ maxLen)
    (h : ∀ w', Own w' w.heap.size e 1 (List.replicate n [z]) (.slice (some ⟨w.heap.size, 0, none⟩) n n) → Below w.heap.size w w' → wpList P ops Q rest (a.put o.dst (.slice (some ⟨w.heap.size, 0, none⟩) n n)) w') :
    wpList P ops Q (o :: rest) a w := by
  obtain ⟨i0, hi0, hz0, hz1, hz2⟩ := info_parts hi
  refine wpList_make_full w hgd l c t ho w.heap.size e i0 z 1 u hi0 hz0 hz1 .i64 .i64 n n n hl hc rfl rfl (by rw [hz2]; exact hb) hn (Nat.le_refl _) fun w' hw hg => ?_
  have e1 : (madeCells z.cells (n * 1)).toList = List.replicate n z := by rw [hz, Nat.mul_one, toList_madeCells_one]
  rw [e1] at hw
  refine h w' ⟨?_, fun r hr => ?_⟩ ((Below.refl _ _).grown hg (Nat.le_refl _) (fun k hk => by cases hk))
  · rw [rep_flat, List.length_replicate]; exact hw
  · rw [(List.mem_replicate.1 hr).2]; rfl
end Go.Proofs.YtdjdkhbagoideaaDoor
