/- More of slices of the call's own: literals, append of any slice, a table's inner row written. Plain: no program here. -/
import Derived.Test.YtgpapbpkcggolaaDoorMem2
import Derived.Laws.AppendOwnNone
namespace Go.Proofs.YtgpapbpkcggolaaDoor
open Go.RowKit

theorem Own.lit {w : World} {base : Nat} {e : TypeId} {size : Nat} {xs : List (List Value)} (cs : Array Value) (n : Nat) (hn : xs.length = n) (hc : cs.toList = xs.flatten) (hr : ∀ r ∈ xs, r.length = size) (hb : base ≤ w.heap.size) (hm : n ≤ maxLen) :
    Own (w.alloc (.cells cs e)) base e size xs (.slice (some ⟨w.heap.size, 0, none⟩) n n) := by
  subst hn
  refine ⟨?_, hr⟩
  rw [← hc]
  refine World.ownsRow_lit w cs _ hb hm ?_
  rw [← Array.length_toList, hc, flat_length xs hr]
theorem Sl.flat {S : Nat → Prop} {w : World} {a : Addr} {size : Nat} {ys : List (List Value)} (h : Sl S w (some a) size ys) (hp : 0 < size) : ∀ j u, ys.flatten[j]? = some u → w.cell? (a.add j) = some u := by
  intro j u hj
  have hlt : j < ys.flatten.length := (List.getElem?_eq_some_iff.1 hj).1
  rw [flat_length ys h.2.1] at hlt
  have hn : 0 < ys.length := by
    rcases Nat.eq_zero_or_pos ys.length with z | z
    · rw [z] at hlt; simp at hlt
    · exact z
  obtain ⟨b, off, e, _, _, hc⟩ := h.2.2 hn
  cases e
  have hq : j / size < ys.length := Nat.div_lt_of_lt_mul (by rw [Nat.mul_comm]; exact hlt)
  have hmod : j % size < size := Nat.mod_lt _ hp
  have hd : j = (j / size) * size + j % size := by rw [Nat.mul_comm]; exact (Nat.div_add_mod j size).symm
  have hr := h.2.1 _ (List.getElem_mem hq)
  have hu' : ys[j / size][j % size]? = some (ys[j / size][j % size]'(by rw [hr]; exact hmod)) := List.getElem?_eq_getElem _
  have hg := flat_get ys h.2.1 _ _ (List.getElem?_eq_getElem hq) _ _ hu'
  rw [← hd, hj] at hg
  have := hc _ _ (List.getElem?_eq_getElem hq) _ _ hu'
  rw [← Option.some.inj hg] at this
  rw [addr_add]
  rw [show off + (j / size) * size + j % size = off + j by omega] at this
  exact this
/-- 'append(v, x...)', x any slice: nil, empty or not -/
theorem wpList_app_any {P : Program} {w : World} {ops : Array Oper} {rest : List Oper} {o : Oper} {a : Act} {Q : Exit → Act → World → Prop} {t e : TypeId} {size bytes : Nat} (el : Elt P t e size bytes) (hgd : o.guard = none) (s x : Operand)
    (ho : o.op = .call { callee := .builtin .append, args := #[s, x], argTypes := #[t, t] }) {base : Nat} {v : Value} {xs ys : List (List Value)} (hs : a.eval s = v) (hown : Own w base e size xs v)
    (A : Option Addr) (c m : Nat) (hm : m = ys.length) (hx : a.eval x = .slice A m c) (hA : A = none → c = 0) {S : Nat → Prop} (hys : Sl S w A size ys)
    (h1 : ∀ r ∈ ys, ∀ u ∈ r, u.oneCell' = true) (hbytes : (xs.length + ys.length) * bytes ≤ 140737488355328) (hbase : base ≤ w.heap.size)
    (h : ∀ v' w', Own w' base e size (xs ++ ys) v' → Below base w w' → w.heap.size ≤ w'.heap.size → w.grownBy w' v.ownBlock → (v'.ownBlock = v.ownBlock ∨ v'.ownBlock = some w.heap.size) → wpList P ops Q rest (a.put o.dst v') w') :
    wpList P ops Q (o :: rest) a w := by
  subst hm
  obtain ⟨i0, z, hi, hz0, hz1, hz2, hz⟩ := el.i
  cases A with
  | none =>
    obtain rfl := hA rfl
    have hy : ys = [] := by
      rcases Nat.eq_zero_or_pos ys.length with z | z
      · exact List.length_eq_zero_iff.1 z
      · obtain ⟨b, off, e, _⟩ := hys.2.2 z; cases e
    subst hy
    refine wpList_append_own_none hgd s x t ho base e i0 size el.u hi v xs.length xs.flatten hs hown.1 hx ?_
    exact h v w (by rw [List.append_nil]; exact hown) (Below.refl _ _) (Nat.le_refl _) (World.grownBy.refl w _) (.inl rfl)
  | some ad =>
    refine wpList_append_own_at w hgd s x t ho base e i0 z size bytes el.u hi hz0 hz1 hz2 hz el.pos v xs.length xs.flatten hs hown.1 ad ys.length c ys.flatten hx (flat_length ys hys.2.1) (hys.flat el.pos) (fun u hu => ?_) ?_ hbytes hbase (fun v' w' ho' hg _ hat => ?_)
    · obtain ⟨r, hr, hur⟩ := List.mem_flatten.1 hu
      exact h1 r hr u hur
    · have : xs.length + ys.length ≤ (xs.length + ys.length) * bytes := Nat.le_mul_of_pos_right _ el.bpos
      unfold maxLen; omega
    · refine h v' w' ⟨?_, fun r hr => ?_⟩ ((Below.refl _ _).grown hg hbase (fun k hk => (hown.lt k hk).1)) hg.size hg hat
      · rw [List.length_append, List.flatten_append]; exact ho'
      · rcases List.mem_append.1 hr with h' | h'
        · exact hown.2 r h'
        · exact hys.2.1 r h'
theorem Tbl.lt {w : World} {base : Nat} {eo ei : TypeId} {size : Nat} {tt : List (List (List Value))} {v : Value} {vs : List Value} (h : Tbl w base eo ei size tt v vs) : ∀ g, (v.ownBlock = some g ∨ ∃ x ∈ vs, x.ownBlock = some g) → base ≤ g ∧ g < w.heap.size := by
  rintro g (hg | ⟨x, hx, hg⟩)
  · exact h.o.lt g hg
  · obtain ⟨k, hk, rfl⟩ := List.getElem_of_mem hx
    exact (h.r k _ _ (List.getElem?_eq_getElem hk) (List.getElem?_eq_getElem (by rw [← h.l]; exact hk))).lt g hg
theorem Tbl.mono {w : World} {base base' : Nat} {eo ei : TypeId} {size : Nat} {tt : List (List (List Value))} {v : Value} {vs : List Value} (h : Tbl w base eo ei size tt v vs) (hb : base' ≤ base) : Tbl w base' eo ei size tt v vs :=
  ⟨h.o.mono hb, h.l, fun k x t hx ht => (h.r k x t hx ht).mono hb, h.d, h.dd⟩
/-- one inner row is another one -/
theorem Tbl.upd {w w' : World} {base : Nat} {eo ei : TypeId} {size : Nat} {tt : List (List (List Value))} {v : Value} {vs : List Value} (h : Tbl w base eo ei size tt v vs) {k : Nat} {x : Value} (hx : vs[k]? = some x) {g : Nat} (hg : x.ownBlock = some g)
    (hk : ∀ b, b ≠ g → w'.heap[b]? = w.heap[b]?) {t' : List (List Value)} (ht : Own w' base ei size t' x) : Tbl w' base eo ei size (tt.set k t') v vs := by
  refine ⟨h.o.keep fun b hb => hk b (fun e => h.d k x hx g hg (e ▸ hb)), by rw [List.length_set]; exact h.l, fun j y t hy htj => ?_, h.d, h.dd⟩
  by_cases hjk : j = k
  · subst hjk
    rw [hx] at hy
    cases hy
    rw [List.getElem?_set_self (by rw [← h.l]; exact (List.getElem?_eq_some_iff.1 hx).1)] at htj
    cases htj
    exact ht
  · rw [List.getElem?_set_ne (fun e => hjk e.symm)] at htj
    exact (h.r j y t hy htj).keep fun b hb => hk b (fun e => h.dd k j x y hx hy (fun e => hjk e.symm) g hg (e ▸ hb))

/-- what lies outside blocks B0 .. B1 is as it was -/
structure Off (B0 B1 : Nat) (w w' : World) : Prop where
  o : ∀ b, b < B0 ∨ B1 ≤ b → b < w.heap.size → w'.heap[b]? = w.heap[b]?
  g : Below B0 w w'
theorem Off.refl (B0 B1 : Nat) (w : World) : Off B0 B1 w w := ⟨fun _ _ _ => rfl, Below.refl _ _⟩
theorem Off.set {B0 B1 : Nat} {w w' : World} (h : Off B0 B1 w w') {p : Addr} (h0 : B0 ≤ p.block) (h1 : p.block < B1) (v : Value) : Off B0 B1 w (w'.setCell p v) :=
  ⟨fun b hb hl => by rw [Below.heap_setCell w' p v b (by omega)]; exact h.o b hb hl, h.g.setCell h0 v⟩
theorem Off.drewN {B0 B1 : Nat} {w w' : World} (h : Off B0 B1 w w') (n : Nat) : Off B0 B1 w (w'.drewN n) := ⟨h.o, below_drewN' h.g n⟩
theorem Off.own {B0 B1 : Nat} {w w' : World} (h : Off B0 B1 w w') {base : Nat} {e : TypeId} {size : Nat} {xs : List (List Value)} {v : Value} (ho : Own w base e size xs v) (hk : ∀ g, v.ownBlock = some g → g < B0 ∨ B1 ≤ g) : Own w' base e size xs v :=
  ho.keep fun g hg => h.o g (hk g hg) (ho.lt g hg).2
theorem Off.tbl {B0 B1 : Nat} {w w' : World} (h : Off B0 B1 w w') {base : Nat} {eo ei : TypeId} {size : Nat} {tt : List (List (List Value))} {v : Value} {vs : List Value} (ht : Tbl w base eo ei size tt v vs) (hk : ∀ g, (v.ownBlock = some g ∨ ∃ x ∈ vs, x.ownBlock = some g) → g < B0 ∨ B1 ≤ g) : Tbl w' base eo ei size tt v vs :=
  ht.keep fun g _ hl ho => h.o g (hk g ho) hl
/-- the cell of row k, to be written -/
theorem Own.row1 {w : World} {base : Nat} {e : TypeId} {rs : List (List Value)} {A : Option Addr} {n c : Nat} (h : Own w base e 1 rs (.slice A n c)) (hn : rs.length = n) {k : Nat} (hk : k < n) :
    ∃ g u0, A = some ⟨g, 0, none⟩ ∧ base ≤ g ∧ g < w.heap.size ∧ w.cell? ⟨g, k, none⟩ = some u0 ∧ w.frozen? ⟨g, k, none⟩ = false ∧ rs[k]? = some [u0] ∧
      (∀ x, Own (w.setCell ⟨g, k, none⟩ x) base e 1 (rs.set k [x]) (.slice A n c)) := by
  subst hn
  obtain ⟨g, cap, hv, hg1, hg2, hg3⟩ := h.form (by omega)
  simp only [Value.slice.injEq, true_and] at hv
  obtain ⟨rfl, rfl⟩ := hv
  have hl := h.2 _ (List.getElem_mem hk)
  have hr := List.getElem?_eq_getElem hk
  match hm : rs[k], hl with
  | [u0], _ =>
    have c0 := h.cell hk (f := 0) (u := u0) (by rw [hm]; rfl)
    rw [Nat.mul_one, Nat.add_zero] at c0
    refine ⟨g, u0, rfl, hg1, hg2, c0.1, c0.2, by rw [hr, hm], fun x => ?_⟩
    have h1 := h.set hk (f := 0) (by decide) x
    rw [hm, Nat.mul_one, Nat.add_zero] at h1
    exact h1
end Go.Proofs.YtgpapbpkcggolaaDoor
