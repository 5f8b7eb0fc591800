/- Slices as lists of rows of cells, wherever they lie. Plain: no program here. -/
import Derived.Test.YtgnhddnhcfmipaaLaw
import Derived.Laws.OwnMore
import Derived.OwnWalk
import Derived.Deep.AppendLies
import Derived.Deep.Slices
namespace Go.Proofs.Ytgnhddnhcfmipaa
open Go.RowKit

/-- the slice value '.slice A xs.length c' holds the rows xs (each of 'size' cells), in a block of S -/
def Sl (S : Nat → Prop) (w : World) (A : Option Addr) (size : Nat) (xs : List (List Value)) : Prop :=
  xs.length ≤ 9223372036854775807 ∧ (∀ r ∈ xs, r.length = size) ∧ (0 < xs.length → ∃ b o, A = some ⟨b, o, none⟩ ∧ S b ∧ b < w.heap.size ∧
    ∀ i r, xs[i]? = some r → ∀ f u, r[f]? = some u → w.cell? ⟨b, o + i * size + f, none⟩ = some u)

theorem Sl.nil (S : Nat → Prop) (w : World) (A : Option Addr) (size : Nat) : Sl S w A size [] := ⟨by simp, by simp, fun h => absurd h (by simp)⟩
theorem Sl.le {S : Nat → Prop} {w : World} {A : Option Addr} {size : Nat} {xs : List (List Value)} (h : Sl S w A size xs) : xs.length ≤ 9223372036854775807 := h.1
theorem Sl.at_ {S : Nat → Prop} {w : World} {A : Option Addr} {size : Nat} {xs : List (List Value)} (h : Sl S w A size xs) {k : Nat} (hk : k < xs.length) :
    ∃ b o, A = some ⟨b, o, none⟩ ∧ S b ∧ b < w.heap.size ∧ ∀ f u, xs[k][f]? = some u → w.cell? ⟨b, o + k * size + f, none⟩ = some u := by
  obtain ⟨b, o, e, hb, hl, hc⟩ := h.2.2 (by omega)
  exact ⟨b, o, e, hb, hl, fun f u hu => hc k _ (List.getElem?_eq_getElem hk) f u hu⟩
/-- what is in other blocks may turn -/
theorem Sl.keep {S : Nat → Prop} {w w' : World} {A : Option Addr} {size : Nat} {xs : List (List Value)} (h : Sl S w A size xs) (hk : ∀ b, S b → b < w.heap.size → w'.heap[b]? = w.heap[b]?) : Sl S w' A size xs :=
  ⟨h.1, h.2.1, fun hn => by
    obtain ⟨b, o, e, hb, hl, hc⟩ := h.2.2 hn
    have hkb := hk b hb hl
    refine ⟨b, o, e, hb, ?_, fun i r hr f u hu => by rw [← hc i r hr f u hu]; exact World.cell?_of_block hkb⟩
    rcases Nat.lt_or_ge b w'.heap.size with q | q
    · exact q
    · rw [Array.getElem?_eq_none q, Array.getElem?_eq_getElem hl] at hkb; cases hkb⟩
theorem Sl.mono {S S' : Nat → Prop} {w : World} {A : Option Addr} {size : Nat} {xs : List (List Value)} (h : Sl S w A size xs) (hS : ∀ b, S b → S' b) : Sl S' w A size xs :=
  ⟨h.1, h.2.1, fun hn => by obtain ⟨b, o, e, hb, hl, hc⟩ := h.2.2 hn; exact ⟨b, o, e, hS b hb, hl, hc⟩⟩
theorem Sl.drawn {S : Nat → Prop} {w w' : World} {A : Option Addr} {size : Nat} {xs : List (List Value)} (h : Sl S w A size xs) (d : Drawn w w') : Sl S w' A size xs :=
  h.keep fun b _ _ => by rw [d.heap]
theorem Sl.below {B : Nat} {w w' : World} {A : Option Addr} {size : Nat} {xs : List (List Value)} (h : Sl (· < B) w A size xs) (d : Below B w w') : Sl (· < B) w' A size xs :=
  h.keep fun b hb _ => d.block b hb
theorem Sl.below' {S : Nat → Prop} {w w' : World} {A : Option Addr} {size : Nat} {xs : List (List Value)} (h : Sl S w A size xs) (d : Below w.heap.size w w') : Sl S w' A size xs :=
  h.keep fun b _ hl => d.block b hl
theorem Sl.alloc {S : Nat → Prop} {w : World} {A : Option Addr} {size : Nat} {xs : List (List Value)} (h : Sl S w A size xs) (o : Obj) : Sl S (w.alloc o) A size xs :=
  h.keep fun b _ hl => Below.heap_alloc w o b hl
theorem Sl.set {S : Nat → Prop} {w : World} {A : Option Addr} {size : Nat} {xs : List (List Value)} (h : Sl S w A size xs) {a : Addr} (ha : ¬ S a.block) (v : Value) : Sl S (w.setCell a v) A size xs :=
  h.keep fun b hb _ => Below.heap_setCell w a v b (fun e => ha (e ▸ hb))
/-- a beginning of it -/
theorem Sl.take {S : Nat → Prop} {w : World} {A : Option Addr} {size : Nat} {xs : List (List Value)} (h : Sl S w A size xs) (k : Nat) : Sl S w A size (xs.take k) := by
  refine ⟨by have := h.1; rw [List.length_take]; omega, fun r hr => h.2.1 r (List.mem_of_mem_take hr), fun hn => ?_⟩
  have hlen : 0 < xs.length := by
    rw [List.length_take] at hn; omega
  obtain ⟨b, o, e, hb, hl, hc⟩ := h.2.2 hlen
  refine ⟨b, o, e, hb, hl, fun i r hr f u hu => hc i r ?_ f u hu⟩
  rw [List.getElem?_take] at hr
  split at hr
  · exact hr
  · cases hr

/-- rows of a flat list of cells -/
def rows (size : Nat) : Nat → List Value → List (List Value)
  | 0, _ => []
  | n + 1, l => l.take size :: rows size n (l.drop size)
theorem flat_get {size : Nat} : ∀ (xs : List (List Value)), (∀ r ∈ xs, r.length = size) → ∀ i r, xs[i]? = some r → ∀ f u, r[f]? = some u → xs.flatten[i * size + f]? = some u
  | [], _, i, r, h, _, _, _ => by simp at h
  | x :: xs, hx, i, r, h, f, u, hu => by
    have hl : x.length = size := hx x (by simp)
    cases i with
    | zero =>
      simp only [List.getElem?_cons_zero, Option.some.injEq] at h
      subst h
      have hf : f < x.length := (List.getElem?_eq_some_iff.1 hu).1
      rw [List.flatten_cons, Nat.zero_mul, Nat.zero_add, List.getElem?_append_left hf]
      exact hu
    | succ i =>
      have := flat_get xs (fun r hr => hx r (List.mem_cons_of_mem _ hr)) i r (by simpa using h) f u hu
      rw [List.flatten_cons, List.getElem?_append_right (by rw [hl, Nat.succ_mul]; omega), hl]
      rw [show (i + 1) * size + f - size = i * size + f by rw [Nat.succ_mul]; omega]
      exact this
theorem flat_length {size : Nat} : ∀ (xs : List (List Value)), (∀ r ∈ xs, r.length = size) → xs.flatten.length = xs.length * size
  | [], _ => by simp
  | x :: xs, hx => by
    rw [List.flatten_cons, List.length_append, flat_length xs (fun r hr => hx r (List.mem_cons_of_mem _ hr)), hx x (by simp), List.length_cons, Nat.succ_mul]; omega
/-- a row of the call's own is such a slice -/
theorem Sl.of_own {w : World} {base : Nat} {e : TypeId} {size : Nat} {v : Value} {xs : List (List Value)} (hr : ∀ r ∈ xs, r.length = size) (h : w.ownsRow base e size v xs.length xs.flatten) :
    ∃ A c, v = .slice A xs.length c ∧ Sl (fun b => v.ownBlock = some b) w A size xs := by
  rcases h.2 with ⟨rfl, hn⟩ | ⟨g, cap, cur, rfl, hb, hg, hnc, hcm, hcs, htk⟩
  · have : xs = [] := List.length_eq_zero_iff.1 hn
    subst this
    exact ⟨none, 0, rfl, Sl.nil _ _ _ _⟩
  · refine ⟨some ⟨g, 0, none⟩, cap, rfl, ?_, hr, fun _ => ⟨g, 0, rfl, rfl, heap_lt hg, fun i r h1 f u hu => ?_⟩⟩
    · unfold maxLen at hcm; omega
    · have hf := flat_get xs hr i r h1 f u hu
      rw [cell_of_row w g _ cur e (0, 0) hg, Nat.zero_add]
      rw [← htk] at hf
      rw [List.getElem?_take] at hf
      split at hf
      · simpa using hf
      · cases hf
/-- a cell of a known block is set -/
theorem heap_set {w : World} {g : Nat} {cs : Array Value} {t : TypeId} {fr : Nat × Nat} (h : w.heap[g]? = some (.cells cs t fr)) (off : Nat) (v : Value) :
    (w.setCell ⟨g, off, none⟩ v).heap[g]? = some (.cells (cs.setIfInBounds off v) t fr) := by
  unfold World.setCell
  simp only [Array.getElem?_modify, if_true, h]
  rfl
theorem heap_set_far {w : World} {g : Nat} {x : Obj} (h : w.heap[g]? = some x) {p : Addr} (hp : g ≠ p.block) (v : Value) : (w.setCell p v).heap[g]? = some x := by
  rw [Below.heap_setCell w p v g hp, h]
theorem size_set (w : World) (p : Addr) (v : Value) : (w.setCell p v).heap.size = w.heap.size := by simp [World.setCell]
theorem size_al (w : World) (o : Obj) : (w.alloc o).heap.size = w.heap.size + 1 := by
  show (w.heap.push o).size = _
  simp
theorem frozen_row {w : World} {g : Nat} {cs : Array Value} {t : TypeId} (h : w.heap[g]? = some (.cells cs t)) (off : Nat) : w.frozen? ⟨g, off, none⟩ = false := by
  simp [World.frozen?, h]
theorem cell_two {w : World} {g : Nat} {a b : Value} {t : TypeId} (h : w.heap[g]? = some (.cells #[a, b] t)) : w.cell? ⟨g, 0, none⟩ = some a ∧ w.cell? ⟨g, 1, none⟩ = some b :=
  ⟨cell_of_row w g 0 _ t (0, 0) h, cell_of_row w g 1 _ t (0, 0) h⟩
/-! ### slices of the call's own, as rows -/
/-- v holds the rows xs, in a block of its own that begins at 'base' or behind; it may be written -/
def Own (w : World) (base : Nat) (e : TypeId) (size : Nat) (xs : List (List Value)) (v : Value) : Prop :=
  w.ownsRow base e size v xs.length xs.flatten ∧ ∀ r ∈ xs, r.length = size
theorem Own.nil (w : World) (base : Nat) (e : TypeId) (size : Nat) : Own w base e size [] (.slice none 0 0) := ⟨World.ownsRow_nil _ _ _ _, by simp⟩
theorem Own.grown {w w' : World} {base : Nat} {e : TypeId} {size : Nat} {xs : List (List Value)} {v : Value} {row : Option Nat} (h : Own w base e size xs v) (hg : w.grownBy w' row) (hne : v.ownBlock = none ∨ v.ownBlock ≠ row) : Own w' base e size xs v :=
  ⟨h.1.kept hg hne, h.2⟩
theorem Own.alloc {w : World} {base : Nat} {e : TypeId} {size : Nat} {xs : List (List Value)} {v : Value} (h : Own w base e size xs v) (o : Obj) : Own (w.alloc o) base e size xs v := ⟨h.1.alloc o, h.2⟩
theorem Own.drawn {w w' : World} {base : Nat} {e : TypeId} {size : Nat} {xs : List (List Value)} {v : Value} (h : Own w base e size xs v) (d : Drawn w w') : Own w' base e size xs v := by
  obtain ⟨n, rfl⟩ := d; exact h
theorem Own.mono {w : World} {base base' : Nat} {e : TypeId} {size : Nat} {xs : List (List Value)} {v : Value} (h : Own w base e size xs v) (hb : base' ≤ base) : Own w base' e size xs v := by
  refine ⟨⟨h.1.1, ?_⟩, h.2⟩
  rcases h.1.2 with hn | ⟨g, cap, cur, hv, hg, rest⟩
  · exact .inl hn
  · exact .inr ⟨g, cap, cur, hv, Nat.le_trans hb hg, rest⟩
/-- what lies elsewhere may turn -/
theorem Own.keep {w w' : World} {base : Nat} {e : TypeId} {size : Nat} {xs : List (List Value)} {v : Value} (h : Own w base e size xs v) (hk : ∀ g, v.ownBlock = some g → w'.heap[g]? = w.heap[g]?) : Own w' base e size xs v := by
  refine ⟨⟨h.1.1, ?_⟩, h.2⟩
  rcases h.1.2 with hn | ⟨g, cap, cur, rfl, hb, hg, rest⟩
  · exact .inl hn
  · exact .inr ⟨g, cap, cur, rfl, hb, by rw [hk g rfl]; exact hg, rest⟩
theorem Own.below {w w' : World} {base : Nat} {e : TypeId} {size : Nat} {xs : List (List Value)} {v : Value} (h : Own w base e size xs v) (d : Below w.heap.size w w') : Own w' base e size xs v :=
  h.keep fun g hg => d.block g (h.1.lt g hg).2
theorem Own.lt {w : World} {base : Nat} {e : TypeId} {size : Nat} {xs : List (List Value)} {v : Value} (h : Own w base e size xs v) : ∀ k, v.ownBlock = some k → base ≤ k ∧ k < w.heap.size := h.1.lt
theorem Own.sl {w : World} {base : Nat} {e : TypeId} {size : Nat} {xs : List (List Value)} {v : Value} (h : Own w base e size xs v) :
    ∃ A c, v = .slice A xs.length c ∧ Sl (fun b => v.ownBlock = some b) w A size xs := Sl.of_own h.2 h.1
/-- its form, where something is in it -/
theorem Own.form {w : World} {base : Nat} {e : TypeId} {size : Nat} {xs : List (List Value)} {v : Value} (h : Own w base e size xs v) (hn : 0 < xs.length) :
    ∃ g cap, v = .slice (some ⟨g, 0, none⟩) xs.length cap ∧ base ≤ g ∧ g < w.heap.size ∧ xs.length ≤ cap := by
  rcases h.1.2 with ⟨_, h0⟩ | ⟨g, cap, cur, rfl, hb, hg, hc, _⟩
  · omega
  · exact ⟨g, cap, rfl, hb, heap_lt hg, hc⟩
theorem Own.cell {w : World} {base : Nat} {e : TypeId} {size : Nat} {xs : List (List Value)} {g cap : Nat} (h : Own w base e size xs (.slice (some ⟨g, 0, none⟩) xs.length cap)) {k : Nat} (hk : k < xs.length) {f : Nat} {u : Value} (hu : xs[k][f]? = some u) :
    w.cell? ⟨g, k * size + f, none⟩ = some u ∧ w.frozen? ⟨g, k * size + f, none⟩ = false := by
  have hf := flat_get xs h.2 k _ (List.getElem?_eq_getElem hk) f u hu
  have hfs : f < size := by rw [← h.2 _ (List.getElem_mem hk)]; exact (List.getElem?_eq_some_iff.1 hu).1
  refine ⟨?_, h.1.frozenAt _⟩
  rw [h.1.cellAt _ ?_, hf]
  calc k * size + f < k * size + size := by omega
    _ = (k + 1) * size := by rw [Nat.succ_mul]
    _ ≤ xs.length * size := Nat.mul_le_mul_right _ hk
theorem flat_set {size : Nat} : ∀ (xs : List (List Value)), (∀ r ∈ xs, r.length = size) → ∀ k (hk : k < xs.length) f, f < size → ∀ u, xs.flatten.set (k * size + f) u = (xs.set k (xs[k].set f u)).flatten
  | [], _, k, hk, _, _, _ => by simp at hk
  | x :: xs, hx, k, hk, f, hf, u => by
    have hl : x.length = size := hx x (by simp)
    cases k with
    | zero =>
      simp only [Nat.zero_mul, Nat.zero_add, List.flatten_cons, List.set_cons_zero, List.getElem_cons_zero]
      rw [List.set_append, if_pos (by omega)]
    | succ k =>
      have := flat_set xs (fun r hr => hx r (List.mem_cons_of_mem _ hr)) k (by simpa using hk) f hf u
      simp only [List.flatten_cons, List.set_cons_succ, List.getElem_cons_succ]
      rw [List.set_append, if_neg (by rw [Nat.succ_mul]; omega), hl, show (k + 1) * size + f - size = k * size + f by rw [Nat.succ_mul]; omega, this]
/-- a cell of it is written -/
theorem Own.set {w : World} {base : Nat} {e : TypeId} {size : Nat} {xs : List (List Value)} {g cap : Nat} (h : Own w base e size xs (.slice (some ⟨g, 0, none⟩) xs.length cap)) {k : Nat} (hk : k < xs.length) {f : Nat} (hf : f < size) (u : Value) :
    Own (w.setCell ⟨g, k * size + f, none⟩ u) base e size (xs.set k (xs[k].set f u)) (.slice (some ⟨g, 0, none⟩) xs.length cap) := by
  refine ⟨?_, fun r hr => ?_⟩
  · have := (h.1.stored (k * size + f) u).1
    rw [flat_set xs h.2 k hk f hf u] at this
    rw [List.length_set]
    exact this
  · rcases List.mem_or_eq_of_mem_set hr with h' | rfl
    · exact h.2 r h'
    · rw [List.length_set]; exact h.2 _ (List.getElem_mem hk)

/-- a slice type and its element's row of the table -/
structure Elt (P : Program) (t e : TypeId) (size bytes : Nat) : Prop where
  u : P.underlying t = some (.slice e)
  i : ∃ i z, P.info? e = some i ∧ i.zero = some z ∧ i.size = size ∧ i.bytes = bytes ∧ z.cells.size = size
  pos : 0 < size
  bpos : 0 < bytes
theorem Elt.of {P : Program} {t e : TypeId} {z : Value} {size bytes : Nat} (u : P.underlying t = some (.slice e)) (h : (P.info? e).map (fun i => (i.zero, i.size, i.bytes)) = some (some z, size, bytes)) (hz : z.cells.size = size) (pos : 0 < size) (bpos : 0 < bytes) : Elt P t e size bytes := by
  obtain ⟨i0, hi, hz0, hz1, hz2⟩ := info_parts h
  exact ⟨u, ⟨i0, z, hi, hz0, hz1, hz2, hz⟩, pos, bpos⟩

theorem addr_add (b off j : Nat) : (⟨b, off, none⟩ : Addr).add j = ⟨b, off + j, none⟩ := by unfold Addr.add; split <;> simp_all
/-- 'append(v, x...)', x a slice that is there: m rows -/
theorem wpList_app {P : Program} {w : World} {ops : Array Oper} {rest : List Oper} {o : Oper} {a : Act} {Q : Exit → Act → World → Prop} {t e : TypeId} {size bytes : Nat} (el : Elt P t e size bytes) (hgd : o.guard = none) (s x : Operand)
    (ho : o.op = .call { callee := .builtin .append, args := #[s, x], argTypes := #[t, t] }) {base : Nat} {v : Value} {xs ys : List (List Value)} (hs : a.eval s = v) (hown : Own w base e size xs v)
    (b off c m : Nat) (hm : m = ys.length) (hx : a.eval x = .slice (some ⟨b, off, none⟩) m c) (hys : ∀ r ∈ ys, r.length = size) (hc : ∀ i r, ys[i]? = some r → ∀ f u, r[f]? = some u → w.cell? ⟨b, off + i * size + f, none⟩ = some u)
    (h1 : ∀ r ∈ ys, ∀ u ∈ r, u.oneCell' = true) (hbytes : (xs.length + ys.length) * bytes ≤ 140737488355328) (hbase : base ≤ w.heap.size)
    (h : ∀ v' w', Own w' base e size (xs ++ ys) v' → w.grownBy w' v.ownBlock → (v' = .slice none 0 0 ↔ v = .slice none 0 0 ∧ ys.length = 0) → wpList P ops Q rest (a.put o.dst v') w') :
    wpList P ops Q (o :: rest) a w := by
  subst hm
  obtain ⟨i0, z, hi, hz0, hz1, hz2, hz⟩ := el.i
  refine wpList_append_own w hgd s x t ho base e i0 z size bytes el.u hi hz0 hz1 hz2 hz el.pos v xs.length xs.flatten hs hown.1 ⟨b, off, none⟩ ys.length c ys.flatten hx (flat_length ys hys) (fun j u hj => ?_) (fun u hu => ?_) ?_ hbytes hbase (fun v' w' ho' hg hn => ?_)
  · have hlt : j < ys.flatten.length := (List.getElem?_eq_some_iff.1 hj).1
    rw [flat_length ys hys] at hlt
    have hp := el.pos
    have hq : j / size < ys.length := Nat.div_lt_of_lt_mul (by rw [Nat.mul_comm]; exact hlt)
    have hmod : j % size < size := Nat.mod_lt _ hp
    have hd : j = (j / size) * size + j % size := by rw [Nat.mul_comm]; exact (Nat.div_add_mod j size).symm
    have hr := hys _ (List.getElem_mem hq)
    have hu' : ys[j / size][j % size]? = some (ys[j / size][j % size]'(by rw [hr]; exact hmod)) := List.getElem?_eq_getElem _
    have hg := flat_get ys hys _ _ (List.getElem?_eq_getElem hq) _ _ hu'
    rw [← hd, hj] at hg
    have := hc _ _ (List.getElem?_eq_getElem hq) _ _ hu'
    rw [← Option.some.inj hg] at this
    rw [addr_add]
    rw [show off + (j / size) * size + j % size = off + j by omega] at this
    exact this
  · obtain ⟨r, hr, hur⟩ := List.mem_flatten.1 hu
    exact h1 r hr u hur
  · have : xs.length + ys.length ≤ (xs.length + ys.length) * bytes := Nat.le_mul_of_pos_right _ el.bpos
    unfold maxLen; omega
  · refine h v' w' ⟨?_, fun r hr => ?_⟩ hg hn
    · rw [List.length_append, List.flatten_append]; exact ho'
    · rcases List.mem_append.1 hr with h' | h'
      · exact hown.2 r h'
      · exact hys r h'
/-- 'append(v, x)': one row, in a block that has just been laid -/
theorem wpList_push {P : Program} {w : World} {ops : Array Oper} {rest : List Oper} {o : Oper} {a : Act} {Q : Exit → Act → World → Prop} {t e : TypeId} {size bytes : Nat} (el : Elt P t e size bytes) (hgd : o.guard = none) (s x : Operand)
    (ho : o.op = .call { callee := .builtin .append, args := #[s, x], argTypes := #[t, t] }) {base : Nat} {v : Value} {xs : List (List Value)} (hs : a.eval s = v) (hown : Own w base e size xs v)
    (row : List Value) (g0 : Nat) (T : TypeId) (hx : a.eval x = .slice (some ⟨g0, 0, none⟩) 1 1) (hg0 : w.heap[g0]? = some (.cells row.toArray T)) (hl : row.length = size)
    (h1 : ∀ u ∈ row, u.oneCell' = true) (hbytes : (xs.length + 1) * bytes ≤ 140737488355328) (hbase : base ≤ w.heap.size)
    (h : ∀ v' w', Own w' base e size (xs ++ [row]) v' → Below base w w' → w.heap.size ≤ w'.heap.size → (v' = .slice none 0 0 → False) → w.grownBy w' v.ownBlock → wpList P ops Q rest (a.put o.dst v') w') :
    wpList P ops Q (o :: rest) a w := by
  refine wpList_app el hgd s x ho hs hown g0 0 1 1 (ys := [row]) rfl hx (by simpa using hl) (fun i r hr f u hu => ?_) (by simpa using h1) hbytes hbase (fun v' w' ho' hg hn => ?_)
  · cases i with
    | zero =>
      simp only [List.getElem?_cons_zero, Option.some.injEq] at hr
      subst hr
      simp only [Nat.zero_mul, Nat.zero_add]
      rw [cell_of_row w g0 f _ T (0, 0) hg0]
      simpa using hu
    | succ i => simp at hr
  · refine h v' w' ho' ((Below.refl _ _).grown hg hbase (fun k hk => (hown.lt k hk).1)) hg.size (fun e => ?_) hg
    have := hn.1 e
    simp at this
end Go.Proofs.Ytgnhddnhcfmipaa
