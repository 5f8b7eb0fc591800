/- An array of small numbers of the call's own, turned in place. Plain: no program here. -/
import Derived.Test.YtgpapbpkcggolaaDoorMem3
import Derived.Sort.LotD3
import Derived.Sort.LotA
import Derived.Sort.LotB
import Derived.Sort.LotC
namespace Go.Proofs.YtgpapbpkcggolaaDoor
open Go.RowKit

/-! ### what is left as it was below H but for S -/
structure Fr (H : Nat) (S : Nat → Prop) (w w' : World) : Prop where
  g : Below 0 w w'
  k : ∀ b, b < H → ¬ S b → w'.heap[b]? = w.heap[b]?
theorem Fr.refl (H : Nat) (S : Nat → Prop) (w : World) : Fr H S w w := ⟨Below.refl _ _, fun _ _ _ => rfl⟩
theorem Fr.trans {H : Nat} {S : Nat → Prop} {a b c : World} (h : Fr H S a b) (k : Fr H S b c) : Fr H S a c := ⟨h.g.trans k.g, fun x h1 h2 => (k.k x h1 h2).trans (h.k x h1 h2)⟩
theorem Fr.of {H : Nat} {S : Nat → Prop} {w w' : World} (h : Below H w w') : Fr H S w w' := ⟨h.mono (Nat.zero_le _), fun b hb _ => h.block b hb⟩
theorem Fr.mono {H H' : Nat} {S S' : Nat → Prop} {w w' : World} (h : Fr H S w w') (hH : H' ≤ H) (hS : ∀ b, b < H' → S b → S' b) : Fr H' S' w w' := ⟨h.g, fun b hb hn => h.k b (by omega) (fun q => hn (hS b hb q))⟩
theorem Fr.set {H : Nat} {S : Nat → Prop} {w w' : World} (h : Fr H S w w') {p : Addr} (hp : p.block < H → S p.block) (v : Value) : Fr H S w (w'.setCell p v) :=
  ⟨h.g.setCell (Nat.zero_le _) v, fun b hb hn => by
    rw [Below.heap_setCell w' p v b (fun e => hn (by rw [e] at hb ⊢; exact hp hb))]
    exact h.k b hb hn⟩
theorem Fr.drewN {H : Nat} {S : Nat → Prop} {w w' : World} (h : Fr H S w w') (n : Nat) : Fr H S w (w'.drewN n) := ⟨below_drewN' h.g n, h.k⟩
theorem Fr.drawn {H : Nat} {S : Nat → Prop} {w w' w'' : World} (h : Fr H S w w') (d : Drawn w' w'') : Fr H S w w'' := ⟨d.after h.g, fun b hb hn => by rw [d.heap]; exact h.k b hb hn⟩
theorem Fr.size {H : Nat} {S : Nat → Prop} {w w' : World} (h : Fr H S w w') : w.heap.size ≤ w'.heap.size := h.g.size
theorem Fr.below {H B : Nat} {S : Nat → Prop} {w w' : World} (h : Fr H S w w') (hH : B ≤ H) (hS : ∀ b, S b → B ≤ b) : Below B w w' :=
  ⟨h.g.os, h.g.tape, h.g.output, h.g.size, fun b hb => h.k b (by omega) (fun q => by have := hS b q; omega)⟩
theorem Own.cells {w : World} {base : Nat} {e : TypeId} {size g n c : Nat} {rs : List (List Value)} (h : Own w base e size rs (.slice (some ⟨g, 0, none⟩) n c)) (hn : rs.length = n) {k : Nat} (hk : k < n) {r : List Value} (hr : rs[k]? = some r) {f : Nat} {u : Value} (hu : r[f]? = some u) :
    w.cell? ⟨g, k * size + f, none⟩ = some u ∧ w.frozen? ⟨g, k * size + f, none⟩ = false := by
  subst hn
  have e1 : rs[k] = r := by rw [List.getElem?_eq_getElem hk] at hr; exact Option.some.inj hr
  exact h.cell hk (by rw [e1]; exact hu)
theorem Own.cell1 {w : World} {base : Nat} {e : TypeId} {g n c : Nat} {α : Type} {row : α → List Value} {val : α → Value} (hrow : ∀ x, row x = [val x]) {l : List α} (h : Own w base e 1 (l.map row) (.slice (some ⟨g, 0, none⟩) n c)) (hn : l.length = n) {k : Nat} (hk : k < l.length) :
    w.cell? ⟨g, k, none⟩ = some (val l[k]) ∧ w.frozen? ⟨g, k, none⟩ = false := by
  have := h.cells (by rw [List.length_map]; exact hn) (k := k) (by omega) (r := row l[k]) (by rw [List.getElem?_map, List.getElem?_eq_getElem hk]; rfl) (f := 0) (u := val l[k]) (by rw [hrow]; rfl)
  rwa [Nat.mul_one, Nat.add_zero] at this
theorem Own.put1 {w : World} {base : Nat} {e : TypeId} {g n c : Nat} {α : Type} {row : α → List Value} {val : α → Value} (hrow : ∀ x, row x = [val x]) {l : List α} (h : Own w base e 1 (l.map row) (.slice (some ⟨g, 0, none⟩) n c)) (hn : l.length = n) {k : Nat} (hk : k < n) (x : α) :
    Own (w.setCell ⟨g, k, none⟩ (val x)) base e 1 ((l.set k x).map row) (.slice (some ⟨g, 0, none⟩) n c) := by
  obtain ⟨g', u0, e1, -, -, -, -, -, h2⟩ := h.row1 (by rw [List.length_map]; exact hn) hk
  cases e1
  have := h2 (val x)
  rwa [List.map_set, hrow x]
/-- a row of one small number -/
def brow (x : Int) : List Value := [.int .i8 x]
/-- the block g holds the array d, and all else that was in w0 is as it was -/
structure Ar (w0 w : World) (e : TypeId) (g n c : Nat) (d : Array Int) : Prop where
  sz : d.size = n
  o : Own w g e 1 (d.toList.map brow) (.slice (some ⟨g, 0, none⟩) n c)
  f : Fr w0.heap.size (fun b => b = g) w0 w
section
variable {w0 w w' : World} {e : TypeId} {g n c : Nat} {d : Array Int}
theorem Ar.len (h : Ar w0 w e g n c d) : d.toList.length = n := by rw [Array.length_toList]; exact h.sz
theorem Ar.cell (h : Ar w0 w e g n c d) {k : Nat} (hk : k < n) : w.cell? ⟨g, k, none⟩ = some (.int .i8 d[k]!) ∧ w.frozen? ⟨g, k, none⟩ = false := by
  have hd : k < d.size := by rw [h.sz]; exact hk
  have h1 := h.o.cell1 (val := fun x => .int .i8 x) (fun _ => rfl) h.len (k := k) (by rw [h.len]; exact hk)
  rw [getElem!_pos d k hd]
  simpa using h1
theorem Ar.keep (h : Ar w0 w e g n c d) (f : Fr w0.heap.size (fun b => b = g) w w') (hg : w'.heap[g]? = w.heap[g]?) : Ar w0 w' e g n c d :=
  ⟨h.sz, h.o.keep (fun k hk => by cases hk; exact hg), h.f.trans f⟩
theorem Ar.lt (h : Ar w0 w e g n c d) : g < w.heap.size := (h.o.lt g rfl).2
theorem Ar.below (h : Ar w0 w e g n c d) (b : Below w.heap.size w w') : Ar w0 w' e g n c d :=
  h.keep (Fr.of (b.mono h.f.size)) (b.block g h.lt)
theorem Ar.drawn (h : Ar w0 w e g n c d) (b : Drawn w w') : Ar w0 w' e g n c d := h.below (b.below _)
theorem Ar.drewN (h : Ar w0 w e g n c d) (m : Nat) : Ar w0 (w.drewN m) e g n c d := h.drawn ⟨m, rfl⟩
theorem Ar.set (h : Ar w0 w e g n c d) {k : Nat} (hk : k < n) (x : Int) : Ar w0 (w.setCell ⟨g, k, none⟩ (.int .i8 x)) e g n c (d.setIfInBounds k x) :=
  ⟨by rw [Array.size_setIfInBounds]; exact h.sz, by
    have := h.o.put1 (val := fun x => .int .i8 x) (fun _ => rfl) h.len hk x
    rwa [Array.toList_setIfInBounds], h.f.set (fun _ => rfl) _⟩
theorem Ar.swp (h : Ar w0 w e g n c d) {i j : Nat} (hi : i < n) (hj : j < n) :
    Ar w0 ((w.setCell ⟨g, i, none⟩ (.int .i8 d[j]!)).setCell ⟨g, j, none⟩ (.int .i8 d[i]!)) e g n c (Sort.swp d i j) := (h.set hi _).set hj _
theorem Ar.swpD (h : Ar w0 w e g n c d) {i j : Nat} (hi : i < n) (hj : j < n) :
    Ar w0 ((w.setCell ⟨g, i, none⟩ (.int .i8 d[j]!)).setCell ⟨g, j, none⟩ (.int .i8 d[i]!)).drew e g n c (Sort.swp d i j) := (h.swp hi hj).drewN 1
end
end Go.Proofs.YtgpapbpkcggolaaDoor
