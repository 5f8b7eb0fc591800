/- Sensor: cards in memory of their own: what stays, what may be written. -/
import Derived.Test.YtgpapbpkcggolaaCds3
namespace Go.Proofs.Ytgpapbpkcggolaa
open Go.RowKit Go.BigFrame

structure Fr (H : Nat) (S : Nat → Prop) (w w' : World) : Prop where
  g : Below 0 w w'
  k : ∀ b, b < H → ¬ S b → w'.heap[b]? = w.heap[b]?
theorem Fr.refl (H : Nat) (S : Nat → Prop) (w : World) : Fr H S w w := ⟨Below.refl _ _, fun _ _ _ => rfl⟩
theorem Fr.trans {H : Nat} {S : Nat → Prop} {a b c : World} (h : Fr H S a b) (k : Fr H S b c) : Fr H S a c := ⟨h.g.trans k.g, fun x h1 h2 => (k.k x h1 h2).trans (h.k x h1 h2)⟩
theorem Fr.of {H : Nat} {S : Nat → Prop} {w w' : World} (h : Below H w w') : Fr H S w w' := ⟨h.mono (Nat.zero_le _), fun b hb _ => h.block b hb⟩
theorem Fr.mono {H H' : Nat} {S S' : Nat → Prop} {w w' : World} (h : Fr H S w w') (hH : H' ≤ H) (hS : ∀ b, b < H' → S b → S' b) : Fr H' S' w w' := ⟨h.g, fun b hb hn => h.k b (by omega) (fun q => hn (hS b hb q))⟩
theorem Fr.set {H : Nat} {S : Nat → Prop} {w w' : World} (h : Fr H S w w') {p : Addr} (hp : p.block < H → S p.block) (v : Value) : Fr H S w (w'.setCell p v) :=
  ⟨h.g.setCell (Nat.zero_le _) v, fun b hb hn => by
    rw [Below.heap_setCell w' p v b (fun e => hn (by rw [e] at hb ⊢; exact hp hb))]
    exact h.k b hb hn⟩
theorem Fr.grown {H : Nat} {S : Nat → Prop} {w w' w'' : World} {row : Option Nat} (h : Fr H S w w') (g : w'.grownBy w'' row) (hr : ∀ j, row = some j → j < H → S j) (hH : H ≤ w'.heap.size) : Fr H S w w'' :=
  ⟨h.g.trans ⟨g.os, g.tape, g.output, g.size, fun i hi => by omega⟩, fun b hb hn => by
    rw [g.block b (by omega) (fun e => hn (hr b e.symm hb))]
    exact h.k b hb hn⟩
theorem Fr.alloc {H : Nat} {S : Nat → Prop} {w w' : World} (h : Fr H S w w') (hH : H ≤ w'.heap.size) (o : Obj) : Fr H S w (w'.alloc o) :=
  ⟨h.g.alloc (Nat.zero_le _) o, fun b hb hn => by
    rw [Below.heap_alloc w' o b (by omega)]
    exact h.k b hb hn⟩
theorem Fr.below {H B : Nat} {S : Nat → Prop} {w w' : World} (h : Fr H S w w') (hH : B ≤ H) (hS : ∀ b, S b → B ≤ b) : Below B w w' :=
  ⟨h.g.os, h.g.tape, h.g.output, h.g.size, fun b hb => h.k b (by omega) (fun q => by have := hS b q; omega)⟩

theorem Mk.at_ {w : World} {B g : Nat} {bl : List Nat} {l : List Cd} (h : Mk w B g bl l) {k : Nat} (hk : k < l.length) : ∃ b, bl[k]? = some b ∧ B ≤ b ∧ b < g ∧ w.heap[b]? = some (Obj.cells (tx l[k].cs) 9) := by
  have hb : k < bl.length := by rw [h.len]; exact hk
  refine ⟨bl[k], List.getElem?_eq_getElem hb, (h.lt _ (List.getElem_mem hb)).1, (h.lt _ (List.getElem_mem hb)).2, h.txt k _ _ (List.getElem?_eq_getElem hb) (List.getElem?_eq_getElem hk)⟩
/-- a's cards, from k on as they were -/
def As (w : World) (B g : Nat) (bl : List Nat) (l : List Cd) (k : Nat) : Prop :=
  ∃ rs : List (List Value), rs.length = l.length ∧ Own w B 29 7 rs (.slice (some ⟨g, 0, none⟩) l.length l.length) ∧ ∀ (j b : Nat) (c : Cd), k ≤ j → bl[j]? = some b → l[j]? = some c → rs[j]? = some (arow c b) ∧ w.heap[b]? = some (Obj.cells (tx c.cs) 9)
theorem Mk.as {w : World} {B g : Nat} {bl : List Nat} {l : List Cd} (h : Mk w B g bl l) : As w B g bl l 0 :=
  ⟨_, by rw [List.length_zipWith, h.len, Nat.min_self], h.own, fun j b c _ hb hc => ⟨by rw [List.getElem?_zipWith, hb, hc], h.txt j b c hb hc⟩⟩
theorem txts_of {w : World} {b : Nat} {l : List ByteArray} (h : w.heap[b]? = some (Obj.cells (tx l) 9)) (hl : l.length ≤ 9223372036854775807) : Txts w (some ⟨b, 0, none⟩) l := by
  refine ⟨by simpa using hl, fun r hr => ?_, fun _ => ⟨b, 0, rfl, trivial, heap_lt h, fun i r hr f u hu => ?_⟩⟩
  · obtain ⟨s, _, rfl⟩ := List.mem_map.1 hr; rfl
  · rw [List.getElem?_map] at hr
    cases hs : l[i]? with
    | none => rw [hs] at hr; cases hr
    | some s =>
      rw [hs] at hr
      obtain rfl : srow s = r := by simpa using hr
      have hf : f = 0 := by
        cases f with
        | zero => rfl
        | succ f => simp [srow] at hu
      subst hf
      obtain rfl : Value.string s = u := by simpa [srow] using hu
      rw [cell_of_row w b _ _ 9 (0, 0) h]
      simp [tx, hs]
theorem As.cds {w : World} {B g : Nat} {bl : List Nat} {l : List Cd} {k : Nat} (h : As w B g bl l k) (hbl : bl.length = l.length) (hs : ∀ c ∈ l, c.cs.length ≤ 9223372036854775807) (hl : l.length ≤ 9223372036854775807) (hg : g < w.heap.size) :
    Cds w (some ⟨g, k * 7, none⟩) (l.drop k) := by
  obtain ⟨rs, hr, ho, hj⟩ := h
  refine ⟨by rw [List.length_drop]; omega, fun j hjl => ?_⟩
  have hjl' : k + j < l.length := by rw [List.length_drop] at hjl; omega
  have e : (l.drop k)[j] = l[k + j] := List.getElem_drop ..
  obtain ⟨h1, h2⟩ := hj (k + j) (bl[k + j]'(by omega)) l[k + j] (by omega) (List.getElem?_eq_getElem _) (List.getElem?_eq_getElem hjl')
  rw [e]
  refine ⟨g, k * 7, some ⟨bl[k + j]'(by omega), 0, none⟩, l[k + j].cs.length, rfl, hg, fun f u hu => ?_, txts_of h2 (hs _ (List.getElem_mem _))⟩
  rw [← hr] at ho
  have hk : k + j < rs.length := by omega
  have h3 : rs[k + j] = arow l[k + j] (bl[k + j]'(by omega)) := by
    rw [List.getElem?_eq_getElem hk] at h1
    exact Option.some.inj h1
  have := (ho.cell hk (f := f) (u := u) (by rw [h3]; exact hu)).1
  rw [show k * 7 + j * 7 + f = (k + j) * 7 + f by omega]
  exact this
theorem Mk.cds {w : World} {B g : Nat} {bl : List Nat} {l : List Cd} (h : Mk w B g bl l) (hs : ∀ c ∈ l, c.cs.length ≤ 9223372036854775807) (hl : l.length ≤ 9223372036854775807) (hg : g < w.heap.size) : Cds w (some ⟨g, 0, none⟩) l := by
  have := h.as.cds h.len hs hl hg
  rwa [Nat.zero_mul, List.drop_zero] at this
theorem Mk.keep {w w' : World} {B g : Nat} {bl : List Nat} {l : List Cd} (h : Mk w B g bl l) (hk : ∀ x, x = g ∨ x ∈ bl → w'.heap[x]? = w.heap[x]?) : Mk w' B g bl l :=
  ⟨h.len, h.lt, h.dis, h.own.keep fun x hx => hk x (.inl (by cases hx; rfl)), fun k b c hb hc => by rw [hk b (.inr (List.mem_of_getElem? hb))]; exact h.txt k b c hb hc⟩
theorem Mk.below {w w' : World} {B g : Nat} {bl : List Nat} {l : List Cd} (h : Mk w B g bl l) (hg : g < w.heap.size) (d : Below w.heap.size w w') : Mk w' B g bl l :=
  h.keep fun x hx => d.block x (by
    rcases hx with rfl | hx
    · exact hg
    · have := (h.lt x hx).2; omega)
theorem As.keep {w w' : World} {B g : Nat} {bl : List Nat} {l : List Cd} {k : Nat} (h : As w B g bl l k) (hk : ∀ x, x = g ∨ (∃ j, k ≤ j ∧ bl[j]? = some x) → w'.heap[x]? = w.heap[x]?) : As w' B g bl l k := by
  obtain ⟨rs, hr, ho, hj⟩ := h
  exact ⟨rs, hr, ho.keep fun x hx => hk x (.inl (by cases hx; rfl)), fun j b c h1 hb hc => ⟨(hj j b c h1 hb hc).1, by rw [hk b (.inr ⟨j, h1, hb⟩)]; exact (hj j b c h1 hb hc).2⟩⟩
/-- a cell of card k is written -/
theorem As.set {w : World} {B g : Nat} {bl : List Nat} {l : List Cd} {k m : Nat} (h : As w B g bl l (k + 1)) (hk : k < l.length) (hne : ∀ b ∈ bl, b ≠ g) {f : Nat} (hf : f < 7) (hm : m = k * 7 + f) (u : Value) : As (w.setCell ⟨g, m, none⟩ u) B g bl l (k + 1) := by
  subst hm
  obtain ⟨rs, hr, ho, hj⟩ := h
  have ho' := ho
  rw [← hr] at ho
  have h1 := ho.set (k := k) (by omega) hf u
  have h2 : ∀ n, rs.length = n → Own (w.setCell ⟨g, k * 7 + f, none⟩ u) B 29 7 (rs.set k ((rs[k]'(by omega)).set f u)) (.slice (some ⟨g, 0, none⟩) n n) := fun n hn => by subst hn; exact h1
  refine ⟨_, by rw [List.length_set]; exact hr, h2 _ hr, fun j b c hjk hb hc => ⟨?_, ?_⟩⟩
  · rw [List.getElem?_set_ne (by omega)]
    exact (hj j b c hjk hb hc).1
  · rw [Below.heap_setCell w _ _ b (hne b (List.mem_of_getElem? hb))]
    exact (hj j b c hjk hb hc).2
theorem As.next {w : World} {B g : Nat} {bl : List Nat} {l : List Cd} {k : Nat} (h : As w B g bl l k) : As w B g bl l (k + 1) := by
  obtain ⟨rs, hr, ho, hj⟩ := h
  exact ⟨rs, hr, ho, fun j b c h1 => hj j b c (by omega)⟩
/-- a block of texts, as rows of its own -/
theorem own_block {w : World} {B b : Nat} {cs : Array Value} (h : w.heap[b]? = some (Obj.cells cs 9)) (hb : B ≤ b) (hm : cs.size ≤ maxLen) : Own w B 9 1 (cs.toList.map fun v => [v]) (.slice (some ⟨b, 0, none⟩) cs.size cs.size) := by
  have e : (cs.toList.map fun v => [v]).flatten = cs.toList := by
    induction cs.toList with
    | nil => rfl
    | cons x l ih => simp [ih]
  have hl : (cs.toList.map fun v => [v]).length = cs.size := by simp
  refine ⟨?_, fun r hr => by obtain ⟨v, _, rfl⟩ := List.mem_map.1 hr; rfl⟩
  rw [hl]
  refine ⟨?_, .inr ⟨b, cs.size, cs, rfl, hb, h, Nat.le_refl _, hm, by omega, ?_⟩⟩
  · rw [e]; simp
  · rw [e]; simp
    exact List.take_of_length_le (by simp)
end Go.Proofs.Ytgpapbpkcggolaa
