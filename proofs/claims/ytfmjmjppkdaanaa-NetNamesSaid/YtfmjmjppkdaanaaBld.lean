/- Net: nets that a statement builds itself: rows, with lists behind; plain. -/
import Derived.Test.YtfmjmjppkdaanaaLonger
import Derived.Test.YtfmjmjppkdaanaaPosv
namespace Go.Proofs.Ytfmjmjppkdaanaa
open Go.RowKit Go.BigFrame flt Ieee

def prt (S : Nat → Prop) (w : World) (p : Part) (r : List Value) : Prop :=
  ∃ Ai ci, r = [.int .u8 p.kind, .float .f64 p.x, .slice Ai p.of.length ci] ∧ Sl S w Ai 1 (p.of.map irow) ∧ p.of.length ≤ ci
theorem Sl.into {S S' : Nat → Prop} {w w' : World} {A : Option Addr} {size : Nat} {xs : List (List Value)} (h : Sl S w A size xs) (hk : ∀ b, S b → b < w.heap.size → w'.heap[b]? = w.heap[b]? ∧ S' b) : Sl S' w' A size xs :=
  ⟨h.1, h.2.1, fun hn => by
    obtain ⟨b, o, e, hb, hl, hc⟩ := h.2.2 hn
    obtain ⟨hkb, hS⟩ := hk b hb hl
    refine ⟨b, o, e, hS, ?_, fun i r hr f u hu => by rw [← hc i r hr f u hu]; exact World.cell?_of_block hkb⟩
    rcases Nat.lt_or_ge b w'.heap.size with q | q
    · exact q
    · rw [Array.getElem?_eq_none q, Array.getElem?_eq_getElem hl] at hkb; cases hkb⟩
theorem prt.into {S S' : Nat → Prop} {w w' : World} {p : Part} {r : List Value} (h : prt S w p r) (hk : ∀ b, S b → b < w.heap.size → w'.heap[b]? = w.heap[b]? ∧ S' b) : prt S' w' p r := by
  obtain ⟨Ai, ci, e, hs, hc⟩ := h
  exact ⟨Ai, ci, e, hs.into hk, hc⟩
def Prts (S : Nat → Prop) (w : World) (l : List Part) (rs : List (List Value)) : Prop := rs.length = l.length ∧ ∀ (k : Nat) (p : Part) (r : List Value), l[k]? = some p → rs[k]? = some r → prt S w p r
theorem Prts.into {S S' : Nat → Prop} {w w' : World} {l : List Part} {rs : List (List Value)} (h : Prts S w l rs) (hk : ∀ b, S b → b < w.heap.size → w'.heap[b]? = w.heap[b]? ∧ S' b) : Prts S' w' l rs :=
  ⟨h.1, fun k p r hp hr => (h.2 k p r hp hr).into hk⟩
theorem Prts.push {S : Nat → Prop} {w : World} {l : List Part} {rs : List (List Value)} (h : Prts S w l rs) {p : Part} {r : List Value} (hp : prt S w p r) : Prts S w (l ++ [p]) (rs ++ [r]) := by
  refine ⟨by rw [List.length_append, List.length_append, h.1]; rfl, fun k q y hq hy => ?_⟩
  rcases get_push hq with ⟨hk, hq'⟩ | ⟨hk, rfl⟩
  · rcases get_push hy with ⟨_, hy'⟩ | ⟨hk', _⟩
    · exact h.2 k q y hq' hy'
    · rw [h.1] at hk'; omega
  · rcases get_push hy with ⟨hk', _⟩ | ⟨_, rfl⟩
    · rw [h.1] at hk'; omega
    · exact hp
theorem Prts.nil (S : Nat → Prop) (w : World) : Prts S w [] [] := ⟨rfl, fun k p r h => by cases h⟩
theorem pn_own {S : Nat → Prop} {w : World} {B : Nat} {v : Value} {l : List Part} {rs : List (List Value)} (ho : Own w B 47 3 rs v) (h : Prts S w l rs) : ∃ A c, v = .slice A l.length c ∧ Pn w A l := by
  obtain ⟨A, c, hv, hs⟩ := ho.sl
  rw [h.1] at hv
  refine ⟨A, c, hv, by have := hs.1; rw [h.1] at this; exact this, fun k hk => ?_⟩
  have hkr : k < rs.length := by rw [h.1]; exact hk
  obtain ⟨b, o, e, _, hl, hc⟩ := hs.at_ hkr
  obtain ⟨Ai, ci, er, hi, hci⟩ := h.2 k _ _ (List.getElem?_eq_getElem hk) (List.getElem?_eq_getElem hkr)
  rw [er] at hc
  exact ⟨b, o, Ai, ci, e, hl, hc 0 _ rfl, hc 1 _ rfl, hc 2 _ rfl, hi.mono fun _ _ => trivial, hci⟩
/-- a net under way -/
def Bld (w : World) (B : Nat) (l : List Part) (v : Value) (rs : List (List Value)) : Prop := Own w B 47 3 rs v ∧ Prts (fun b => v.ownBlock ≠ some b) w l rs
theorem Bld.below {w w' : World} {B : Nat} {l : List Part} {v : Value} {rs : List (List Value)} (h : Bld w B l v rs) (d : Below w.heap.size w w') : Bld w' B l v rs :=
  ⟨h.1.below d, h.2.into fun b hS hl => ⟨d.block b hl, hS⟩⟩
theorem Bld.push {w w1 w2 w3 : World} {B : Nat} {l : List Part} {v v' : Value} {rs : List (List Value)} {p : Part} {r : List Value} (h : Bld w B l v rs)
    (hb1 : Below w.heap.size w w1) (hp : prt (fun b => w.heap.size ≤ b) w1 p r) (hb2 : Below w1.heap.size w1 w2)
    (ho : Own w3 B 47 3 (rs ++ [r]) v') (hg : w2.grownBy w3 v.ownBlock) (hat : v'.ownBlock = v.ownBlock ∨ v'.ownBlock = some w2.heap.size) : Bld w3 B (l ++ [p]) v' (rs ++ [r]) := by
  have hs1 := hb1.size
  have hs2 := hb2.size
  have hvl : ∀ x, v.ownBlock = some x → x < w.heap.size := fun x hx => (h.1.lt x hx).2
  refine ⟨ho, Prts.push (h.2.into fun b hS hl => ⟨?_, ?_⟩) (hp.into fun b hS hl => ⟨?_, ?_⟩)⟩
  · rw [← hb1.block b hl, ← hb2.block b (by omega)]
    exact hg.block b (by omega) (fun e => hS e.symm)
  · intro e
    rcases hat with e' | e'
    · exact hS (e' ▸ e)
    · rw [e'] at e
      have := Option.some.inj e
      omega
  · rw [← hb2.block b hl]
    exact hg.block b (by omega) (fun e => by have := hvl b e.symm; omega)
  · intro e
    rcases hat with e' | e'
    · have := hvl b (e' ▸ e); omega
    · rw [e'] at e
      have := Option.some.inj e
      omega
theorem Bld.pn {w : World} {B : Nat} {l : List Part} {v : Value} {rs : List (List Value)} (h : Bld w B l v rs) : ∃ A c, v = .slice A l.length c ∧ Pn w A l := pn_own h.1 h.2
theorem zip_get {l : List Part} {gs : List (Nat × Nat)} {k : Nat} {p : Part} {r : List Value} (hp : l[k]? = some p) (hr : (List.zipWith pvrow l gs)[k]? = some r) : ∃ g, gs[k]? = some g ∧ r = pvrow p g := by
  rw [List.getElem?_zipWith, hp] at hr
  cases hg : gs[k]? with
  | none => rw [hg] at hr; cases hr
  | some g => rw [hg] at hr; cases hr; exact ⟨g, rfl, rfl⟩
theorem Parted.prts {w : World} {B : Nat} {l : List Part} {g cap : Nat} {gs : List (Nat × Nat)} (h : Parted w B l g cap gs) : Prts (fun b => b < w.heap.size) w l (List.zipWith pvrow l gs) := by
  refine ⟨zip_len h.len, fun k p r hp hr => ?_⟩
  obtain ⟨y, hy, rfl⟩ := zip_get hp hr
  obtain ⟨o1, _⟩ := h.inn k p y hp hy
  have ho := o1.sl
  obtain ⟨A, c, e, hs⟩ := ho
  rw [inner_len] at e
  cases e
  have hf := o1.form (by rw [inner_len]; omega)
  obtain ⟨g', c', e', _, _, h3⟩ := hf
  rw [inner_len] at e' h3
  cases e'
  refine ⟨some ⟨y.1, 0, none⟩, y.2, rfl, ?_, by omega⟩
  have ht := hs.take p.of.length
  have et : (inner p).take p.of.length = p.of.map irow := by
    unfold inner
    rw [List.take_append_of_le_length (by rw [List.length_map]; omega), List.take_of_length_le (by rw [List.length_map]; omega)]
  rw [et] at ht
  exact ht.into fun b _ hl => ⟨rfl, hl⟩
theorem Parted.sl {w : World} {B : Nat} {l : List Part} {g cap : Nat} {gs : List (Nat × Nat)} (h : Parted w B l g cap gs) : Sl (fun _ => True) w (some ⟨g, 0, none⟩) 3 (List.zipWith pvrow l gs) := by
  obtain ⟨A, c, e, hs⟩ := h.row.sl
  obtain ⟨rfl, _, rfl⟩ := Value.slice.inj e
  have ht := hs.take l.length
  have et : (List.zipWith pvrow l gs ++ [mark]).take l.length = List.zipWith pvrow l gs := by
    have := zip_len h.len
    rw [List.take_append_of_le_length (by omega), List.take_of_length_le (by omega)]
  rw [et] at ht
  exact ht.mono fun _ _ => trivial
theorem one_zip (l : List Part) (gs : List (Nat × Nat)) : ∀ r ∈ List.zipWith pvrow l gs, ∀ u ∈ r, u.oneCell' = true := by
  intro r hr u hu
  obtain ⟨k, hk, rfl⟩ := List.getElem_of_mem hr
  rw [List.getElem_zipWith] at hu
  simp only [pvrow, List.mem_cons, List.not_mem_nil, or_false] at hu
  rcases hu with rfl | rfl | rfl <;> rfl
end Go.Proofs.Ytfmjmjppkdaanaa
