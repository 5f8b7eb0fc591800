/- Crowd: lists lent out: rows of the call's own with one more behind each. -/
import Derived.Test.YtcioejamohjdgaaRr1
namespace Go.Proofs.Ytcioejamohjdgaa
open Go.RowKit Go.BigFrame

/-- rows cut short: each a slice of m out of a row of its own -/
structure Lj (w : World) (B : Nat) (rs : List (List Int × Nat)) (v : Value) (zs : List Value) : Prop where
  o : Own w B 23 1 (zs.map fun x => [x]) v
  l : zs.length = rs.length
  r : ∀ (j : Nat) (x : Value) (p : List Int × Nat), zs[j]? = some x → rs[j]? = some p → ∃ g c, x = .slice (some ⟨g, 0, none⟩) p.2 c ∧ Own w B 3 1 (p.1.map irow) (.slice (some ⟨g, 0, none⟩) p.1.length c) ∧ v.ownBlock ≠ some g
theorem Lj.nil (w : World) (B : Nat) : Lj w B [] (.slice none 0 0) [] := ⟨Own.nil _ _ _ _, rfl, fun j x p h => by simp at h⟩
theorem Lj.below {w w' : World} {B : Nat} {rs : List (List Int × Nat)} {v : Value} {zs : List Value} (h : Lj w B rs v zs) (d : Below w.heap.size w w') : Lj w' B rs v zs :=
  ⟨h.o.below d, h.l, fun j x p hx hp => by
    obtain ⟨g, c, e, ho, hn⟩ := h.r j x p hx hp
    exact ⟨g, c, e, ho.below d, hn⟩⟩
theorem Lj.push {w w1 w2 w3 : World} {B g m c : Nat} {rs : List (List Int × Nat)} {v v' : Value} {zs : List Value} {l : List Int} (h : Lj w B rs v zs) (hb1 : Below w.heap.size w w1)
    (hx : Own w1 w.heap.size 3 1 (l.map irow) (.slice (some ⟨g, 0, none⟩) l.length c)) (hb : B ≤ w.heap.size) (hb2 : Below w1.heap.size w1 w2) (ho : Own w3 B 23 1 ((zs.map fun x => [x]) ++ [[.slice (some ⟨g, 0, none⟩) m c]]) v')
    (hg : w2.grownBy w3 v.ownBlock) (hat : v'.ownBlock = v.ownBlock ∨ v'.ownBlock = some w2.heap.size) : Lj w3 B (rs ++ [(l, m)]) v' (zs ++ [.slice (some ⟨g, 0, none⟩) m c]) := by
  have hs2 := hb2.size
  have hs1 := hb1.size
  have hgx := hx.lt g rfl
  have hvl : ∀ q, v.ownBlock = some q → q < w.heap.size := fun q e => (h.o.lt q e).2
  have keep : ∀ q : Nat, q < w1.heap.size → v.ownBlock ≠ some q → w3.heap[q]? = w1.heap[q]? := fun q hl hn => by
    rw [hg.block q (by omega) (fun e => hn e.symm), hb2.block q hl]
  have hvn : ∀ q : Nat, q < w1.heap.size → v.ownBlock ≠ some q → v'.ownBlock ≠ some q := fun q hl hn e => by
    rcases hat with e2 | e2
    · exact hn (e2 ▸ e)
    · rw [e2] at e
      have := Option.some.inj e
      omega
  refine ⟨by rw [List.map_append]; exact ho, by rw [List.length_append, List.length_append, h.l]; rfl, fun j x p hz hp => ?_⟩
  rcases Nat.lt_or_ge j zs.length with q | q
  · rw [List.getElem?_append_left q] at hz
    rw [List.getElem?_append_left (by rw [← h.l]; exact q)] at hp
    obtain ⟨g', c', e, h1, h2⟩ := h.r j x p hz hp
    have hl := (h1.lt g' rfl).2
    refine ⟨g', c', e, h1.keep fun b e2 => ?_, hvn g' (by omega) h2⟩
    have e3 : g' = b := Option.some.inj e2
    subst e3
    rw [keep g' (by omega) h2, hb1.block g' hl]
  · have hj : j = zs.length := by
      have := (List.getElem?_eq_some_iff.1 hz).1
      simp at this
      omega
    subst hj
    rw [List.getElem?_append_right (Nat.le_refl _), Nat.sub_self] at hz
    rw [h.l, List.getElem?_append_right (Nat.le_refl _), Nat.sub_self] at hp
    obtain rfl := Option.some.inj hz
    obtain rfl := Option.some.inj hp
    have hn : v.ownBlock ≠ some g := fun e => by have := hvl g e; omega
    refine ⟨g, c, rfl, (hx.mono hb).keep fun b e2 => ?_, hvn g hgx.2 hn⟩
    have e3 : g = b := Option.some.inj e2
    subst e3
    exact keep g hgx.2 hn
/-- what is lent -/
def lnt (nd : List (List Int)) : List (List Int × Nat) := nd.map (fun l => (l ++ [987], l.length))
theorem lnt_snoc (nd : List (List Int)) {k : Nat} (hk : k < nd.length) : lnt (nd.take k) ++ [(nd[k] ++ [987], nd[k].length)] = lnt (nd.take (k + 1)) := by
  rw [List.take_succ_eq_append_getElem hk]
  unfold lnt
  rw [List.map_append]
  rfl
theorem one_ints (l : List Int) : ∀ r ∈ l.map irow, ∀ u ∈ r, u.oneCell' = true := by
  intro r hr u hu
  obtain ⟨x, -, rfl⟩ := List.mem_map.1 hr
  simp only [irow, List.mem_singleton] at hu
  subst hu
  rfl
theorem own_end {w : World} {base : Nat} {e : TypeId} {size : Nat} {xs : List (List Value)} {r : List Value} {v : Value} (h : Own w base e size (xs ++ [r]) v) : ∃ g c, v = .slice (some ⟨g, 0, none⟩) (xs.length + 1) c ∧ xs.length + 1 ≤ c ∧ c ≤ maxLen := by
  obtain ⟨⟨_, h2⟩, _⟩ := h
  rcases h2 with ⟨_, h0⟩ | ⟨g, cap, cur, e, _, _, hc, hm, _, _⟩
  · rw [List.length_append] at h0; simp at h0
  · rw [List.length_append] at e hc
    exact ⟨g, cap, e, hc, hm⟩
theorem own_end2 {w : World} {base n : Nat} {e : TypeId} {size : Nat} {xs : List (List Value)} {r : List Value} {v : Value} (h : Own w base e size (xs ++ [r]) v) (hl : xs.length = n) : ∃ g c, v = .slice (some ⟨g, 0, none⟩) (n + 1) c ∧ n + 1 ≤ c ∧ (n : Int) ≤ (c : Int) := by
  obtain ⟨g, c, e, h1, -⟩ := own_end h
  subst hl
  exact ⟨g, c, e, h1, by omega⟩
end Go.Proofs.Ytcioejamohjdgaa
