/- Crowd: one more who waits, in the board's memory; what has been made. Plain: no walk here. -/
import Derived.Test.YtcioejamohjdgaaBd1
namespace Go.Proofs.Ytcioejamohjdgaa
open Go.RowKit Go.BigFrame

theorem set_get {α : Type} {l : List α} {i j : Nat} {x y : α} (h : (l.set i x)[j]? = some y) : (i = j ∧ y = x) ∨ (i ≠ j ∧ l[j]? = some y) := by
  rw [List.getElem?_set] at h
  by_cases e : i = j
  · rw [if_pos e] at h
    split at h
    · exact .inl ⟨e, (Option.some.inj h).symm⟩
    · cases h
  · rw [if_neg e] at h
    exact .inr ⟨e, h⟩
theorem Bd.push {wk w2 w3 : World} {P ps pl pa n : Nat} {xs : List Value} {st lk : List Int} {ab : List (List Nat)} (h : Bd wk P ps pl pa n xs st lk ab) {u : Nat} (hu : u < n) {x v' : Value} (hx : xs[u]? = some x) {t : List Nat} (_ht : ab[u]? = some t) {k : Nat}
    (hb2 : Below wk.heap.size wk w2) (hb3 : Below (P + 4) w2 w3) (hg : w2.grownBy w3 x.ownBlock) (hat : v'.ownBlock = x.ownBlock ∨ v'.ownBlock = some w2.heap.size) (ho : Own w3 (P + 4) 3 1 ((t ++ [k]).map nrow) v') :
    Bd (w3.setCell ⟨pa, u, none⟩ v') P ps pl pa n (xs.set u v') st lk (ab.set u (t ++ [k])) := by
  obtain ⟨l1, l2, l3, l4, l5, l6, l7, l8, l9⟩ := h.lo
  have hsz := hb2.size
  have hP3 := heap_lt h.hb
  have lowb : ∀ b, b < P + 4 → w3.heap[b]? = wk.heap[b]? := fun b hb => (hb3.block b hb).trans (hb2.block b (by omega))
  have hf : ∀ b, b ≠ pa → (w3.setCell ⟨pa, u, none⟩ v').heap[b]? = w3.heap[b]? := fun b hb => Below.heap_setCell _ _ _ b hb
  have hlt : ∀ (j : Nat) (y : Value), xs[j]? = some y → ∀ b : Nat, y.ownBlock = some b → P + 4 ≤ b ∧ b < wk.heap.size := fun j y hy b hb => by
    have hj : j < ab.length := by rw [h.nb, ← h.na]; exact (List.getElem?_eq_some_iff.1 hy).1
    exact (h.r j y _ hy (List.getElem?_eq_getElem hj)).lt b hb
  have ha3 : Own w3 P 23 1 (xs.map fun x => [x]) (.slice (some ⟨pa, 0, none⟩) n n) := h.a.keep fun b e => lowb b (by have e : pa = b := Option.some.inj e; omega)
  refine ⟨(hf _ (by omega)).trans ((lowb _ (by omega)).trans h.hb), h.s.keep fun b e => ?_, h.l.keep fun b e => ?_, ?_, h.ns, h.nl, by rw [List.length_set]; exact h.na, by rw [List.length_set]; exact h.nb, fun j y t' h1 h2 => ?_, fun i j y z h1 h2 hij b hb => ?_, h.lo⟩
  · have e : ps = b := Option.some.inj e
    exact (hf b (by omega)).trans (lowb b (by omega))
  · have e : pl = b := Option.some.inj e
    exact (hf b (by omega)).trans (lowb b (by omega))
  · exact ha3.put1 (row := fun x => [x]) (val := fun x => x) (fun _ => rfl) h.na hu v'
  · rcases set_get h1 with ⟨rfl, rfl⟩ | ⟨hne, h1⟩
    · rcases set_get h2 with ⟨_, rfl⟩ | ⟨hne, _⟩
      · exact ho.keep fun b e => hf b (by have := (ho.lt b e).1; omega)
      · exact absurd rfl hne
    · rcases set_get h2 with ⟨e, _⟩ | ⟨_, h2⟩
      · exact absurd e hne
      · refine (h.r j y t' h1 h2).keep fun b e => ?_
        obtain ⟨q1, q2⟩ := hlt j y h1 b e
        rw [hf b (by omega), hg.block b (by omega) (fun e2 => h.dd u j x y hx h1 hne b e2.symm e), hb2.block b q2]
  · rcases set_get h1 with ⟨rfl, rfl⟩ | ⟨hne1, h1'⟩
    · rcases set_get h2 with ⟨e, _⟩ | ⟨hne2, h2'⟩
      · exact absurd e hij
      · intro e
        rcases hat with q | q
        · rw [q] at hb; exact h.dd u j x z hx h2' hij b hb e
        · rw [q] at hb
          have e3 : w2.heap.size = b := Option.some.inj hb
          have := (hlt j z h2' b e).2
          omega
    · rcases set_get h2 with ⟨rfl, rfl⟩ | ⟨hne2, h2'⟩
      · intro e
        rcases hat with q | q
        · rw [q] at e; exact h.dd i u y x h1' hx hij b hb e
        · rw [q] at e
          have e3 : w2.heap.size = b := Option.some.inj e
          have := (hlt i y h1' b hb).2
          omega
      · exact h.dd i j y z h1' h2' hij b hb
/-! ### what 'make' lays -/
def mkr (z : Value) (s n : Nat) : Array Value := madeCells z.cells (n * s)
set_option maxRecDepth 100000 in
theorem made_of {t e : TypeId} {z : Value} {s bytes : Nat} (u : Try.prog.underlying t = some (.slice e)) (hi : (Try.prog.info? e).map (fun i => (i.zero, i.size, i.bytes)) = some (some z, s, bytes)) {n : Nat} (hb : bytes * n ≤ 281474976710656) (hn : n ≤ 9223372036854775807) (W : World) :
    (Instr.makeSlice t (.int .i64 n) (.int .i64 n)).run Try.prog W = .ok (.slice (some ⟨W.heap.size, 0, none⟩) n n) (W.alloc (.cells (mkr z s n) e)) := by
  obtain ⟨i0, hi0, hz0, hz1, hz2⟩ := info_parts hi
  have := run_make (P := Try.prog) W t e i0 z u hi0 hz0 .i64 .i64 n n (by omega) (by omega) (by rw [hz2]; omega) (by omega)
  rw [hz1] at this
  unfold mkr
  simpa using this
theorem own_made1 {W : World} {B g n : Nat} {e : TypeId} {z : Value} (hz : z.cells = #[z]) (hg : W.heap[g]? = some (.cells (mkr z 1 n) e)) (hB : B ≤ g) (hn : n ≤ maxLen) : Own W B e 1 (List.replicate n [z]) (.slice (some ⟨g, 0, none⟩) n n) := by
  have e1 : (mkr z 1 n).toList = List.replicate n z := by unfold mkr; rw [hz, Nat.mul_one, toList_madeCells_one]
  have e2 : (mkr z 1 n).size = n := by rw [← Array.length_toList, e1, List.length_replicate]
  have hl : (List.replicate n [z]).length = n := List.length_replicate
  refine ⟨⟨by rw [hl, rep_flat, List.length_replicate, Nat.mul_one], .inr ⟨g, n, _, by rw [hl], hB, hg, by rw [hl]; exact Nat.le_refl _, hn, by rw [e2, Nat.mul_one], ?_⟩⟩, fun r hr => ?_⟩
  · rw [hl, rep_flat, e1, Nat.mul_one, List.take_of_length_le (by rw [List.length_replicate]; exact Nat.le_refl _)]
  · rw [(List.mem_replicate.1 hr).2]; rfl
theorem Bd.made {w : World} {P ps pl pa n : Nat} (hn : n ≤ maxLen) (hb : w.heap[P + 3]? = some (.cells #[.slice (some ⟨ps, 0, none⟩) n n, .slice (some ⟨pl, 0, none⟩) n n, .slice (some ⟨pa, 0, none⟩) n n] 67))
    (h1 : w.heap[ps]? = some (.cells (mkr (.int .u8 0) 1 n) 5)) (h2 : w.heap[pl]? = some (.cells (mkr (.int .i64 0) 1 n) 3)) (h3 : w.heap[pa]? = some (.cells (mkr (.slice none 0 0) 1 n) 23))
    (lo : P ≤ ps ∧ ps < P + 3 ∧ P ≤ pl ∧ pl < P + 3 ∧ P ≤ pa ∧ pa < P + 3 ∧ ps ≠ pl ∧ ps ≠ pa ∧ pl ≠ pa) : Bd w P ps pl pa n (List.replicate n (.slice none 0 0)) (List.replicate n 0) (List.replicate n 0) (List.replicate n []) := by
  have r1 : (List.replicate n (0 : Int)).map urow = List.replicate n [Value.int .u8 0] := by rw [List.map_replicate]; rfl
  have r2 : (List.replicate n (0 : Int)).map irow = List.replicate n [Value.int .i64 0] := by rw [List.map_replicate]; rfl
  have r3 : (List.replicate n (Value.slice none 0 0)).map (fun x => [x]) = List.replicate n [Value.slice none 0 0] := by rw [List.map_replicate]
  refine ⟨hb, by rw [r1]; exact own_made1 rfl h1 lo.1 hn, by rw [r2]; exact own_made1 rfl h2 lo.2.2.1 hn, by rw [r3]; exact own_made1 rfl h3 lo.2.2.2.2.1 hn, List.length_replicate, List.length_replicate, List.length_replicate, List.length_replicate, fun k x t h1 h2 => ?_, fun i j x y h1 h2 _ b hb => ?_, lo⟩
  · obtain rfl := (List.mem_replicate.1 (List.mem_of_getElem? h1)).2
    obtain rfl := (List.mem_replicate.1 (List.mem_of_getElem? h2)).2
    exact Own.nil _ _ _ _
  · obtain rfl := (List.mem_replicate.1 (List.mem_of_getElem? h1)).2
    cases hb
end Go.Proofs.Ytcioejamohjdgaa
