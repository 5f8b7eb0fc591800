/- Crowd: an end of a table, read where its beginning was overwritten. -/
import Derived.Test.YtcioejamohjdgaaRw0
namespace Go.Proofs.Ytcioejamohjdgaa
open Go.RowKit Go.BigFrame

theorem Nds.drop {w : World} {b o : Nat} {nd : List (List Int)} (h : Nds w (some ⟨b, o, none⟩) nd) (k : Nat) : Nds w (some ⟨b, o + k, none⟩) (nd.drop k) := by
  refine ⟨by rw [List.length_drop]; have := h.1; omega, fun j hj => ?_⟩
  rw [List.length_drop] at hj
  obtain ⟨b', o', Ak, ck, e, hb, hc, hp, hz⟩ := h.2 (k + j) (by omega)
  cases e
  rw [List.getElem_drop]
  exact ⟨b, o + k, Ak, ck, rfl, hb, by rw [Nat.add_assoc]; exact hc, hp, hz⟩
theorem Tbl.nds_drop {w X : World} {B N g0 c : Nat} {T : List (List Nat)} {vs : List Value} (h : Tbl w B 23 3 1 (T.map (·.map nrow)) (.slice (some ⟨g0, 0, none⟩) N c) vs) (hn : T.length = N) (k : Nat)
    (h0 : X.heap[g0]? = w.heap[g0]?) (hr : ∀ (j : Nat) (x : Value) (g : Nat), k ≤ j → vs[j]? = some x → x.ownBlock = some g → X.heap[g]? = w.heap[g]?) (hs : w.heap.size ≤ X.heap.size) :
    Nds X (some ⟨g0, k, none⟩) ((T.map (fun l => l.map (fun x : Nat => (x : Int)))).drop k) := by
  obtain ⟨A, ca, e, hl, hh⟩ := h.nds hn
  have eA := (Value.slice.inj e).1
  subst eA
  refine ⟨by rw [List.length_drop]; omega, fun j hj => ?_⟩
  rw [List.length_drop] at hj
  obtain ⟨b, o, Ak, ck, e1, hb, hc, hp, hz⟩ := hh (k + j) (by omega)
  cases e1
  rw [List.getElem_drop]
  have hkj : k + j < T.length := by rw [List.length_map] at hj; omega
  have hkv : k + j < vs.length := by rw [h.l, List.length_map]; exact hkj
  refine ⟨g0, k, Ak, ck, rfl, Nat.lt_of_lt_of_le hb hs, ?_, ?_, hz⟩
  · rw [Nat.zero_add] at hc
    exact (World.cell?_of_block (a := ⟨g0, k + j, none⟩) h0).trans hc
  · have hrow := h.r (k + j) vs[k + j] _ (List.getElem?_eq_getElem hkv) (by rw [List.getElem?_map, List.getElem?_eq_getElem hkj]; rfl)
    have hc1 := (h.o.cell1 (row := fun x => [x]) (val := fun x => x) (fun _ => rfl) (by rw [h.l, List.length_map]; exact hn) hkv).1
    rw [Nat.zero_add] at hc
    rw [hc1] at hc
    have ev := Option.some.inj hc
    refine Sl.keep (S := fun b => vs[k + j].ownBlock = some b) ?_ (fun b e _ => hr (k + j) _ b (Nat.le_add_right _ _) (List.getElem?_eq_getElem hkv) e) |>.mono (fun _ _ => trivial)
    obtain ⟨A', c', e', hs'⟩ := hrow.sl
    rw [e'] at ev
    have eA' := (Value.slice.inj ev).1
    subst eA'
    rw [List.getElem_map, List.map_map]
    exact hs'
theorem Tbl.nds' {w : World} {B n c : Nat} {A : Option Addr} {T : List (List Nat)} {v : Value} {vs : List Value} (h : Tbl w B 23 3 1 (T.map (·.map nrow)) v vs) (hn : T.length = n) (hv : v = .slice A n c) : Nds w A (T.map (fun l => l.map (fun x : Nat => (x : Int)))) := by
  obtain ⟨A', c', e, hl⟩ := h.nds hn
  rw [hv] at e
  have eA := (Value.slice.inj e).1
  subst eA
  exact hl
theorem own_ints' {w : World} {B n c : Nat} {A : Option Addr} {L : List Nat} {v : Value} (h : Own w B 3 1 (L.map nrow) v) (hn : L.length = n) (hv : v = .slice A n c) : Ints w A (L.map fun x : Nat => (x : Int)) := by
  obtain ⟨A', c', e, hl⟩ := own_ints h hn
  rw [hv] at e
  have eA := (Value.slice.inj e).1
  subst eA
  exact hl
theorem own_cap' {w : World} {base n c : Nat} {A : Option Addr} {e : TypeId} {size : Nat} {xs : List (List Value)} (h : Own w base e size xs (.slice A n c)) (hn : 0 < n) : n ≤ c := by
  rcases h.1.2 with ⟨hv, _⟩ | ⟨g, cap, cur, hv, _, _, hc, _⟩
  · cases hv; omega
  · have e2 := (Value.slice.inj hv).2
    rw [e2.1, e2.2]; exact hc
theorem nds_nil (w : World) (A : Option Addr) : Nds w A [] := ⟨by simp, fun k hk => absurd hk (by simp)⟩
theorem rds_row (nd : List (List Int)) (en : List Int) : ∀ (f : Nat) (st : List Int), ∀ l ∈ (rds nd en f st).1, l.length ≤ nd.length
  | 0, st, l, h => by simp [rds] at h
  | f + 1, st, l, h => by
    unfold rds at h
    by_cases h0 : nowOf nd st = []
    · rw [if_pos h0] at h; simp at h
    · rw [if_neg h0] at h
      rcases List.mem_cons.1 h with h | h
      · rw [h]; exact filter_le _ _
      · exact rds_row nd en f _ l h
theorem outT_row (nd : List (List Int)) (bd : List Int) : ∀ l ∈ outT nd bd, l.length ≤ nd.length := by
  intro l h
  unfold outT at h
  split at h
  · exact rds_row _ _ _ _ l h
  · simp at h
end Go.Proofs.Ytcioejamohjdgaa
