/- Crowd: both Rounds under one contract each. -/
import Derived.Test.YtcioejamohjdgaaLn2
import Derived.Test.YtcioejamohjdgaaRq1
import Derived.Test.YtcioejamohjdgaaRq2
namespace Go.Proofs.Ytcioejamohjdgaa
open Go.RowKit Go.BigFrame

/-- the rounds, what is left, and the word, as Rounds says them -/
def outT (nd : List (List Int)) (bd : List Int) : List (List Nat) := if mayN nd && okB nd.length bd then (rds nd (enOf nd.length bd) (nd.length + 1) (List.replicate nd.length 0)).1 else []
def outL (nd : List (List Int)) (bd : List Int) : List Nat := if mayN nd && okB nd.length bd then leftOf (rds nd (enOf nd.length bd) (nd.length + 1) (List.replicate nd.length 0)).2 else []
def outC (nd : List (List Int)) (bd : List Int) : Int := if mayN nd && okB nd.length bd then 0 else 1
theorem rounds_any (nd : List (List Int)) (bd : List Int) (A A2 : Option Addr) (c c2 n m : Nat) (w : World) (h : Nds w A nd) (hn : nd.length = n) (hb : Ints w A2 bd) (hm : bd.length = m) (ht : tot nd ≤ 1048576) :
    Calls Try.prog 12 #[.slice A n c, .slice A2 m c2] w fun e w' => ∃ v4 vs v5 H, e = .returned (.tuple #[v4, v5, .int .i64 (outC nd bd)]) ∧ Tbl w' w.heap.size 23 3 1 ((outT nd bd).map (·.map nrow)) v4 vs ∧
      Own w' w.heap.size 3 1 ((outL nd bd).map nrow) v5 ∧ (∀ g, (v4.ownBlock = some g ∨ ∃ x ∈ vs, x.ownBlock = some g) → g < H) ∧ (∀ g, v5.ownBlock = some g → H ≤ g) ∧ Below w.heap.size w w' := by
  unfold outT outL outC
  cases hq : mayN nd && okB nd.length bd with
  | true =>
    rw [Bool.and_eq_true] at hq
    rw [hn] at hq ⊢
    exact rounds_yes nd bd A A2 c c2 n m w h hn hq.1 hb hm hq.2 ht
  | false =>
    rw [hn] at hq
    refine (rounds_no nd bd A A2 c c2 n m w h hn hb hm hq).mono ?_
    rintro e w' ⟨rfl, hw⟩
    refine ⟨_, [], _, 0, rfl, Tbl.nil _ _ _ _ _, Own.nil _ _ _ _, fun g hg => ?_, fun g hg => Nat.zero_le _, hw⟩
    rcases hg with hg | ⟨x, hx, -⟩
    · cases hg
    · cases hx
theorem rrounds_any (nd : List (List Int)) (bd : List Int) (A A2 : Option Addr) (c c2 n m : Nat) (w : World) (h : Nds w A nd) (hn : nd.length = n) (hb : Ints w A2 bd) (hm : bd.length = m) :
    Calls Try.prog 11 #[.slice A n c, .slice A2 m c2] w fun e w' => ∃ v4 vs v5, e = .returned (.tuple #[v4, v5, .int .i64 (outC nd bd)]) ∧ Tbl w' w.heap.size 23 3 1 ((outT nd bd).map (·.map nrow)) v4 vs ∧
      Own w' w.heap.size 3 1 ((outL nd bd).map nrow) v5 ∧ Below w.heap.size w w' := by
  unfold outT outL outC
  cases hq : mayN nd && okB nd.length bd with
  | true =>
    rw [Bool.and_eq_true] at hq
    rw [hn] at hq ⊢
    exact rrounds_yes nd bd A A2 c c2 n m w h hn hq.1 hb hm hq.2
  | false =>
    rw [hn] at hq
    refine (rrounds_no nd bd A A2 c c2 n m w h hn hb hm hq).mono ?_
    rintro e w' ⟨rfl, hw⟩
    exact ⟨_, [], _, rfl, Tbl.nil _ _ _ _ _, Own.nil _ _ _ _, hw⟩
/-- a table is a list of lists -/
theorem Tbl.nds {w : World} {B n : Nat} {T : List (List Nat)} {v : Value} {vs : List Value} (h : Tbl w B 23 3 1 (T.map (·.map nrow)) v vs) (hn : T.length = n) :
    ∃ A c, v = .slice A n c ∧ Nds w A (T.map (fun l => l.map (fun x : Nat => (x : Int)))) := by
  obtain ⟨A, c, e, hs⟩ := h.o.sl
  have hvl : vs.length = n := by rw [h.l, List.length_map]; exact hn
  rw [List.length_map, hvl] at e
  have hle := Sl.le hs
  rw [List.length_map, hvl] at hle
  refine ⟨A, c, e, by rw [List.length_map]; omega, fun k hk => ?_⟩
  rw [List.length_map] at hk
  have hkv : k < vs.length := by omega
  obtain ⟨b, o, eA, -, hl, hc⟩ := Sl.at_ hs (k := k) (by rw [List.length_map]; exact hkv)
  have hr := h.r k vs[k] _ (List.getElem?_eq_getElem hkv) (by rw [List.getElem?_map, List.getElem?_eq_getElem hk]; rfl)
  obtain ⟨A', c', e', hs'⟩ := hr.sl
  have h0 := hc 0 vs[k] (by rw [List.getElem_map]; rfl)
  rw [e', List.length_map, Nat.mul_one, Nat.add_zero] at h0
  refine ⟨b, o, A', c', eA, hl, by rw [List.getElem_map, List.length_map]; exact h0, ?_, ?_⟩
  · rw [List.getElem_map]
    unfold Ints
    rw [List.map_map]
    exact hs'.mono (fun _ _ => trivial)
  · rintro rfl
    rcases hr.1.2 with ⟨q, -⟩ | ⟨g, cap, cur, q, -⟩
    · rw [e'] at q
      exact (Value.slice.inj q).2.2
    · rw [e'] at q
      cases (Value.slice.inj q).1
theorem own_ints {w : World} {B n : Nat} {L : List Nat} {v : Value} (h : Own w B 3 1 (L.map nrow) v) (hn : L.length = n) : ∃ A c, v = .slice A n c ∧ Ints w A (L.map fun x : Nat => (x : Int)) := by
  obtain ⟨A, c, e, hs⟩ := h.sl
  rw [List.length_map, hn] at e
  refine ⟨A, c, e, ?_⟩
  unfold Ints
  rw [List.map_map]
  exact hs.mono (fun _ _ => trivial)
end Go.Proofs.Ytcioejamohjdgaa
