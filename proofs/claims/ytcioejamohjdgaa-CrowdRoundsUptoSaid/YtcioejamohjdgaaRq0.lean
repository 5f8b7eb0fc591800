/- Crowd: the rounds, as the program's loops make them: plain lists. No walk here. -/
import Derived.Test.YtcioejamohjdgaaBg1
namespace Go.Proofs.Ytcioejamohjdgaa
open Go.RowKit Go.BigFrame

def brow (x : Bool) : List Value := [.bool x]
def okB (n : Nat) (bd : List Int) : Bool := bd.all (okU n)
def flagsOf (n : Nat) (bd : List Int) : List Bool := bd.foldl (fun e b => e.set b.toNat true) (List.replicate n false)
theorem flags_fold : ∀ (bd : List Int) (e : List Int), bd.foldl (fun e b => e.set b.toNat true) (e.map (· == 2)) = (bd.foldl (fun e b => e.set b.toNat 2) e).map (· == 2)
  | [], e => rfl
  | b :: bd, e => by
    simp only [List.foldl_cons]
    rw [← flags_fold bd, List.map_set]
    rfl
theorem flags_en (n : Nat) (bd : List Int) : flagsOf n bd = (enOf n bd).map (· == 2) := by
  unfold flagsOf enOf
  rw [← flags_fold, List.map_replicate]
  rfl
theorem flags_len (n : Nat) (bd : List Int) : (flagsOf n bd).length = n := by rw [flags_en, List.length_map]; exact (enOf_ends n bd).1
theorem flags_snoc (n : Nat) (bd : List Int) (b : Int) : flagsOf n (bd ++ [b]) = (flagsOf n bd).set b.toNat true := by unfold flagsOf; rw [List.foldl_append]; rfl
/-- one task of a round, by what its end gives -/
theorem one1_end (ab : List (List Nat)) (en : List Int) (p : List Int × List Int × List Bool) (i : Nat) :
    one1 ab en p i = (p.1.set i (en.getD i 0), (endq (en.getD i 0) p.2.1 (ab.getD i [])).1, marks p.2.2 (endq (en.getD i 0) p.2.1 (ab.getD i [])).2) := by
  unfold one1 endq
  by_cases h : en.getD i 0 = 1
  · rw [if_pos h, if_pos h]
  · rw [if_neg h, if_neg h]; rfl
theorem ones_snoc (ab : List (List Nat)) (en : List Int) (p : List Int × List Int × List Bool) (l : List Nat) (i : Nat) : ones ab en p (l ++ [i]) = one1 ab en (ones ab en p l) i := by unfold ones; rw [List.foldl_append]; rfl
theorem marks_snoc (nx : List Bool) (l : List Nat) (i : Nat) : marks nx (l ++ [i]) = (marks nx l).set i true := by unfold marks; rw [List.foldl_append]; rfl
theorem decs_sub {n : Nat} : ∀ (ks : List Nat) (p : List Int × List Nat), (∀ k ∈ p.2, k < n) → (∀ k ∈ ks, k < n) → ∀ k ∈ (decs p ks).2, k < n
  | [], p, h, _, k, hk => h k hk
  | x :: ks, p, h, h2, k, hk => by
    refine decs_sub ks (dec1 p x) (fun y hy => ?_) (fun y hy => h2 y (by simp [hy])) k hk
    unfold dec1 at hy
    simp only at hy
    split at hy
    · rcases List.mem_append.1 hy with q | q
      · exact h y q
      · simp only [List.mem_singleton] at q; subst q; exact h2 y (by simp)
    · exact h y hy
/-- what a task's end asks of the board, in the midst of a round -/
theorem mid_round {n : Nat} {nd : List (List Int)} {en st : List Int} (hr : ∀ l ∈ nd, Rng nd.length l) (hn : nd.length = n) (hE : Ends n en) (hl : st.length = n) (ht : tot nd ≤ 1048576) (j : Nat) (hj : j < (nowOf nd st).length) :
    ∃ st' nx, ones (abv nd n) en (st, lks nd st, List.replicate n false) ((nowOf nd st).take j) = (st', lks nd st', nx) ∧ st'.length = n ∧ nx.length = n ∧ (nowOf nd st)[j] < n ∧
      (∀ k ∈ (abv nd n).getD (nowOf nd st)[j] [], k < n) ∧ (∀ k, k < n → (((abv nd n).getD (nowOf nd st)[j] []).count k : Int) ≤ (lks nd st').getD k 0 ∧ (lks nd st').getD k 0 ≤ 1048576) ∧ ((abv nd n).getD (nowOf nd st)[j] []).length ≤ 1048576 ∧
      (endq (en.getD (nowOf nd st)[j] 0) (lks nd st') ((abv nd n).getD (nowOf nd st)[j] [])).2.length ≤ 1048576 ∧ ∀ k ∈ (endq (en.getD (nowOf nd st)[j] 0) (lks nd st') ((abv nd n).getD (nowOf nd st)[j] [])).2, k < n := by
  have hnd := nowOf_nodup nd st
  have hmem : ∀ i ∈ nowOf nd st, i < n ∧ st.getD i 0 = 0 := fun i hi => by have := nowOf_mem.1 hi; exact ⟨by omega, this.2.1⟩
  have hmt : ∀ i ∈ (nowOf nd st).take j, i < n ∧ st.getD i 0 = 0 := fun i hi => hmem i (List.mem_of_mem_take hi)
  have hdt : ((nowOf nd st).take j).Nodup := hnd.sublist (List.take_sublist _ _)
  obtain ⟨a1, a2, a3, a4, a5⟩ := ones_spec hr hn hE ((nowOf nd st).take j) st (List.replicate n false) hl (by simp) hdt hmt
  have hi := hmem _ (List.getElem_mem hj)
  have hnot : (nowOf nd st)[j] ∉ (nowOf nd st).take j := by
    have h2 : ((nowOf nd st).take j ++ [(nowOf nd st)[j]]).Nodup := by
      rw [List.take_append_getElem hj]; exact hnd.sublist (List.take_sublist _ _)
    have := (List.nodup_append.1 h2).2.2
    intro h3
    exact this _ h3 _ (by simp) rfl
  generalize (nowOf nd st)[j] = i at *
  have hst' : (putAll en st ((nowOf nd st).take j)).getD i 0 = 0 := by
    rw [putAll_get, if_neg (fun hh => hnot hh.1)]; exact hi.2
  have hlen : (putAll en st ((nowOf nd st).take j)).length = n := by rw [putAll_length]; exact hl
  generalize hq : ones (abv nd n) en (st, lks nd st, List.replicate n false) ((nowOf nd st).take j) = q at *
  obtain ⟨q1, q2, q3⟩ := q
  simp only at a1 a2 a3 a5
  subst a1 a2
  generalize putAll en st ((nowOf nd st).take j) = st' at *
  have hks : ∀ k ∈ (abv nd n).getD i [], k < n := fun k hk => abv_mem i k n hk
  have hkl : ((abv nd n).getD i []).length ≤ 1048576 := by
    have h1 := abv_len nd i n (by omega)
    have h2 := tot_take nd n
    omega
  refine ⟨st', q3, rfl, hlen, a3, hi.1, hks, fun k hk => ?_, hkl, ?_, ?_⟩
  · rw [lks_get (by omega), abv_count hr i k n (by omega), if_pos hk]
    have h1 := (lkOf_set (k := k) hr hn hlen hi.1 hst').1
    refine ⟨by omega, ?_⟩
    have h2 : lkOf nd st' k ≤ (nd.getD k []).length := by unfold lkOf; exact List.countP_le_length
    have hkn : k < nd.length := by omega
    have h3 := tot_mem hkn
    have h4 : nd.getD k [] = nd[k] := by simp [List.getD_eq_getElem?_getD, hkn]
    rw [h4] at h2
    omega
  · unfold endq
    split
    · have := decs_len2 ((abv nd n).getD i []) (lks nd st', [])
      have e : ((lks nd st', []) : List Int × List Nat).2.length = 0 := rfl
      omega
    · simp
  · intro k hk
    unfold endq at hk
    split at hk
    · exact decs_sub _ _ (fun k h => absurd h (by simp)) hks k hk
    · simp at hk
theorem rep_b0 (n : Nat) : (List.replicate n false).map brow = List.replicate n [Value.bool false] := by rw [List.map_replicate]; rfl
end Go.Proofs.Ytcioejamohjdgaa
