/- Sensor: what a zone and a median are; plain. -/
import Derived.Test.YtgpapbpkcggolaaDoorZn0
import Derived.Test.YtgpapbpkcggolaaDoorMd0
namespace Go.Proofs.YtgpapbpkcggolaaDoor

theorem zscan_spec (deg : Int) : ∀ (l : List Int) (p : Option Int) (k z : Nat), zscan deg p l k = some z →
    (∀ q, p = some q → ∀ x ∈ l, q < x) ∧ ∃ j, j ≤ l.length ∧ z = k + j ∧ ∀ (i : Nat) (h : i < l.length), l[i] ≤ deg ↔ i < j
  | [], p, k, z, h => by
    rw [zscan] at h
    cases h
    exact ⟨fun _ _ x hx => absurd hx (by simp), 0, by simp, rfl, fun i h => absurd h (by simp)⟩
  | m :: l, p, k, z, h => by
    rw [zscan] at h
    by_cases hp : p.any (fun q => decide (m ≤ q)) = true
    · rw [if_pos hp] at h; cases h
    · rw [if_neg hp] at h
      obtain ⟨h1, j, hj, hz, hs⟩ := zscan_spec deg l (some m) _ z h
      have hm := h1 m rfl
      refine ⟨fun q hq x hx => ?_, ?_⟩
      · subst hq
        have hqm : q < m := by simpa using hp
        rcases List.mem_cons.1 hx with e | e
        · rw [e]; exact hqm
        · have := hm x e; omega
      · by_cases hd : m ≤ deg
        · rw [if_pos hd] at hz
          refine ⟨j + 1, by simp; omega, by omega, fun i hi => ?_⟩
          cases i with
          | zero => simp; exact hd
          | succ i =>
            have := hs i (by simpa using hi)
            simp only [List.getElem_cons_succ]
            omega
        · rw [if_neg hd] at hz
          have hj0 : j = 0 := by
            rcases Nat.eq_zero_or_pos j with q | q
            · exact q
            · have h3 := (hs 0 (by omega)).2 q
              have h4 := hm _ (List.getElem_mem (l := l) (n := 0) (by omega))
              omega
          refine ⟨0, by simp, by omega, fun i hi => ?_⟩
          cases i with
          | zero => simp; omega
          | succ i =>
            have h4 := hm _ (List.getElem_mem (l := l) (n := i) (by simpa using hi))
            simp only [List.getElem_cons_succ]
            omega
theorem zscan_take (deg : Int) : ∀ (l : List Int) (p : Option Int) (k z r : Nat), zscan deg p l k = some z → ∃ y, zscan deg p (l.take r) k = some y
  | [], p, k, z, r, h => by rw [List.take_nil, zscan]; exact ⟨_, rfl⟩
  | m :: l, p, k, z, 0, h => by rw [List.take_zero, zscan]; exact ⟨_, rfl⟩
  | m :: l, p, k, z, r + 1, h => by
    rw [zscan] at h
    rw [List.take_succ_cons, zscan]
    by_cases hp : p.any (fun q => decide (m ≤ q)) = true
    · rw [if_pos hp] at h; cases h
    · rw [if_neg hp] at h
      rw [if_neg hp]
      exact zscan_take deg l (some m) _ z r h
/-- a zone that is told: the marks up to there are reached, those behind it are not -/
theorem zone_ok {l : List Int} {deg : Int} (h : (zonep l deg).2 = 0) : ∃ z : Nat, (zonep l deg).1 = (z : Int) ∧ z ≤ l.length ∧ l.length ≤ 64 ∧ ∀ (i : Nat) (h : i < l.length), l[i] ≤ deg ↔ i < z := by
  unfold zonep at *
  by_cases h64 : 64 < l.length
  · rw [if_pos h64] at h; cases h
  · rw [if_neg h64] at h ⊢
    cases hz : zscan deg none l 0 with
    | none => rw [hz] at h; cases h
    | some z =>
      obtain ⟨_, j, hj, e, hs⟩ := zscan_spec deg l none 0 z hz
      rw [Nat.zero_add] at e
      subst e
      exact ⟨z, rfl, hj, by omega, hs⟩
theorem zone_two (l : List Int) (deg : Int) : (zonep l deg).2 = 0 ∨ (zonep l deg).2 = 1 := by
  unfold zonep
  split
  · exact Or.inr rfl
  · split
    · exact Or.inr rfl
    · exact Or.inl rfl
/-- a mark more is a zone more at most -/
theorem zone_take {l : List Int} {deg : Int} {z : Nat} (h : (zonep l deg).2 = 0) (hz : (zonep l deg).1 = (z : Int)) (k : Nat) (hk : k ≤ l.length) : zonep (l.take k) deg = (((min z k : Nat) : Int), 0) := by
  have hok := zone_ok h
  obtain ⟨z', e, h1, h2, h3⟩ := hok
  have e2 : z' = z := by rw [hz] at e; omega
  subst e2
  unfold zonep at h
  rw [if_neg (by omega)] at h
  cases hs : zscan deg none l 0 with
  | none => rw [hs] at h; cases h
  | some y =>
    obtain ⟨y', hy⟩ := zscan_take deg l none 0 y k hs
    obtain ⟨_, j, hj, ej, hsj⟩ := zscan_spec deg (l.take k) none 0 y' hy
    rw [Nat.zero_add] at ej
    subst ej
    have hlen : (l.take k).length = k := by rw [List.length_take]; omega
    rw [hlen] at hj
    have hmin : y' = min z' k := by
      have hall : ∀ i, i < k → (i < y' ↔ i < z') := fun i hi => by
        have h4 := hsj i (by omega)
        have h5 := h3 i (by omega)
        rw [List.getElem_take] at h4
        omega
      rcases Nat.lt_trichotomy y' (min z' k) with q | q | q
      · have := hall y' (by omega); omega
      · exact q
      · have := hall (min z' k) (by omega)
        omega
    unfold zonep
    rw [if_neg (by omega), hy, hmin]
/-- how many are no less -/
def cntge (d : Int) (l : List Int) : Nat := l.countP (fun x => decide (d ≤ x))
theorem cntge_snoc {l : List Int} {i : Nat} (d : Int) (hi : i < l.length) : cntge d (l.take (i + 1)) = cntge d (l.take i) + if d ≤ l[i] then 1 else 0 := by
  rw [List.take_add_one, List.getElem?_eq_getElem hi]
  unfold cntge
  rw [List.countP_append]
  simp [List.countP_cons]
theorem cnt_snoc {l : List Int} {i : Nat} (d : Int) (hi : i < l.length) : cntle d (l.take (i + 1)) = cntle d (l.take i) + if l[i] ≤ d then 1 else 0 := by
  rw [List.take_add_one, List.getElem?_eq_getElem hi]
  unfold cntle
  rw [List.countP_append]
  simp [List.countP_cons]
theorem cge_all {d : Int} : ∀ {l : List Int}, (∀ x ∈ l, d ≤ x) → cntge d l = l.length
  | [], _ => rfl
  | x :: l, h => by
    have h1 := h x (by simp)
    have h2 := cge_all (l := l) (fun y hy => h y (List.mem_cons_of_mem _ hy))
    unfold cntge at *
    rw [List.countP_cons_of_pos (by simpa using h1), h2]; rfl
theorem cge_le (d : Int) (l : List Int) : cntge d l ≤ l.length := List.countP_le_length
theorem cge_hi {l : List Int} {k : Nat} (hk : k < l.length) : l.length - k ≤ cntge ((srt l).getD k 0) l := by
  have hk' : k < (srt l).length := by rw [srt_len]; exact hk
  have e0 : cntge ((srt l).getD k 0) (srt l) = cntge ((srt l).getD k 0) l := List.Perm.countP_eq _ (srt_perm l)
  rw [← e0]
  have e : (srt l).getD k 0 = (srt l)[k] := by simp [List.getD, hk']
  rw [e]
  have hp := srt_pair l
  rw [List.pairwise_iff_getElem] at hp
  have h1 : cntge (srt l)[k] ((srt l).drop k) = l.length - k := by
    rw [cge_all, List.length_drop, srt_len]
    intro x hx
    obtain ⟨i, hi, rfl⟩ := List.getElem_of_mem hx
    rw [List.getElem_drop]
    rw [List.length_drop] at hi
    rcases Nat.eq_zero_or_pos i with q | q
    · subst q; exact Int.le_refl _
    · exact hp k (k + i) hk' (by omega) (by omega)
  have h2 : cntge (srt l)[k] (srt l) = cntge (srt l)[k] ((srt l).take k) + cntge (srt l)[k] ((srt l).drop k) := by
    unfold cntge
    rw [← List.countP_append, List.take_append_drop]
  omega
theorem srt_congr {l l' : List Int} (h : l.Perm l') : srt l = srt l' := by
  have h1 : (srt l).Perm (srt l') := ((srt_perm l).trans h).trans (srt_perm l').symm
  exact List.Perm.eq_of_pairwise (le := fun x y : Int => x ≤ y) (fun a b _ _ h1 h2 => Int.le_antisymm h1 h2) (srt_pair l) (srt_pair l') h1
theorem med_congr {l l' : List Int} (h : l.Perm l') : med l = med l' := by
  unfold med
  rw [h.length_eq, srt_congr h]
theorem med_err {l : List Int} : (med l).2 = 0 ∧ 0 < l.length ∧ l.length ≤ 4096 ∧ (med l).1 = (srt l).getD ((l.length - 1) / 2) 0 ∨ (med l).2 = 1 ∧ (l.length = 0 ∨ 4096 < l.length) := by
  unfold med
  by_cases h : l.length = 0 ∨ 4096 < l.length
  · rw [if_pos h]; exact Or.inr ⟨rfl, h⟩
  · rw [if_neg h]; exact Or.inl ⟨rfl, by omega, by omega, rfl⟩
theorem med_low {l : List Int} (h : 0 < l.length) : l.length ≤ 2 * cntle ((srt l).getD ((l.length - 1) / 2) 0) l := med_ex h
theorem med_high {l : List Int} (h : 0 < l.length) : l.length ≤ 2 * cntge ((srt l).getD ((l.length - 1) / 2) 0) l := by
  have hk : (l.length - 1) / 2 < l.length := by omega
  have := cge_hi hk
  omega
end Go.Proofs.YtgpapbpkcggolaaDoor
