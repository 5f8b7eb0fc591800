/- Sensor: the median, by counting; plain. -/
import Derived.Test.YtgpapbpkcggolaaDoorSrt10
namespace Go.Proofs.YtgpapbpkcggolaaDoor

/-- how many are no greater -/
def cntle (d : Int) (l : List Int) : Nat := l.countP (fun x => decide (x ≤ d))
theorem cnt_all {d : Int} : ∀ {l : List Int}, (∀ x ∈ l, x ≤ d) → cntle d l = l.length
  | [], _ => rfl
  | x :: l, h => by
    have h1 := h x (by simp)
    have h2 := cnt_all (l := l) (fun y hy => h y (List.mem_cons_of_mem _ hy))
    unfold cntle at *
    rw [List.countP_cons_of_pos (by simpa using h1), h2]; rfl
theorem cnt_none {d : Int} : ∀ {l : List Int}, (∀ x ∈ l, ¬ x ≤ d) → cntle d l = 0
  | [], _ => rfl
  | x :: l, h => by
    have h1 := h x (by simp)
    have h2 := cnt_none (l := l) (fun y hy => h y (List.mem_cons_of_mem _ hy))
    unfold cntle at *
    rw [List.countP_cons_of_neg (by simpa using h1), h2]
theorem cnt_le (d : Int) (l : List Int) : cntle d l ≤ l.length := List.countP_le_length
theorem srt_perm (l : List Int) : (srt l).Perm l := List.mergeSort_perm _ _
theorem srt_len (l : List Int) : (srt l).length = l.length := (srt_perm l).length_eq
theorem cnt_srt (d : Int) (l : List Int) : cntle d (srt l) = cntle d l := List.Perm.countP_eq _ (srt_perm l)
theorem srt_pair (l : List Int) : (srt l).Pairwise (fun x y => x ≤ y) := by
  have h := List.pairwise_mergeSort (le := fun x y : Int => !Sort.ltInt y x) (fun a b c h1 h2 => by simp [Sort.ltInt] at *; omega) (fun a b => by simp [Sort.ltInt]; omega) l
  exact h.imp (fun {a b} h => by simpa [Sort.ltInt] using h)
theorem cnt_hi {l : List Int} {k : Nat} (hk : k < l.length) : k + 1 ≤ cntle ((srt l).getD k 0) l := by
  have hk' : k < (srt l).length := by rw [srt_len]; exact hk
  rw [← cnt_srt]
  have e : (srt l).getD k 0 = (srt l)[k] := by simp [List.getD, hk']
  rw [e]
  have hp := srt_pair l
  rw [List.pairwise_iff_getElem] at hp
  have h1 : cntle (srt l)[k] ((srt l).take (k + 1)) = k + 1 := by
    rw [cnt_all, List.length_take]
    · omega
    · intro x hx
      obtain ⟨i, hi, rfl⟩ := List.getElem_of_mem hx
      rw [List.getElem_take]
      rw [List.length_take] at hi
      rcases Nat.lt_or_ge i k with q | q
      · exact hp i k (by omega) hk' q
      · have : i = k := by omega
        subst this
        exact Int.le_refl _
  have h2 : cntle (srt l)[k] (srt l) = cntle (srt l)[k] ((srt l).take (k + 1)) + cntle (srt l)[k] ((srt l).drop (k + 1)) := by
    unfold cntle
    rw [← List.countP_append, List.take_append_drop]
  omega
theorem cnt_lo {l : List Int} {k : Nat} (hk : k < l.length) {d : Int} (hd : d < (srt l).getD k 0) : cntle d l ≤ k := by
  have hk' : k < (srt l).length := by rw [srt_len]; exact hk
  rw [← cnt_srt]
  have e : (srt l).getD k 0 = (srt l)[k] := by simp [List.getD, hk']
  rw [e] at hd
  have hp := srt_pair l
  rw [List.pairwise_iff_getElem] at hp
  have h1 : cntle d ((srt l).drop k) = 0 := by
    refine cnt_none fun x hx => ?_
    obtain ⟨i, hi, rfl⟩ := List.getElem_of_mem hx
    rw [List.getElem_drop]
    rw [List.length_drop] at hi
    rcases Nat.eq_zero_or_pos i with q | q
    · subst q
      simp only [Nat.add_zero]
      omega
    · have := hp k (k + i) hk' (by omega) (by omega)
      omega
  have h2 : cntle d (srt l) = cntle d ((srt l).take k) + cntle d ((srt l).drop k) := by
    unfold cntle
    rw [← List.countP_append, List.take_append_drop]
  have h3 := cnt_le d ((srt l).take k)
  rw [List.length_take] at h3
  omega
theorem srt_mem {l : List Int} {k : Nat} (hk : k < l.length) : (srt l).getD k 0 ∈ l := by
  have hk' : k < (srt l).length := by rw [srt_len]; exact hk
  have e : (srt l).getD k 0 = (srt l)[k] := by simp [List.getD, hk']
  rw [e]
  exact (srt_perm l).mem_iff.1 (List.getElem_mem hk')
/-- the least number than which half are no greater is the one in the middle -/
theorem med_least {l : List Int} {d : Int} (h0 : 0 < l.length) (h : l.length ≤ 2 * cntle d l) (hd : ∀ e, -128 ≤ e → e < d → 2 * cntle e l < l.length) (hb : ∀ x ∈ l, -128 ≤ x) : (srt l).getD ((l.length - 1) / 2) 0 = d := by
  have hk : (l.length - 1) / 2 < l.length := by omega
  rcases Int.lt_trichotomy ((srt l).getD ((l.length - 1) / 2) 0) d with q | q | q
  · have h1 := hd _ (hb _ (srt_mem hk)) q
    have h2 := cnt_hi hk
    omega
  · exact q
  · have h1 := cnt_lo hk q
    omega
theorem med_ex {l : List Int} (h0 : 0 < l.length) : l.length ≤ 2 * cntle ((srt l).getD ((l.length - 1) / 2) 0) l := by
  have hk : (l.length - 1) / 2 < l.length := by omega
  have h2 := cnt_hi hk
  omega
end Go.Proofs.YtgpapbpkcggolaaDoor
