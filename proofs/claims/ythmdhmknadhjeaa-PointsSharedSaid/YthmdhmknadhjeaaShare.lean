/- Points: the plain law of PointsShared. -/
import Derived.Test.YthmdhmknadhjeaaSides
namespace Go.Proofs.Ythmdhmknadhjeaa
open Go.RowKit Go.BigFrame

theorem votef_all : ∀ (tt : List (List Pt)) (rs : List Int) (v : Int) (ps : List Int) (hl : rs.length = tt.length), (∀ i (h : i < tt.length), 0 ≤ fst 0 tt[i] (rs[i]'(by omega))) →
    ∃ V Q, votef v ps tt rs = some (V, ps ++ Q) ∧ Q.length = tt.length ∧ (∀ i (h : i < tt.length), Q[i]? = some (fst 0 tt[i] (rs[i]'(by omega)))) ∧ v ≤ V ∧ (∀ i (h : i < tt.length), votef.pt2 tt[i] (fst 0 tt[i] (rs[i]'(by omega))) ≤ V) ∧
      (V = v ∨ ∃ i, ∃ h : i < tt.length, V = votef.pt2 tt[i] (fst 0 tt[i] (rs[i]'(by omega))))
  | [], rs, v, ps, hl, _ => ⟨v, [], by cases rs <;> simp [votef], rfl, fun i h => by simp at h, Int.le_refl _, fun i h => by simp at h, Or.inl rfl⟩
  | t :: tt, [], v, ps, hl, _ => by simp at hl
  | t :: tt, r :: rs, v, ps, hl, hf => by
    have h0 : 0 ≤ fst 0 t r := hf 0 (by simp)
    obtain ⟨V, Q, e, hq, hQ, hv, hm, ha⟩ := votef_all tt rs (max v (votef.pt2 t (fst 0 t r))) (ps ++ [fst 0 t r]) (by simpa using hl) (fun i h => hf (i + 1) (by simpa using h))
    refine ⟨V, fst 0 t r :: Q, ?_, by simp [hq], fun i h => ?_, by omega, fun i h => ?_, ?_⟩
    · show (if fst 0 t r < 0 then none else votef (max v (votef.pt2 t (fst 0 t r))) (ps ++ [fst 0 t r]) tt rs) = _
      rw [if_neg (by omega), e, List.append_assoc]; rfl
    · cases i with
      | zero => rfl
      | succ i => exact hQ i (by simpa using h)
    · cases i with
      | zero => show votef.pt2 t (fst 0 t r) ≤ V; omega
      | succ i => exact hm i (by simpa using h)
    · rcases ha with q | ⟨i, h, q⟩
      · rcases Int.lt_or_le v (votef.pt2 t (fst 0 t r)) with z | z
        · exact Or.inr ⟨0, by simp, by show V = votef.pt2 t (fst 0 t r); omega⟩
        · exact Or.inl (by omega)
      · exact Or.inr ⟨i + 1, by simpa using h, q⟩
/-- the rates that are asked -/
def askR (tt : List (List Pt)) (rs : List Int) (i : Nat) : Int :=
  if i < rs.length then (rs.getD i 0) % 16777216 % (tp (tt.getD i []) ((tame (tt.getD i [])).length - 1)).1 else (tp (tt.getD i []) ((tame (tt.getD i [])).length - 1)).1
def askRs (tt : List (List Pt)) (rs : List Int) (m : Nat) : List Int := (List.range m).map (askR tt rs)
theorem askRs_succ (tt : List (List Pt)) (rs : List Int) (m : Nat) : askRs tt rs (m + 1) = askRs tt rs m ++ [askR tt rs m] := by simp [askRs, List.range_succ]
theorem askRs_len (tt : List (List Pt)) (rs : List Int) (m : Nat) : (askRs tt rs m).length = m := by simp [askRs]
theorem askRs_at (tt : List (List Pt)) (rs : List Int) (m i : Nat) (h : i < (askRs tt rs m).length) : (askRs tt rs m)[i] = askR tt rs i := by simp [askRs]
theorem askR_le (tt : List (List Pt)) (rs : List Int) (i : Nat) : askR tt rs i ≤ (tp (tt.getD i []) ((tame (tt.getD i [])).length - 1)).1 := by
  have := tp_range (tt.getD i []) ((tame (tt.getD i [])).length - 1)
  unfold askR
  split
  · have := Int.emod_lt_of_pos (rs.getD i 0 % 16777216) (show 0 < (tp (tt.getD i []) ((tame (tt.getD i [])).length - 1)).1 by omega)
    omega
  · exact Int.le_refl _
/-- what PointsShared finds -/
theorem share_plain (tt : List (List Pt)) (rs : List Int) (m : Nat) (hm : m ≤ tt.length) (h20 : m ≤ 20) :
    ∃ V Q, vote ((tt.take m).map tame) (askRs tt rs m) = (V, Q, 0) ∧ Q.length = m ∧ (m = 0 → V = 0) ∧ 0 ≤ V ∧ V ≤ 1000000 ∧
      (∀ i (h : i < m), ∃ f : Nat, f < (tame (tt[i]'(by omega))).length ∧ Q[i]? = some (f : Int) ∧ forp (tame (tt[i]'(by omega))) (askR tt rs i) = ((f : Int), 0) ∧ (tp (tt[i]'(by omega)) f).2 ≤ V ∧
        ∀ v, safep (tame (tt[i]'(by omega))) (askR tt rs i) v = (decide ((tp (tt[i]'(by omega)) f).2 ≤ v), 0)) ∧
      (0 < m → ∃ i, ∃ h : i < m, ∀ v, safep (tame (tt[i]'(by omega))) (askR tt rs i) v = (decide (V ≤ v), 0)) := by
  have hl : ((tt.take m).map tame).length = m := by simp; omega
  have hat : ∀ i (h : i < ((tt.take m).map tame).length), ((tt.take m).map tame)[i] = tame (tt[i]'(by omega)) := fun i h => by simp
  have hg : ∀ i (h : i < tt.length), tt.getD i [] = tt[i] := fun i h => by simp [List.getD, h]
  have F : ∀ i (h : i < m), ∃ f : Nat, f < (tame (tt[i]'(by omega))).length ∧ fst 0 (tame (tt[i]'(by omega))) (askR tt rs i) = f ∧ forp (tame (tt[i]'(by omega))) (askR tt rs i) = ((f : Int), 0) := fun i h => by
    rcases for_tame (tt[i]'(by omega)) (askR tt rs i) with ⟨f, h1, h2, h3, _⟩ | ⟨h1, _, h3⟩
    · exact ⟨f, h1, h2, h3⟩
    · have h4 := askR_le tt rs i
      rw [hg i (by omega)] at h4
      have := h3 ((tame (tt[i]'(by omega))).length - 1) (by have := tame_len (tt[i]'(by omega)); omega)
      omega
  obtain ⟨V, Q, e, hq, hQ, hv, hmx, ha⟩ := votef_all ((tt.take m).map tame) (askRs tt rs m) 0 [] (by rw [askRs_len, hl]) (fun i h => by
    rw [hat, askRs_at]
    obtain ⟨f, _, h2, _⟩ := F i (by omega)
    omega)
  have hp2 : ∀ i (h : i < m), ∀ f : Nat, f < (tame (tt[i]'(by omega))).length → votef.pt2 (tame (tt[i]'(by omega))) (f : Int) = (tp (tt[i]'(by omega)) f).2 := fun i h f hf => by
    unfold votef.pt2; simp [List.getD, hf, tame_at]
  have hsafe : ∀ i (h : i < m), ∀ f : Nat, f < (tame (tt[i]'(by omega))).length → fst 0 (tame (tt[i]'(by omega))) (askR tt rs i) = f → ∀ v, safep (tame (tt[i]'(by omega))) (askR tt rs i) v = (decide ((tp (tt[i]'(by omega)) f).2 ≤ v), 0) := fun i h f hf h2 v => by
    unfold safep
    rw [if_neg (by rw [tame_check]; simp), if_neg (by omega), h2]
    simp [List.getD, hf, tame_at]
  have hV : V = 0 ∨ ∃ i, ∃ h : i < m, ∃ f : Nat, f < (tame (tt[i]'(by omega))).length ∧ fst 0 (tame (tt[i]'(by omega))) (askR tt rs i) = f ∧ V = (tp (tt[i]'(by omega)) f).2 := by
    rcases ha with q | ⟨i, h, q⟩
    · exact Or.inl q
    · rw [hat, askRs_at] at q
      obtain ⟨f, h1, h2, _⟩ := F i (by omega)
      rw [h2, hp2 i (by omega) f h1] at q
      exact Or.inr ⟨i, by omega, f, h1, h2, q⟩
  have hall : allTab ((tt.take m).map tame) = true := List.all_eq_true.2 fun t ht => by
    obtain ⟨t', _, rfl⟩ := List.mem_map.1 ht
    unfold tab; rw [tame_check]; rfl
  refine ⟨V, Q, ?_, by omega, fun h0 => ?_, hv, ?_, fun i h => ?_, fun h0 => ?_⟩
  · unfold vote
    rw [if_neg (by rw [askRs_len, hl]; omega), if_neg (by rw [hall]; decide), e]
    rfl
  · rcases hV with q | ⟨i, h, _⟩
    · exact q
    · omega
  · rcases hV with q | ⟨i, h, f, h1, _, q⟩
    · omega
    · have := tp_range (tt[i]'(by omega)) f
      have := tame_len (tt[i]'(by omega))
      omega
  · obtain ⟨f, h1, h2, h3⟩ := F i h
    have q1 := hQ i (by omega)
    have q2 := hmx i (by omega)
    rw [hat, askRs_at, h2] at q1
    rw [hat, askRs_at, h2, hp2 i h f h1] at q2
    exact ⟨f, h1, q1, h3, q2, hsafe i h f h1 h2⟩
  · rcases hV with q | ⟨i, h, f, h1, h2, q⟩
    · exfalso
      obtain ⟨f, h1, h2, h3⟩ := F 0 h0
      have q2 := hmx 0 (by omega)
      rw [hat, askRs_at, h2, hp2 0 h0 f h1] at q2
      have := tp_range (tt[0]'(by omega)) f
      omega
    · exact ⟨i, h, fun v => by rw [q]; exact hsafe i h f h1 h2 v⟩
end Go.Proofs.Ythmdhmknadhjeaa
