/- Points: Between. -/
import Derived.Test.YthmdhmknadhjeaaDiv
import Derived.Test.YthmdhmknadhjeaaAsk2
import Derived.Test.YthmdhmknadhjeaaChange
import Derived.Deep.Cut
namespace Go.Proofs.Ythmdhmknadhjeaa
open Go.RowKit Go.BigFrame

theorem chk_rise : ∀ (l : List Pt) (k : Nat) (a : Pt), (chk k a l).2 = 0 → ∀ i (h : i + 1 < l.length), l[i].1 < l[i + 1].1 ∧ l[i].2 ≤ l[i + 1].2
  | [], _, _, _, i, h => by simp at h
  | [p], _, _, _, i, h => by simp at h
  | p :: q :: t, k, a, hc, i, h => by
    unfold chk at hc
    by_cases hg : good k a p
    · rw [if_pos hg] at hc
      cases i with
      | zero =>
        unfold chk at hc
        by_cases hg2 : good (k + 1) p q
        · exact ⟨hg2.2.1, hg2.2.2.2.2.1⟩
        · rw [if_neg hg2] at hc; simp at hc
      | succ i => exact chk_rise (q :: t) (k + 1) p hc i (by simpa using h)
    · rw [if_neg hg] at hc; simp at hc
theorem tab_rise {l : List Pt} (h : (check l).2 = 0) (i : Nat) (hi : i + 1 < l.length) : l[i].1 < l[i + 1].1 ∧ l[i].2 ≤ l[i + 1].2 := by
  unfold check at h
  by_cases h0 : l = []
  · rw [if_pos h0] at h; simp at h
  · rw [if_neg h0] at h
    exact chk_rise l 0 (0, 0) h i hi
theorem fst_at : ∀ (l : List Pt) (r : Int) (k i : Nat), fst k l r = ((k + i : Nat) : Int) → ∃ h : i < l.length, r ≤ l[i].1 ∧ ∀ j (hj : j < i), l[j].1 < r
  | [], r, k, i, h => by unfold fst at h; omega
  | p :: t, r, k, i, h => by
    unfold fst at h
    by_cases hp : r ≤ p.1
    · rw [if_pos hp] at h
      obtain rfl : i = 0 := by omega
      exact ⟨by simp, hp, fun j hj => by omega⟩
    · rw [if_neg hp] at h
      cases i with
      | zero =>
        exfalso
        rcases fst_range t r (k + 1) with q | ⟨j, h1, h2, _⟩ <;> omega
      | succ i =>
        obtain ⟨h1, h2, h3⟩ := fst_at t r (k + 1) i (by rw [h]; congr 1; omega)
        refine ⟨by simpa using h1, h2, fun j hj => ?_⟩
        cases j with
        | zero => show p.1 < r; omega
        | succ j => exact h3 j (by omega)

def cdv (x y : Int) : Int := (x + y - 1) / y
def btw (l : List Pt) (r : Int) : Int × Int :=
  if (check l).2 ≠ 0 then (0, 280)
  else if fst 0 l r < 0 ∨ r < (l.getD 0 (0, 0)).1 then (0, 6)
  else if (pt l (fst 0 l r)).1 = r then ((pt l (fst 0 l r)).2, 0)
  else ((pt l (fst 0 l r - 1)).2 + cdv (((pt l (fst 0 l r)).2 - (pt l (fst 0 l r - 1)).2) * (r - (pt l (fst 0 l r - 1)).1)) ((pt l (fst 0 l r)).1 - (pt l (fst 0 l r - 1)).1), 0)
/-- how Between stands: the place, and what lies there -/
inductive Bt (l : List Pt) (r : Int) : Prop
  | bad (h : (check l).2 ≠ 0) (e : btw l r = (0, 280))
  | none (h : (check l).2 = 0) (hn : fst 0 l r < 0) (hl : 0 < l.length) (e : btw l r = (0, 6))
  | low (h : (check l).2 = 0) (i : Nat) (hi : fst 0 l r = i) (hl : i < l.length) (h0 : r < l[0].1) (e : btw l r = (0, 6))
  | at_ (h : (check l).2 = 0) (i : Nat) (hi : fst 0 l r = i) (hl : i < l.length) (h0 : l[0].1 ≤ r) (he : l[i].1 = r) (e : btw l r = (l[i].2, 0))
  | mid (h : (check l).2 = 0) (i : Nat) (hi : fst 0 l r = (i + 1 : Nat)) (hl : i + 1 < l.length) (h0 : l[0].1 ≤ r) (h1 : l[i].1 < r) (h2 : r < l[i + 1].1)
      (e : btw l r = (l[i].2 + cdv ((l[i + 1].2 - l[i].2) * (r - l[i].1)) (l[i + 1].1 - l[i].1), 0))
theorem pt_at {l : List Pt} {i : Nat} (h : i < l.length) : pt l (i : Int) = l[i] := by unfold pt; simp [List.getD, h]
theorem bt_cases (l : List Pt) (r : Int) : Bt l r := by
  by_cases hc : (check l).2 = 0
  case neg => exact .bad hc (by unfold btw; rw [if_pos hc])
  have hl := (tab_range hc).2.2
  have hg0 : l.getD 0 (0, 0) = l[0] := by simp [List.getD, hl]
  by_cases hn : fst 0 l r < 0
  · exact .none hc hn hl (by unfold btw; rw [if_neg (by simp [hc]), if_pos (Or.inl hn)])
  obtain ⟨i, hi⟩ : ∃ i : Nat, fst 0 l r = i := ⟨(fst 0 l r).toNat, by omega⟩
  obtain ⟨hil, h1, h2⟩ := fst_at l r 0 i (by rw [hi]; simp)
  by_cases h0 : r < l[0].1
  · exact .low hc i hi hil h0 (by unfold btw; rw [if_neg (by simp [hc]), if_pos (Or.inr (by rw [hg0]; exact h0))])
  by_cases he : l[i].1 = r
  · exact .at_ hc i hi hil (by omega) he (by unfold btw; rw [if_neg (by simp [hc]), if_neg (by rw [hg0]; omega), hi, pt_at hil, if_pos he])
  · cases i with
    | zero => exact absurd h1 (by omega)
    | succ i =>
      refine .mid hc i hi hil (by omega) (h2 i (by omega)) (by omega) ?_
      unfold btw
      rw [if_neg (by simp [hc]), if_neg (by rw [hg0]; omega), hi, pt_at hil, if_neg he, show ((i + 1 : Nat) : Int) - 1 = (i : Int) by omega, pt_at (by omega)]
end Go.Proofs.Ythmdhmknadhjeaa
