/- Points: the plain law of PointsSides. -/
import Derived.Test.YthmdhmknadhjeaaNever
namespace Go.Proofs.Ythmdhmknadhjeaa
open Go.RowKit Go.BigFrame

theorem fst_neg : ∀ (l : List Pt) (r : Int) (k : Nat), fst k l r < 0 → ∀ i (h : i < l.length), l[i].1 < r
  | [], _, _, _, i, h => by simp at h
  | p :: t, r, k, h, i, hi => by
    unfold fst at h
    by_cases hp : r ≤ p.1
    · rw [if_pos hp] at h; omega
    · rw [if_neg hp] at h
      cases i with
      | zero => show p.1 < r; omega
      | succ i => exact fst_neg t r (k + 1) h i (by simpa using hi)
theorem tp_le (l : List Pt) {i j : Nat} (h : i ≤ j) : (tp l i).1 ≤ (tp l j).1 ∧ (tp l i).2 ≤ (tp l j).2 := by
  rcases Nat.lt_or_ge i j with q | q
  · have := tp_lt l q; omega
  · obtain rfl : i = j := by omega
    exact ⟨Int.le_refl _, Int.le_refl _⟩
theorem for_tame (l : List Pt) (r : Int) :
    (∃ f : Nat, f < (tame l).length ∧ fst 0 (tame l) r = f ∧ forp (tame l) r = ((f : Int), 0) ∧ ∀ k, k < (tame l).length → (f ≤ k ↔ r ≤ (tp l k).1)) ∨
    (fst 0 (tame l) r < 0 ∧ forp (tame l) r = (0, 6) ∧ ∀ k, k < (tame l).length → (tp l k).1 < r) := by
  have hc : ¬ (check (tame l)).2 ≠ 0 := by rw [tame_check]; simp
  by_cases hn : fst 0 (tame l) r < 0
  · refine Or.inr ⟨hn, by unfold forp; rw [if_neg hc, if_pos hn], fun k hk => ?_⟩
    have := fst_neg _ _ _ hn k hk
    rwa [tame_at] at this
  · obtain ⟨f, hf⟩ : ∃ f : Nat, fst 0 (tame l) r = f := ⟨(fst 0 (tame l) r).toNat, by omega⟩
    obtain ⟨h1, h2, h3⟩ := fst_at (tame l) r 0 f (by rw [hf]; simp)
    rw [tame_at] at h2
    refine Or.inl ⟨f, h1, hf, by unfold forp; rw [if_neg hc, if_neg hn, hf], fun k hk => ⟨fun q => ?_, fun q => ?_⟩⟩
    · have := (tp_le l q).1; omega
    · rcases Nat.lt_or_ge k f with q2 | q2
      · have := h3 k q2; rw [tame_at] at this; omega
      · exact q2
theorem lst_spec (l : List Pt) (v : Int) : ∀ m, m ≤ l.length → (lst l v m = -1 ∧ ∀ k (_ : k < m) (h : k < l.length), v < l[k].2) ∨ (∃ u : Nat, lst l v m = u ∧ u < m ∧ (∃ h : u < l.length, l[u].2 ≤ v) ∧ ∀ k (_ : u < k) (_ : k < m) (h : k < l.length), v < l[k].2)
  | 0, _ => Or.inl ⟨rfl, fun k h => by omega⟩
  | m + 1, hm => by
    have hg : l.getD m (0, 0) = l[m] := by simp [List.getD, show m < l.length by omega]
    by_cases hv : l[m].2 ≤ v
    · refine Or.inr ⟨m, by unfold lst; rw [hg, if_pos hv], by omega, ⟨by omega, hv⟩, fun k h1 h2 => by omega⟩
    · have e : lst l v (m + 1) = lst l v m := by show (if _ then _ else _) = _; rw [hg, if_neg hv]
      rw [e]
      rcases lst_spec l v m (by omega) with ⟨h1, h2⟩ | ⟨u, h1, h2, h3, h4⟩
      · refine Or.inl ⟨h1, fun k hk h => ?_⟩
        rcases Nat.lt_or_ge k m with q | q
        · exact h2 k q h
        · obtain rfl : k = m := by omega
          omega
      · refine Or.inr ⟨u, h1, by omega, h3, fun k h5 h6 h => ?_⟩
        rcases Nat.lt_or_ge k m with q | q
        · exact h4 k h5 q h
        · obtain rfl : k = m := by omega
          omega
theorem und_tame (l : List Pt) (v : Int) :
    (∃ u : Nat, u < (tame l).length ∧ und (tame l) v = ((u : Int), 0) ∧ ∀ k, k < (tame l).length → (k ≤ u ↔ (tp l k).2 ≤ v)) ∨
    (und (tame l) v = (0, 6) ∧ ∀ k, k < (tame l).length → v < (tp l k).2) := by
  have hc : ¬ (check (tame l)).2 ≠ 0 := by rw [tame_check]; simp
  rcases lst_spec (tame l) v _ (Nat.le_refl _) with ⟨h1, h2⟩ | ⟨u, h1, h2, ⟨h3, h5⟩, h4⟩
  · refine Or.inr ⟨by unfold und; rw [if_neg hc, h1, if_pos (by decide)], fun k hk => ?_⟩
    have := h2 k hk hk
    rwa [tame_at] at this
  · rw [tame_at] at h5
    refine Or.inl ⟨u, h2, by unfold und; rw [if_neg hc, h1, if_neg (by omega)], fun k hk => ⟨fun q => ?_, fun q => ?_⟩⟩
    · have := (tp_le l q).2; omega
    · rcases Nat.lt_or_ge u k with q2 | q2
      · have := h4 k q2 hk hk; rw [tame_at] at this; omega
      · exact q2
theorem btw_at (l : List Pt) {k : Nat} (hk : k < (tame l).length) : btw (tame l) (tp l k).1 = ((tp l k).2, 0) := by
  have hf := tame_fst l hk
  have h0 : 0 < (tame l).length := by omega
  have hle := (tp_le l (Nat.zero_le k)).1
  cases bt_cases (tame l) (tp l k).1 with
  | bad h e => exact absurd (by rw [tame_check]) h
  | none h hn hl e => omega
  | low h i hi hl h0' e => rw [tame_at] at h0'; omega
  | at_ h i hi hl h0' he e =>
    obtain rfl : i = k := by omega
    rw [e, tame_at]
  | mid h i hi hl h0' h1 h2 e =>
    obtain rfl : k = i + 1 := by omega
    rw [tame_at] at h2
    omega
theorem cdv_range {d x s : Int} (hs : 1 ≤ s) (hd : 0 ≤ d) (hx : 0 ≤ x) (hxs : x ≤ s) : 0 ≤ cdv (d * x) s ∧ cdv (d * x) s ≤ d := by
  have h1 : 0 ≤ d * x := Int.mul_nonneg hd hx
  have h2 : d * x ≤ d * s := Int.mul_le_mul_of_nonneg_left hxs hd
  unfold cdv
  refine ⟨Int.ediv_nonneg (by omega) (by omega), ?_⟩
  have : d * x + s - 1 < (d + 1) * s := by rw [Int.add_mul]; omega
  have := Int.ediv_lt_of_lt_mul (by omega) this
  omega
theorem cdv_mono {a b s : Int} (hs : 1 ≤ s) (h : a ≤ b) : cdv a s ≤ cdv b s := by
  unfold cdv
  exact Int.ediv_le_ediv (by omega) (by omega)
/-- what Between says of a tame table -/
theorem btw_tame (l : List Pt) (r : Int) :
    ((btw (tame l) r).2 = 0 ∧ (tp l 0).1 ≤ r ∧ r ≤ (tp l ((tame l).length - 1)).1 ∧ ∃ f : Nat, fst 0 (tame l) r = f ∧ f < (tame l).length ∧ (btw (tame l) r).1 ≤ (tp l f).2 ∧ (0 < f → (tp l (f - 1)).2 ≤ (btw (tame l) r).1)) ∨
    ((btw (tame l) r).2 = 6 ∧ ¬ ((tp l 0).1 ≤ r ∧ r ≤ (tp l ((tame l).length - 1)).1)) := by
  have hlen := tame_len l
  cases bt_cases (tame l) r with
  | bad h e => exact absurd (by rw [tame_check]) h
  | none h hn hl e =>
    have := fst_neg _ _ _ hn ((tame l).length - 1) (by omega)
    rw [tame_at] at this
    exact Or.inr ⟨by rw [e], by omega⟩
  | low h i hi hl h0' e =>
    rw [tame_at] at h0'
    exact Or.inr ⟨by rw [e], by omega⟩
  | at_ h i hi hl h0' he e =>
    rw [tame_at] at h0' he
    have h1 := (tp_le l (show i ≤ (tame l).length - 1 by omega)).1
    refine Or.inl ⟨by rw [e], h0', by omega, i, hi, hl, by rw [e, tame_at]; exact Int.le_refl _, fun h2 => ?_⟩
    rw [e, tame_at]
    exact (tp_le l (by omega)).2
  | mid h i hi hl h0' h1 h2 e =>
    rw [tame_at] at h0' h1 h2
    have h3 := (tp_le l (show i + 1 ≤ (tame l).length - 1 by omega)).1
    have hs := tp_step l i
    simp only [tame_at] at e
    have hcd := cdv_range (d := (tp l (i + 1)).2 - (tp l i).2) (x := r - (tp l i).1) (s := (tp l (i + 1)).1 - (tp l i).1) (by omega) (by omega) (by omega) (by omega)
    refine Or.inl ⟨by rw [e], h0', by omega, i + 1, hi, hl, by rw [e]; show (tp l i).2 + _ ≤ _; omega, fun _ => by rw [e]; show (tp l i).2 ≤ (tp l i).2 + _; omega⟩
theorem btw_mono (l : List Pt) (r : Int) (h1 : (btw (tame l) r).2 = 0) (h2 : (btw (tame l) (r + 1)).2 = 0) : (btw (tame l) r).1 ≤ (btw (tame l) (r + 1)).1 := by
  have b1 := btw_tame l r
  have b2 := btw_tame l (r + 1)
  rcases b1 with ⟨_, _, _, f, hf, hfl, ha, _⟩ | ⟨q, _⟩
  case inr => omega
  rcases b2 with ⟨_, _, _, g, hg, hgl, _, hb⟩ | ⟨q, _⟩
  case inr => omega
  obtain ⟨_, f1, f2⟩ := fst_at (tame l) r 0 f (by rw [hf]; simp)
  obtain ⟨_, g1, g2⟩ := fst_at (tame l) (r + 1) 0 g (by rw [hg]; simp)
  rw [tame_at] at f1 g1
  have hfg : f ≤ g := by
    rcases Nat.lt_or_ge g f with q | q
    · have := f2 g q; rw [tame_at] at this; omega
    · exact q
  rcases Nat.lt_or_ge f g with q | q
  · have h3 := hb (by omega)
    have h4 := (tp_le l (show f ≤ g - 1 by omega)).2
    omega
  · obtain rfl : f = g := by omega
    cases bt_cases (tame l) r with
    | bad h e => exact absurd (by rw [tame_check]) h
    | none h hn hl e => rw [e] at h1; cases h1
    | low h i hi hl h0' e => rw [e] at h1; cases h1
    | at_ h i hi hl h0' he e =>
      obtain rfl : i = f := by omega
      rw [tame_at] at he
      omega
    | mid h i hi hl h0' m1 m2 e =>
      obtain rfl : f = i + 1 := by omega
      rw [tame_at] at m1 m2
      simp only [tame_at] at e
      have hs := tp_step l i
      cases bt_cases (tame l) (r + 1) with
      | bad h e' => exact absurd (by rw [tame_check]) h
      | none h hn hl e' => rw [e'] at h2; cases h2
      | low h j hj hl h0' e' => rw [e'] at h2; cases h2
      | at_ h j hj hl h0' he e' =>
        obtain rfl : j = i + 1 := by omega
        rw [e', tame_at]
        exact ha
      | mid h j hj hl h0' n1 n2 e' =>
        obtain rfl : j = i := by omega
        simp only [tame_at] at e'
        rw [e, e']
        show (tp l j).2 + _ ≤ (tp l j).2 + _
        have : ((tp l (j + 1)).2 - (tp l j).2) * (r - (tp l j).1) ≤ ((tp l (j + 1)).2 - (tp l j).2) * (r + 1 - (tp l j).1) := Int.mul_le_mul_of_nonneg_left (by omega) (by omega)
        have := cdv_mono (s := (tp l (j + 1)).1 - (tp l j).1) (by omega) this
        omega
end Go.Proofs.Ythmdhmknadhjeaa
