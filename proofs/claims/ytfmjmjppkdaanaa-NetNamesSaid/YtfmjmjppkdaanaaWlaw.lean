/- Net: the worst of a sweep bounds its sizes; a shorter sweep's worst is not above; plain. -/
import Derived.Test.YtfmjmjppkdaanaaWorst2
namespace Go.Proofs.Ytfmjmjppkdaanaa
open Go.RowKit Go.BigFrame flt Ieee

/-- a class is a number's -/
def Nn (a : Option Nat) : Prop := ∀ x, a = some x → nn x
theorem nn_sz (z : Cx) : Nn (sz z) := fun x h => by
  unfold sz size op2 at h
  revert h
  split
  · exact fun h => bits_nn h
  · exact fun h => by cases h
theorem le_iff {a b : Option Nat} (ha : Nn a) (hb : Nn b) : le a b = true ↔ ∃ x y, a = some x ∧ b = some y ∧ key x ≤ key y := by
  unfold le
  cases a with
  | none => rw [ord_none]; simp
  | some x => cases b with
    | none => rw [ord_none']; simp
    | some y =>
      rw [ord_some (ha x rfl) (hb y rfl)]
      rcases Int.lt_trichotomy (key x) (key y) with h | h | h
      · rw [Int.compare_eq_lt.2 h]
        simp; omega
      · rw [h, Int.compare_eq_eq.2 rfl]
        simp
        exact Int.le_of_eq h
      · rw [Int.compare_eq_gt.2 h]
        simp; omega
theorem gt_iff {a b : Option Nat} (ha : Nn a) (hb : Nn b) : (ord a b == some .gt) = true ↔ ∃ x y, a = some x ∧ b = some y ∧ key y < key x := by
  cases a with
  | none => rw [ord_none]; simp
  | some x => cases b with
    | none => rw [ord_none']; simp
    | some y =>
      rw [ord_some (ha x rfl) (hb y rfl)]
      rcases Int.lt_trichotomy (key x) (key y) with h | h | h
      · rw [Int.compare_eq_lt.2 h]
        simp; omega
      · rw [h, Int.compare_eq_eq.2 rfl]
        simp
        exact Int.le_of_eq h
      · rw [Int.compare_eq_gt.2 h]
        simp; omega
theorem le_refl {a : Option Nat} (ha : Nn a) (h : a ≠ none) : le a a = true := by
  cases a with
  | none => exact absurd rfl h
  | some x => exact (le_iff ha ha).2 ⟨x, x, rfl, rfl, Int.le_refl _⟩
theorem le_trans {a b c : Option Nat} (ha : Nn a) (hb : Nn b) (hc : Nn c) (h1 : le a b = true) (h2 : le b c = true) : le a c = true := by
  obtain ⟨x, y, rfl, rfl, k1⟩ := (le_iff ha hb).1 h1
  obtain ⟨y', z, e, rfl, k2⟩ := (le_iff hb hc).1 h2
  cases e
  exact (le_iff ha hc).2 ⟨x, z, rfl, rfl, by omega⟩
theorem le_of_not_gt {a b : Option Nat} (ha : Nn a) (hb : Nn b) (h1 : a ≠ none) (h2 : b ≠ none) (h : ¬ (ord a b == some .gt) = true) : le a b = true := by
  cases a with
  | none => exact absurd rfl h1
  | some x => cases b with
    | none => exact absurd rfl h2
    | some y =>
      rw [gt_iff ha hb] at h
      refine (le_iff ha hb).2 ⟨x, y, rfl, rfl, ?_⟩
      rcases Int.lt_or_le (key y) (key x) with q | q
      · exact absurd ⟨x, y, rfl, rfl, q⟩ h
      · exact q
/-- what the worst is: one of the sizes -/
theorem wl_at (zs : List Cx) : ∀ (t i a : Nat), (wl zs t i a).2 = sz (zat zs (wl zs t i a).1) ∧ ((wl zs t i a).1 = a ∨ (i ≤ (wl zs t i a).1 ∧ (wl zs t i a).1 < i + t))
  | 0, _, _ => ⟨rfl, Or.inl rfl⟩
  | t + 1, i, a => by
    unfold wl
    split
    · rename_i h
      exact ⟨(Option.isNone_iff_eq_none.1 h).symm, Or.inr ⟨Nat.le_refl _, by (show i < i + (t + 1)); omega⟩⟩
    · split
      · obtain ⟨h1, h2⟩ := wl_at zs t (i + 1) i
        refine ⟨h1, Or.inr ?_⟩
        rcases h2 with h2 | h2 <;> omega
      · obtain ⟨h1, h2⟩ := wl_at zs t (i + 1) a
        refine ⟨h1, ?_⟩
        rcases h2 with h2 | h2
        · exact Or.inl h2
        · exact Or.inr (by omega)
/-- where it is a number, all are, and none is above -/
theorem wl_top (zs : List Cx) : ∀ (t i a : Nat), sz (zat zs a) ≠ none → (wl zs t i a).2 ≠ none → le (sz (zat zs a)) (wl zs t i a).2 = true ∧ ∀ j, i ≤ j → j < i + t → le (sz (zat zs j)) (wl zs t i a).2 = true
  | 0, _, a, ha, _ => ⟨le_refl (nn_sz _) ha, fun j h1 h2 => by omega⟩
  | t + 1, i, a, ha, h => by
    unfold wl at h ⊢
    by_cases hn : (sz (zat zs i)).isNone = true
    · rw [if_pos hn] at h
      exact absurd rfl h
    · rw [if_neg hn] at h ⊢
      have hi : sz (zat zs i) ≠ none := fun e => hn (by rw [e]; rfl)
      by_cases hg : (ord (sz (zat zs i)) (sz (zat zs a)) == some .gt) = true
      · rw [if_pos hg] at h ⊢
        obtain ⟨h1, h2⟩ := wl_top zs t (i + 1) i hi h
        have hai : le (sz (zat zs a)) (sz (zat zs i)) = true := by
          obtain ⟨x, y, e1, e2, k⟩ := (gt_iff (nn_sz _) (nn_sz _)).1 hg
          exact (le_iff (nn_sz _) (nn_sz _)).2 ⟨y, x, e2, e1, by omega⟩
        have hw : Nn (wl zs t (i + 1) i).2 := by rw [(wl_at zs t (i + 1) i).1]; exact nn_sz _
        refine ⟨le_trans (nn_sz _) (nn_sz _) hw hai h1, fun j j1 j2 => ?_⟩
        by_cases e : j = i
        · subst e; exact h1
        · exact h2 j (by omega) (by omega)
      · rw [if_neg hg] at h ⊢
        obtain ⟨h1, h2⟩ := wl_top zs t (i + 1) a ha h
        have hia := le_of_not_gt (nn_sz _) (nn_sz _) hi ha hg
        have hw : Nn (wl zs t (i + 1) a).2 := by rw [(wl_at zs t (i + 1) a).1]; exact nn_sz _
        refine ⟨h1, fun j j1 j2 => ?_⟩
        by_cases e : j = i
        · subst e; exact le_trans (nn_sz _) (nn_sz _) hw hia h1
        · exact h2 j (by omega) (by omega)
theorem worst_top {zs : List Cx} (h : (worst zs).2 ≠ none) : ∀ j, j < zs.length → le (sz (zat zs j)) (worst zs).2 = true := by
  intro j hj
  unfold worst at h ⊢
  obtain ⟨t, ht⟩ : ∃ t, zs.length = t + 1 := ⟨zs.length - 1, by omega⟩
  rw [ht] at h ⊢
  have ha : sz (zat zs 0) ≠ none := fun e => by
    unfold wl at h
    rw [if_pos (by rw [e]; rfl)] at h
    exact h rfl
  exact (wl_top zs (t + 1) 0 0 ha h).2 j (by omega) (by omega)
theorem worst_at {zs : List Cx} (h0 : 0 < zs.length) : ∃ j, j < zs.length ∧ (worst zs).2 = sz (zat zs j) := by
  obtain ⟨h1, h2⟩ := wl_at zs zs.length 0 0
  exact ⟨(worst zs).1, by unfold worst; rcases h2 with h2 | h2 <;> omega, h1⟩
theorem worst_nn (zs : List Cx) : Nn (worst zs).2 := by
  have h := (wl_at zs zs.length 0 0).1
  unfold worst
  rw [h]
  exact nn_sz _
theorem worst_part {zs ys : List Cx} (h0 : 0 < ys.length) (hle : ys.length ≤ zs.length) (h : ∀ j, j < ys.length → zat ys j = zat zs j) : (ord (worst ys).2 (worst zs).2 == some .gt) = false := by
  cases hg : (ord (worst ys).2 (worst zs).2 == some .gt)
  · rfl
  · exfalso
    obtain ⟨x, y, e1, e2, k⟩ := (gt_iff (worst_nn _) (worst_nn _)).1 hg
    obtain ⟨j, hj, e⟩ := worst_at h0
    have hb := worst_top (zs := zs) (by rw [e2]; exact Option.some_ne_none y) j (by omega)
    rw [← h j hj, ← e] at hb
    obtain ⟨x', y', q1, q2, q⟩ := (le_iff (worst_nn _) (worst_nn _)).1 hb
    rw [e1] at q1
    rw [e2] at q2
    cases q1; cases q2
    omega
theorem mt_iff (zs : List Cx) (T : Option Nat) : ∀ (t i : Nat), (mt zs T t i).1 = true ↔ ∀ j, i ≤ j → j < i + t → le (sz (zat zs j)) T = true
  | 0, _ => ⟨fun _ j h1 h2 => by omega, fun _ => rfl⟩
  | t + 1, i => by
    unfold mt
    by_cases h : le (sz (zat zs i)) T = true
    · rw [if_pos h, mt_iff zs T t (i + 1)]
      refine ⟨fun q j h1 h2 => ?_, fun q j h1 h2 => q j (by omega) (by omega)⟩
      by_cases e : j = i
      · subst e; exact h
      · exact q j (by omega) (by omega)
    · rw [if_neg h]
      exact ⟨fun q => Bool.noConfusion q, fun q => absurd (q i (Nat.le_refl _) (by omega)) h⟩
theorem meets_worst {zs : List Cx} {T : Option Nat} (hT : Nn T) (h0 : 0 < zs.length) : (meets zs T).1 = le (worst zs).2 T := by
  obtain ⟨j, hj, e⟩ := worst_at h0
  rw [Bool.eq_iff_iff]
  unfold meets
  rw [mt_iff]
  refine ⟨fun h => by rw [e]; exact h j (by omega) (by omega), fun h k h1 h2 => ?_⟩
  have hn : (worst zs).2 ≠ none := fun q => by
    rw [q] at h
    unfold le at h
    rw [ord_none] at h
    cases h
  exact le_trans (nn_sz _) (worst_nn _) hT (worst_top hn k (by omega)) h
theorem swn_at (F S : Option Nat) (l : List Part) : ∀ (n : Nat) {k : Nat}, k < n → zat (swn F S l n) k = lastz (rt F S k) l
  | 0, _, h => by omega
  | n + 1, k, h => by
    unfold zat swn
    rw [List.getD_eq_getElem?_getD]
    by_cases e : k = n
    · subst e
      rw [List.getElem?_append_right (by rw [swn_len]; omega), swn_len, Nat.sub_self]
      rfl
    · rw [List.getElem?_append_left (by rw [swn_len]; omega), ← List.getD_eq_getElem?_getD]
      exact swn_at F S l n (by omega)
theorem nn_op2 (op : BinOp) (a b : Option Nat) : Nn (op2 op a b) := fun x h => by
  unfold op2 at h
  revert h
  split
  · exact fun h => bits_nn h
  · exact fun h => by cases h
end Go.Proofs.Ytfmjmjppkdaanaa
