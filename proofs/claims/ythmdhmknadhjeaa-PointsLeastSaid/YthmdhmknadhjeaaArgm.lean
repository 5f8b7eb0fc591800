/- Points: the best point draws least: on floats' classes. No program here. -/
import Derived.Test.YthmdhmknadhjeaaPwr
namespace Go.Proofs.Ythmdhmknadhjeaa
open flt Ieee

/-- a class of a word that is no NaN, or none -/
def okc (a : Option Nat) : Prop := ∀ x, a = some x → nn x
theorem okc_op2 (op : BinOp) (a b : Option Nat) : okc (op2 op a b) := fun x h => by
  unfold op2 at h
  split at h
  · exact bits_nn h
  · cases h
def eqc (a b : Option Nat) : Bool := ord a b == some .eq
theorem lt_none (b : Option Nat) : lt none b = false := by cases b <;> rfl
theorem lt_none' (b : Option Nat) : lt b none = false := by cases b <;> rfl
theorem eqc_none (b : Option Nat) : eqc none b = false := by cases b <;> rfl
theorem lt_key {x y : Nat} (hx : nn x) (hy : nn y) : lt (some x) (some y) = decide (key x < key y) := by
  unfold lt
  rw [ord_some hx hy]
  rcases Int.lt_trichotomy (key x) (key y) with q | q | q
  · have e : compare (key x) (key y) = .lt := by rw [Int.compare_eq_lt]; exact q
    rw [e, decide_eq_true q]; rfl
  · have e : compare (key x) (key y) = .eq := by rw [Int.compare_eq_eq]; exact q
    rw [e, decide_eq_false (by omega)]; rfl
  · have e : compare (key x) (key y) = .gt := by rw [Int.compare_eq_gt]; exact q
    rw [e, decide_eq_false (by omega)]; rfl
theorem gt_key {x y : Nat} (hx : nn x) (hy : nn y) : gt (some x) (some y) = decide (key y < key x) := by
  unfold gt
  rw [ord_some hx hy]
  rcases Int.lt_trichotomy (key x) (key y) with q | q | q
  · have e : compare (key x) (key y) = .lt := by rw [Int.compare_eq_lt]; exact q
    rw [e, decide_eq_false (by omega)]; rfl
  · have e : compare (key x) (key y) = .eq := by rw [Int.compare_eq_eq]; exact q
    rw [e, decide_eq_false (by omega)]; rfl
  · have e : compare (key x) (key y) = .gt := by rw [Int.compare_eq_gt]; exact q
    rw [e, decide_eq_true q]; rfl
theorem eqc_key {x y : Nat} (hx : nn x) (hy : nn y) : eqc (some x) (some y) = decide (key x = key y) := by
  unfold eqc
  rw [ord_some hx hy]
  rcases Int.lt_trichotomy (key x) (key y) with q | q | q
  · have e : compare (key x) (key y) = .lt := by rw [Int.compare_eq_lt]; exact q
    rw [e, decide_eq_false (by omega)]; rfl
  · have e : compare (key x) (key y) = .eq := by rw [Int.compare_eq_eq]; exact q
    rw [e, decide_eq_true q]; rfl
  · have e : compare (key x) (key y) = .gt := by rw [Int.compare_eq_gt]; exact q
    rw [e, decide_eq_false (by omega)]; rfl
theorem gt_lt {a b : Option Nat} (ha : okc a) (hb : okc b) : gt a b = lt b a := by
  cases a with
  | none => rw [lt_none']; rfl
  | some x =>
    cases b with
    | none => rfl
    | some y => rw [gt_key (ha x rfl) (hb y rfl), lt_key (hb y rfl) (ha x rfl)]
/-- what the point at k takes and draws -/
def tk (l : List (Int × Int)) (W : Option Nat) (k : Nat) : Option Nat := op2 .quo W (fi (l.getD k (0, 0)).1)
def dr (l : List (Int × Int)) (W F K : Option Nat) (k : Nat) : Option Nat := op2 .mul (pw (l.getD k (0, 0)).1 (l.getD k (0, 0)).2 F K) (tk l W k)
theorem okc_dr (l : List (Int × Int)) (W F K : Option Nat) (k : Nat) : okc (dr l W F K k) := okc_op2 _ _ _
theorem bst_succ (l : List (Int × Int)) (W T F K : Option Nat) (k : Nat) : bst l W T F K (k + 1) =
    if gt (tk l W k) T = true then bst l W T F K k
    else if (decide ((bst l W T F K k).1 < 0) || lt (dr l W F K k) (bst l W T F K k).2 || ((bst l W T F K k).2.isNone && !(dr l W F K k).isNone)) = true then ((k : Int), dr l W F K k) else bst l W T F K k := rfl
/-- where the search stands behind k points -/
structure Argm (l : List (Int × Int)) (W T F K : Option Nat) (k : Nat) (b : Int) (Z : Option Nat) : Prop where
  neg : b < 0 → ∀ i, i < k → gt (tk l W i) T = true
  pos : ¬ b < 0 → ∃ n : Nat, b = n ∧ n < k ∧ gt (tk l W n) T = false ∧ Z = dr l W F K n ∧
    ∀ i, i < k → gt (tk l W i) T = false → lt (dr l W F K i) Z = false ∧ (i < n → eqc (dr l W F K i) Z = false) ∧ (Z = none → dr l W F K i = none)
theorem argm (l : List (Int × Int)) (W T F K : Option Nat) : ∀ k, Argm l W T F K k (bst l W T F K k).1 (bst l W T F K k).2
  | 0 => ⟨fun _ i hi => absurd hi (by omega), fun h => absurd (show (-1 : Int) < 0 by decide) h⟩
  | k + 1 => by
    have I := argm l W T F K k
    rw [bst_succ]
    generalize bst l W T F K k = s at *
    obtain ⟨b, Z⟩ := s
    simp only at I ⊢
    by_cases hg : gt (tk l W k) T = true
    · rw [if_pos hg]
      refine ⟨fun hb i hi => ?_, fun hb => ?_⟩
      · by_cases e : i = k
        · subst e; exact hg
        · exact I.neg hb i (by omega)
      · obtain ⟨n, rfl, hn, h1, h2, h3⟩ := I.pos hb
        refine ⟨n, rfl, by omega, h1, h2, fun i hi ht => ?_⟩
        by_cases e : i = k
        · subst e; rw [hg] at ht; cases ht
        · exact h3 i (by omega) ht
    · rw [if_neg hg]
      have hg : gt (tk l W k) T = false := by cases e : gt (tk l W k) T <;> simp_all
      by_cases hb : b < 0
      · rw [if_pos (by rw [decide_eq_true hb]; rfl)]
        refine ⟨fun h => absurd h (by simp only; omega), fun _ => ⟨k, rfl, by omega, hg, rfl, fun i hi ht => ?_⟩⟩
        by_cases e : i = k
        · subst e
          refine ⟨?_, fun h => absurd h (by omega), fun h => h⟩
          cases hd : dr l W F K i with
          | none => exact lt_none _
          | some x => rw [lt_key (okc_dr l W F K i x hd) (okc_dr l W F K i x hd)]; simp
        · rw [I.neg hb i (by omega)] at ht; cases ht
      · obtain ⟨n, rfl, hn, h1, h2, h3⟩ := I.pos hb
        have hok : okc Z := by rw [h2]; exact okc_dr _ _ _ _ _
        rw [decide_eq_false hb, Bool.false_or]
        by_cases hc : (lt (dr l W F K k) Z || (Z.isNone && !(dr l W F K k).isNone)) = true
        · rw [if_pos hc]
          refine ⟨fun h => absurd h (by simp only; omega), fun _ => ⟨k, rfl, by omega, hg, rfl, fun i hi ht => ?_⟩⟩
          by_cases e : i = k
          · subst e
            refine ⟨?_, fun h => absurd h (by omega), fun h => h⟩
            cases hd : dr l W F K i with
            | none => exact lt_none _
            | some x => rw [lt_key (okc_dr l W F K i x hd) (okc_dr l W F K i x hd)]; simp
          · obtain ⟨g1, _, g3⟩ := h3 i (by omega) ht
            cases hi2 : dr l W F K i with
            | none => exact ⟨lt_none _, fun _ => eqc_none _, fun _ => rfl⟩
            | some x =>
              have nx := okc_dr l W F K i x hi2
              cases hk2 : dr l W F K k with
              | none =>
                rw [hk2] at hc
                simp [lt_none] at hc
              | some y =>
                have ny := okc_dr l W F K k y hk2
                cases hZ : Z with
                | none => rw [g3 hZ] at hi2; cases hi2
                | some z =>
                  have nz := hok z hZ
                  rw [hk2, hZ, lt_key ny nz] at hc
                  rw [hi2, hZ, lt_key nx nz] at g1
                  simp at hc g1
                  rw [lt_key nx ny, eqc_key nx ny]
                  refine ⟨decide_eq_false (by omega), fun _ => decide_eq_false (by omega), fun h => by cases h⟩
        · rw [if_neg hc]
          refine ⟨fun h => absurd h hb, fun _ => ⟨n, rfl, by omega, h1, h2, fun i hi ht => ?_⟩⟩
          by_cases e : i = k
          · subst e
            simp only [Bool.or_eq_true, Bool.and_eq_true, Bool.not_eq_true', not_or, not_and] at hc
            refine ⟨by cases q : lt (dr l W F K i) Z <;> simp_all, fun h => absurd h (by omega), fun h => ?_⟩
            have h : Z = none := h
            have := hc.2 (by rw [h]; rfl)
            cases q : dr l W F K i with
            | none => rfl
            | some x => rw [q] at this; simp at this
          · exact h3 i (by omega) ht
end Go.Proofs.Ythmdhmknadhjeaa
