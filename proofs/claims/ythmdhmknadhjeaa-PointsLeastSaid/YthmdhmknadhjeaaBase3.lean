/- Points: bad, may, first. -/
import Derived.Test.YthmdhmknadhjeaaBase2
namespace Go.Proofs.Ythmdhmknadhjeaa
open Go.RowKit

theorem chk_two (k : Nat) (a : Pt) (l : List Pt) : ∃ i, chk k a l = (i, 280) ∨ chk k a l = (0, 0) := by
  induction l generalizing k a with
  | nil => exact ⟨0, Or.inr rfl⟩
  | cons p t ih =>
    unfold chk
    split
    · exact ih _ _
    · exact ⟨_, Or.inl rfl⟩
theorem check_two (l : List Pt) : (check l).2 = 280 ∨ check l = (0, 0) := by
  unfold check
  split
  · exact Or.inl rfl
  · obtain ⟨i, h | h⟩ := chk_two 0 (0, 0) l
    · rw [h]; exact Or.inl rfl
    · exact Or.inr h
/-- is it a table? -/
def tab (l : List Pt) : Bool := decide ((check l).2 = 0)

theorem bad_any (l : List Pt) (A : Option Addr) (c : Nat) (w : World) (h : Pts w A l) :
    Calls Try.prog 41 #[.slice A l.length c] w fun e w' => e = .returned (.int .i64 (check l).2) ∧ Below w.heap.size w w' := by
  go_enter Try.func41, Try.ntmps41
  go_wp2_with fail
  refine (check_any l A c _ h).mono ?_
  rintro e w1 ⟨rfl, hb⟩
  go_wp2
  go_ret
  exact ⟨rfl, hb⟩
theorem may_any (l : List Pt) (A : Option Addr) (c : Nat) (w : World) (h : Pts w A l) :
    Calls Try.prog 43 #[.slice A l.length c] w fun e w' => e = .returned (.bool (tab l)) ∧ Below w.heap.size w w' := by
  go_enter Try.func43, Try.ntmps43
  go_wp2_with fail
  refine (rcheck_any l A c _ h).mono ?_
  rintro e w1 ⟨rfl, hb⟩
  go_wp2
  go_ret
  exact ⟨rfl, hb⟩

/-- the first point that is fast enough -/
def fst : Nat → List Pt → Int → Int
  | _, [], _ => -1
  | k, p :: t, r => if r ≤ p.1 then (k : Int) else fst (k + 1) t r
theorem fst_step {k : Nat} {l : List Pt} {r : Int} (hk : k < l.length) : fst k (l.drop k) r = if r ≤ l[k].1 then (k : Int) else fst (k + 1) (l.drop (k + 1)) r := by
  rw [List.drop_eq_getElem_cons hk]; rfl
theorem fst_end {k : Nat} {l : List Pt} {r : Int} (hk : l.length ≤ k) : fst k (l.drop k) r = -1 := by
  rw [List.drop_eq_nil_of_le hk]; rfl
theorem fst_range (l : List Pt) (r : Int) : ∀ k, fst k l r = -1 ∨ (∃ j : Nat, fst k l r = j ∧ k ≤ j ∧ j < k + l.length) := by
  induction l with
  | nil => exact fun _ => Or.inl rfl
  | cons p t ih =>
    intro k
    unfold fst
    split
    · exact Or.inr ⟨k, rfl, by omega, by simp⟩
    · rcases ih (k + 1) with h | ⟨j, h1, h2, h3⟩
      · exact Or.inl h
      · exact Or.inr ⟨j, h1, by omega, by simp; omega⟩

theorem fast_any (p : Pt) (B : Nat) (r : Int) (w : World) (hB : B < w.heap.size) (hc : w.cell? ⟨B, 0, none⟩ = some (.int .i64 r)) :
    Calls Try.prog 62 #[.agg #[.int .i64 p.1, .int .i64 p.2], .pointer (some ⟨B, 0, none⟩)] w fun e w' => e = .returned (.bool (decide (r ≤ p.1))) ∧ Below w.heap.size w w' := by
  go_enter Try.func62, Try.ntmps62
  go_wp2
  go_ret
  exact ⟨rfl, below_al (Below.refl _ _) _⟩

theorem index_any (l : List Pt) (A : Option Addr) (c : Nat) (B : Nat) (r : Int) (w : World) (h : Pts w A l) (hB : B < w.heap.size) (hc : w.cell? ⟨B, 0, none⟩ = some (.int .i64 r)) :
    Calls Try.prog 61 #[.slice A l.length c, .func (.func 62) #[] #[.pointer (some ⟨B, 0, none⟩)]] w fun e w' => e = .returned (.int .i64 (fst 0 l r)) ∧ Below w.heap.size w w' := by
  have hlen := h.le
  go_enter Try.func61, Try.ntmps61
  go_wp2
  go_loopw [8] (fun v wr => ∃ (k : Nat), k ≤ l.length ∧ v = .int .i64 k ∧ Below w.heap.size w wr ∧ w.heap.size ≤ wr.heap.size ∧ fst 0 l r = fst k (l.drop k) r) (fun v _ => l.length - (intOf v).toNat)
  case atStart => exact ⟨0, by omega, rfl, Below.refl _ _, Nat.le_refl _, rfl⟩
  case round =>
    obtain ⟨k, hk, rfl, hg, hs, hf⟩ := hrel
    by_cases hkl : k = l.length
    · subst hkl
      have e := Lib.hid (hf.trans (fst_end (Nat.le_refl _)))
      clear hf
      go_wp2
      go_ret
      exact ⟨by rw [e.out]; rfl, hg⟩
    have hkl : k < l.length := by omega
    obtain ⟨b, o, rfl, hb, c1, c2⟩ := (h.below hg).at_ hkl
    have hc' : wr.cell? ⟨B, 0, none⟩ = some (.int .i64 r) := (hg.cell (p := ⟨B, 0, none⟩) hB).trans hc
    rw [fst_step hkl] at hf
    by_cases hr : r ≤ l[k].1
    · have e := Lib.hid (hf.trans (if_pos hr))
      clear hf
      have F := fast_any l[k] B r wr (by omega) hc'
      generalize l[k] = q at *
      obtain ⟨q1, q2⟩ := q
      simp only at c1 c2 hr F
      go_wp2_with (go_at_call 62; refine F.mono ?_; rintro e w1 ⟨rfl, hb1⟩)
      go_ret
      have hb1 : Below wr.heap.size wr w1 := by assumption
      exact ⟨by rw [e.out]; rfl, hg.trans (hb1.mono hs)⟩
    · have e := Lib.hid (hf.trans (if_neg hr))
      clear hf
      have F := fast_any l[k] B r wr (by omega) hc'
      generalize l[k] = q at *
      obtain ⟨q1, q2⟩ := q
      simp only at c1 c2 hr F
      go_wp2_with (go_at_call 62; refine F.mono ?_; rintro e w1 ⟨rfl, hb1⟩)
      have hb1 : Below wr.heap.size wr w1 := by assumption
      go_roundw
      case rel => exact ⟨k + 1, by omega, by go_num, hg.trans (hb1.mono hs), Nat.le_trans hs hb1.size, e.out⟩
      case measure => simp [intOf]; omega

theorem fin_two {a c : Int} {b d d' : Bool} (h : a = c ∧ b = d) (e : d' = d) : Ending.returned (.tuple #[.int .i64 c, .bool d']) = .returned (.tuple #[.int .i64 a, .bool b]) := by rw [h.1, h.2, e]
theorem ret_two {a c : Int} {b d : Bool} (h : a = c ∧ b = d) : Ending.returned (.tuple #[.int .i64 c, .bool d]) = .returned (.tuple #[.int .i64 a, .bool b]) := by rw [h.1, h.2]
theorem first_any (l : List Pt) (A : Option Addr) (c : Nat) (r : Int) (w : World) (h : Pts w A l) :
    Calls Try.prog 42 #[.slice A l.length c, .int .i64 r] w fun e w' => e = .returned (.tuple #[.int .i64 (max 0 (fst 0 l r)), .bool (decide (0 ≤ fst 0 l r))]) ∧ Below w.heap.size w w' := by
  have I := fun w' h1 h2 h3 => index_any l A c w.heap.size r w' h1 h2 h3
  generalize hx : fst 0 l r = x at *
  have hm1 : Hid (0 ≤ x → max 0 x = x ∧ decide (0 ≤ x) = true) := Lib.hid fun h0 => ⟨Int.max_eq_right h0, decide_eq_true h0⟩
  have hm2 : Hid (x < 0 → max 0 x = 0 ∧ decide (0 ≤ x) = false) := Lib.hid fun h0 => ⟨Int.max_eq_left (by omega), decide_eq_false (by omega)⟩
  generalize max 0 x = m at *
  generalize decide (0 ≤ x) = d at *
  go_enter Try.func42, Try.ntmps42
  go_wp2_with fail
  refine (I _ (h.below (below_al (Below.refl _ _) _)) (by rw [size_al]; omega) (by simp)).mono ?_
  rintro e w1 ⟨rfl, hb⟩
  have hb' : Below w.heap.size w w1 := (below_al (Below.refl _ _) _).trans (hb.mono (by rw [size_al]; omega))
  clear hb
  rcases Int.lt_trichotomy x 0 with h0 | h0 | h0
  · go_wp2
    go_ret2
    exact ⟨fin_two (hm2.out h0) (decide_eq_false (by omega)), hb'⟩
  · subst h0
    go_wp2
    go_ret2
    exact ⟨ret_two (hm1.out (by omega)), hb'⟩
  · go_wp2
    go_ret2
    exact ⟨fin_two (hm1.out (by omega)) (decide_eq_true (by omega)), hb'⟩
theorem rfirst_any (l : List Pt) (A : Option Addr) (c : Nat) (r : Int) (w : World) (h : Pts w A l) :
    Calls Try.prog 44 #[.slice A l.length c, .int .i64 r] w fun e w' => e = .returned (.int .i64 (fst 0 l r)) ∧ w = w' := by
  have hlen := h.le
  go_enter Try.func44, Try.ntmps44
  go_wp2
  go_loop [5] (fun v => ∃ (k : Nat), k ≤ l.length ∧ v = .int .i64 k ∧ fst 0 l r = fst k (l.drop k) r) (fun v => l.length - (intOf v).toNat)
  case atStart => exact ⟨0, by omega, rfl, rfl⟩
  case round =>
    obtain ⟨k, hk, rfl, hf⟩ := hrel
    by_cases hkl : k = l.length
    · subst hkl
      have e := Lib.hid (hf.trans (fst_end (Nat.le_refl _)))
      clear hf
      go_wp2
      go_ret
      exact ⟨by rw [e.out]; rfl, rfl⟩
    have hkl : k < l.length := by omega
    obtain ⟨b, o, rfl, hb, c1, c2⟩ := h.at_ hkl
    rw [fst_step hkl] at hf
    by_cases hr : r ≤ l[k].1
    · have e := Lib.hid (hf.trans (if_pos hr))
      clear hf
      generalize l[k] = q at *
      obtain ⟨q1, q2⟩ := q
      simp only at c1 c2 hr
      go_wp2
      go_ret
      exact ⟨by rw [e.out]; rfl, rfl⟩
    · have e := Lib.hid (hf.trans (if_neg hr))
      clear hf
      generalize l[k] = q at *
      obtain ⟨q1, q2⟩ := q
      simp only at c1 c2 hr
      go_wp2
      go_round
      case rel => exact ⟨k + 1, by omega, by go_num, e.out⟩
      case measure => simp [intOf]; omega
end Go.Proofs.Ythmdhmknadhjeaa
