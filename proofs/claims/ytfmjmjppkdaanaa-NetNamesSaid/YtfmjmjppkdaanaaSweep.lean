/- Net: sweeps, the program's and the reference's, walked. -/
import Derived.Test.YtfmjmjppkdaanaaAsked
namespace Go.Proofs.Ytfmjmjppkdaanaa
open Go.RowKit Go.BigFrame flt Ieee

/-- the rate at a step, by classes -/
def rt (F S : Option Nat) (i : Nat) : Option Nat := op2 .add F (op2 .mul (cls (floatOfInt .f64 i)) S)
/-- a net's impedance -/
def lastz (W : Option Nat) (l : List Part) : Cx := (zsn W l l.length).getD (l.length - 1) (none, none)
def swn (F S : Option Nat) (l : List Part) : Nat → List Cx
  | 0 => []
  | k + 1 => swn F S l k ++ [lastz (rt F S k) l]
theorem swn_len (F S : Option Nat) (l : List Part) (k : Nat) : (swn F S l k).length = k := by
  induction k with
  | zero => rfl
  | succ k ih => unfold swn; rw [List.length_append, ih]; rfl
/-- what is wrong with a sweep -/
def SwOk (l : List Part) (F S : Option Nat) (n : Int) : Prop := Good l ∧ isRate F = true ∧ isFin S = true ∧ ge0 S = true ∧ 1 ≤ n ∧ n ≤ 4096
open Classical in
noncomputable def swerr (l : List Part) (F S : Option Nat) (n : Int) : Int := if Good l then (if SwOk l F S n then 0 else 1) else 290
set_option maxHeartbeats 4000000 in
theorem sweep_bad (l : List Part) (A : Option Addr) (c f s : Nat) (n : Int) (w : World) (h : Pn w A l) (he : ¬ SwOk l (cls f) (cls s) n) :
    Calls Try.prog 29 #[.slice A l.length c, .float .f64 f, .float .f64 s, .int .i64 n] w fun e w' => e = .returned (.tuple #[.slice none 0 0, .int .i64 (swerr l (cls f) (cls s) n)]) ∧ Below w.heap.size w w' := by
  have hC := check_any l A c w h
  have hR := rate_any f
  have hF := finite_any s
  have hlt := lt_zero s
  clear h
  unfold chk at hC
  by_cases hg : Good l
  · rw [if_pos hg] at hC
    have hE : Hid (swerr l (cls f) (cls s) n = 1) := Lib.hid (by unfold swerr; rw [if_pos hg, if_neg he])
    generalize swerr l (cls f) (cls s) n = E at *
    have he' : isRate (cls f) = false ∨ (isRate (cls f) = true ∧ isFin (cls s) = false) ∨ (isRate (cls f) = true ∧ isFin (cls s) = true ∧ ge0 (cls s) = false) ∨
        (isRate (cls f) = true ∧ isFin (cls s) = true ∧ ge0 (cls s) = true ∧ n < 1) ∨ (isRate (cls f) = true ∧ isFin (cls s) = true ∧ ge0 (cls s) = true ∧ ¬ n < 1 ∧ 4096 < n) := by
      unfold SwOk at he
      cases h1 : isRate (cls f)
      · exact Or.inl rfl
      · cases h2 : isFin (cls s)
        · exact Or.inr (Or.inl ⟨rfl, rfl⟩)
        · cases h3 : ge0 (cls s)
          · exact Or.inr (Or.inr (Or.inl ⟨rfl, rfl, rfl⟩))
          · by_cases h4 : n < 1
            · exact Or.inr (Or.inr (Or.inr (Or.inl ⟨rfl, rfl, rfl, h4⟩)))
            · refine Or.inr (Or.inr (Or.inr (Or.inr ⟨rfl, rfl, rfl, h4, ?_⟩)))
              by_cases h5 : 4096 < n
              · exact h5
              · exact absurd ⟨hg, h1, h2, h3, by omega, by omega⟩ he
    clear he hg
    rcases he' with h1 | ⟨h1, h2⟩ | ⟨h1, h2, h3⟩ | ⟨h1, h2, h3, h4⟩ | ⟨h1, h2, h3, h4, h5⟩
    · rw [h1] at hR
      clear h1 hF hlt
      go_enter Try.func29, Try.ntmps29
      go_wp2_with (first | (go_at_call 41; (with_reducible refine (hC).mono ?_); rintro e w1 ⟨rfl, hb⟩) | (go_at_call 36; (with_reducible refine (hR _).mono ?_); rintro e w2 ⟨rfl, hw⟩; subst hw))
      go_ret2
      exact ⟨by rw [hE.out]; rfl, hb⟩
    · rw [h1] at hR
      rw [h2] at hF
      clear h1 h2 hlt
      go_enter Try.func29, Try.ntmps29
      go_wp2_with (first | (go_at_call 41; (with_reducible refine (hC).mono ?_); rintro e w1 ⟨rfl, hb⟩) | (go_at_call 36; (with_reducible refine (hR _).mono ?_); rintro e w2 ⟨rfl, hw⟩; subst hw) | (go_at_call 45; (with_reducible refine (hF _).mono ?_); rintro e w3 ⟨rfl, hw⟩; subst hw))
      go_ret2
      exact ⟨by rw [hE.out]; rfl, hb⟩
    all_goals (
      rw [h1] at hR
      rw [h2] at hF
      have hlt := hlt h2
      rw [h3] at hlt
      clear h1 h2 h3
      go_enter Try.func29, Try.ntmps29
      go_wp2_with (first | (go_at_call 41; (with_reducible refine (hC).mono ?_); rintro e w1 ⟨rfl, hb⟩) | (go_at_call 36; (with_reducible refine (hR _).mono ?_); rintro e w2 ⟨rfl, hw⟩; subst hw) | (go_at_call 45; (with_reducible refine (hF _).mono ?_); rintro e w3 ⟨rfl, hw⟩; subst hw))
      go_ret2
      exact ⟨by rw [hE.out]; rfl, hb⟩)
  · rw [if_neg hg] at hC
    have hE : Hid (swerr l (cls f) (cls s) n = 290) := Lib.hid (by unfold swerr; rw [if_neg hg])
    generalize swerr l (cls f) (cls s) n = E at *
    clear he hg hR hF hlt
    go_enter Try.func29, Try.ntmps29
    go_wp2_with (go_at_call 41; (with_reducible refine (hC).mono ?_); rintro e w1 ⟨rfl, hb⟩)
    go_ret2
    exact ⟨by rw [hE.out]; rfl, hb⟩
set_option maxHeartbeats 4000000 in
theorem wrong_any (l : List Part) (A : Option Addr) (c f s : Nat) (n : Int) (w : World) (h : Pn w A l) :
    Calls Try.prog 30 #[.slice A l.length c, .float .f64 f, .float .f64 s, .int .i64 n] w fun e w' => e = .returned (.int .i64 (swerr l (cls f) (cls s) n)) ∧ Below w.heap.size w w' := by
  have hC := rcheck_any l A c w h
  have hR := rrate_any f
  have hF := rfinite_any s
  have hlt := lt_zero s
  clear h
  unfold chk at hC
  by_cases hg : Good l
  · rw [if_pos hg] at hC
    have he' : isRate (cls f) = false ∨ (isRate (cls f) = true ∧ isFin (cls s) = false) ∨ (isRate (cls f) = true ∧ isFin (cls s) = true ∧ ge0 (cls s) = false) ∨
        (isRate (cls f) = true ∧ isFin (cls s) = true ∧ ge0 (cls s) = true ∧ n < 1) ∨ (isRate (cls f) = true ∧ isFin (cls s) = true ∧ ge0 (cls s) = true ∧ ¬ n < 1 ∧ 4096 < n) ∨
        (isRate (cls f) = true ∧ isFin (cls s) = true ∧ ge0 (cls s) = true ∧ ¬ n < 1 ∧ ¬ 4096 < n) := by
      cases h1 : isRate (cls f)
      · exact Or.inl rfl
      · cases h2 : isFin (cls s)
        · exact Or.inr (Or.inl ⟨rfl, rfl⟩)
        · cases h3 : ge0 (cls s)
          · exact Or.inr (Or.inr (Or.inl ⟨rfl, rfl, rfl⟩))
          · by_cases h4 : n < 1
            · exact Or.inr (Or.inr (Or.inr (Or.inl ⟨rfl, rfl, rfl, h4⟩)))
            · by_cases h5 : 4096 < n
              · exact Or.inr (Or.inr (Or.inr (Or.inr (Or.inl ⟨rfl, rfl, rfl, h4, h5⟩))))
              · exact Or.inr (Or.inr (Or.inr (Or.inr (Or.inr ⟨rfl, rfl, rfl, h4, h5⟩))))
    have hE : Hid (swerr l (cls f) (cls s) n = if isRate (cls f) = true ∧ isFin (cls s) = true ∧ ge0 (cls s) = true ∧ ¬ n < 1 ∧ ¬ 4096 < n then 0 else 1) := Lib.hid (by
      unfold swerr SwOk
      rw [if_pos hg]
      by_cases q : isRate (cls f) = true ∧ isFin (cls s) = true ∧ ge0 (cls s) = true ∧ ¬ n < 1 ∧ ¬ 4096 < n
      · rw [if_pos q, if_pos ⟨hg, q.1, q.2.1, q.2.2.1, by omega, by omega⟩]
      · rw [if_neg q, if_neg (fun h => q ⟨h.2.1, h.2.2.1, h.2.2.2.1, by omega, by omega⟩)])
    generalize swerr l (cls f) (cls s) n = E at *
    clear hg
    rcases he' with h1 | ⟨h1, h2⟩ | ⟨h1, h2, h3⟩ | ⟨h1, h2, h3, h4⟩ | ⟨h1, h2, h3, h4, h5⟩ | ⟨h1, h2, h3, h4, h5⟩
    · rw [h1] at hR
      have e1 : Hid (E = 1) := Lib.hid (by rw [hE.out, if_neg (fun h => by rw [h1] at h; cases h.1)])
      clear h1 hF hlt hE
      go_enter Try.func30, Try.ntmps30
      go_wp2_with (first | (go_at_call 27; (with_reducible refine (hC).mono ?_); rintro e w1 ⟨rfl, hb⟩) | (go_at_call 28; (with_reducible refine (hR _).mono ?_); rintro e w2 ⟨rfl, hw⟩))
      go_ret
      exact ⟨by rw [e1.out]; rfl, hw.after hb⟩
    · rw [h1] at hR
      have e1 : Hid (E = 1) := Lib.hid (by rw [hE.out, if_neg (fun h => by rw [h2] at h; cases h.2.1)])
      rw [h2] at hF
      clear h1 h2 hlt hE
      go_enter Try.func30, Try.ntmps30
      go_wp2_with (first | (go_at_call 27; (with_reducible refine (hC).mono ?_); rintro e w1 ⟨rfl, hb⟩) | (go_at_call 28; (with_reducible refine (hR _).mono ?_); rintro e w2 ⟨rfl, hw⟩) | (go_at_call 44; (with_reducible refine (hF _).mono ?_); rintro e w3 ⟨rfl, hw3⟩))
      go_ret
      exact ⟨by rw [e1.out]; rfl, hw3.after (hw.after hb)⟩
    all_goals (
      have e1 : Hid (E = if isRate (cls f) = true ∧ isFin (cls s) = true ∧ ge0 (cls s) = true ∧ ¬ n < 1 ∧ ¬ 4096 < n then 0 else 1) := hE
      clear hE
      simp only [h1, h2, h3, true_and, Bool.false_eq_true, false_and, if_false] at e1
      first | simp only [h4, not_true, false_and, if_false] at e1 | skip
      first | simp only [h5, not_true, not_false_iff, and_false, and_self, if_false, if_true] at e1 | skip
      rw [h1] at hR
      rw [h2] at hF
      have hlt := hlt h2
      rw [h3] at hlt
      clear h1 h2 h3
      go_enter Try.func30, Try.ntmps30
      go_wp2_with (first | (go_at_call 27; (with_reducible refine (hC).mono ?_); rintro e w1 ⟨rfl, hb⟩) | (go_at_call 28; (with_reducible refine (hR _).mono ?_); rintro e w2 ⟨rfl, hw⟩) | (go_at_call 44; (with_reducible refine (hF _).mono ?_); rintro e w3 ⟨rfl, hw3⟩))
      go_ret
      exact ⟨by rw [e1.out]; rfl, hw3.after (hw.after hb)⟩)
  · rw [if_neg hg] at hC
    have hE : Hid (swerr l (cls f) (cls s) n = 290) := Lib.hid (by unfold swerr; rw [if_neg hg])
    generalize swerr l (cls f) (cls s) n = E at *
    clear hg hR hF hlt
    go_enter Try.func30, Try.ntmps30
    go_wp2_with (go_at_call 27; (with_reducible refine (hC).mono ?_); rintro e w1 ⟨rfl, hb⟩)
    go_ret
    exact ⟨by rw [hE.out]; rfl, hb⟩
end Go.Proofs.Ytfmjmjppkdaanaa
