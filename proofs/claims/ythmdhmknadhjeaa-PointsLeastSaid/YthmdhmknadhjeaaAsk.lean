/- Points: For, Safe, and the reference's For, Under, Safe. -/
import Derived.Test.YthmdhmknadhjeaaUnder
namespace Go.Proofs.Ythmdhmknadhjeaa
open Go.RowKit Go.BigFrame

def forp (l : List Pt) (r : Int) : Int × Int := if (check l).2 ≠ 0 then (0, 280) else if fst 0 l r < 0 then (0, 6) else (fst 0 l r, 0)
def safep (l : List Pt) (r v : Int) : Bool × Int :=
  if (check l).2 ≠ 0 then (false, 280) else if fst 0 l r < 0 then (false, 0) else (decide ((l.getD (fst 0 l r).toNat (0, 0)).2 ≤ v), 0)
theorem ret_ii {p : Int × Int} {a b : Int} (h : p = (a, b)) : Ending.returned (.tuple #[.int .i64 a, .int .i64 b]) = .returned (.tuple #[.int .i64 p.1, .int .i64 p.2]) := by rw [h]
theorem ret_bi {p : Bool × Int} {a : Bool} {b : Int} (h : p = (a, b)) : Ending.returned (.tuple #[.bool a, .int .i64 b]) = .returned (.tuple #[.bool p.1, .int .i64 p.2]) := by rw [h]

theorem for_any (l : List Pt) (A : Option Addr) (c : Nat) (r : Int) (w : World) (h : Pts w A l) :
    Calls Try.prog 24 #[.slice A l.length c, .int .i64 r] w fun e w' => e = .returned (.tuple #[.int .i64 (forp l r).1, .int .i64 (forp l r).2]) ∧ Below w.heap.size w w' := by
  by_cases hc : (check l).2 = 0
  case neg =>
    have e := Lib.hid (show forp l r = (0, 280) by unfold forp; rw [if_pos hc])
    have h280 := (check_two l).resolve_right fun e => hc (by rw [e])
    have B := bad_any l A c w h
    rw [h280] at B
    clear hc h280
    go_enter Try.func24, Try.ntmps24
    go_wp2_with (go_at_call 41; refine B.mono ?_; rintro e w1 ⟨rfl, hb⟩)
    go_ret2
    exact ⟨ret_ii e.out, hb⟩
  have B := bad_any l A c w h
  rw [hc] at B
  have F := fun w1 h1 => first_any l A c r w1 h1
  by_cases hn : fst 0 l r < 0
  · have e := Lib.hid (show forp l r = (0, 6) by unfold forp; rw [if_neg (by simp [hc]), if_pos hn])
    have F := fun w1 h1 => first_any l A c r w1 h1
    rw [decide_eq_false (by omega)] at F
    clear hc
    generalize fst 0 l r = x at *
    go_enter Try.func24, Try.ntmps24
    go_wp2_with (first
      | (go_at_call 41; refine B.mono ?_; rintro e w1 ⟨rfl, hb⟩)
      | (go_at_call 42; refine (F _ (h.below hb)).mono ?_; rintro e w2 ⟨rfl, hb2⟩))
    go_ret2
    exact ⟨ret_ii e.out, hb.trans (hb2.mono hb.size)⟩
  · have e := Lib.hid (show forp l r = (fst 0 l r, 0) by unfold forp; rw [if_neg (by simp [hc]), if_neg hn])
    have F := fun w1 h1 => first_any l A c r w1 h1
    rw [decide_eq_true (by omega), Int.max_eq_right (by omega)] at F
    clear hc
    generalize fst 0 l r = x at *
    go_enter Try.func24, Try.ntmps24
    go_wp2_with (first
      | (go_at_call 41; refine B.mono ?_; rintro e w1 ⟨rfl, hb⟩)
      | (go_at_call 42; refine (F _ (h.below hb)).mono ?_; rintro e w2 ⟨rfl, hb2⟩))
    go_ret2
    exact ⟨ret_ii e.out, hb.trans (hb2.mono hb.size)⟩
theorem safe_any (l : List Pt) (A : Option Addr) (c : Nat) (r v : Int) (w : World) (h : Pts w A l) :
    Calls Try.prog 28 #[.slice A l.length c, .int .i64 r, .int .i64 v] w fun e w' => e = .returned (.tuple #[.bool (safep l r v).1, .int .i64 (safep l r v).2]) ∧ Below w.heap.size w w' := by
  by_cases hc : (check l).2 = 0
  case neg =>
    have e := Lib.hid (show safep l r v = (false, 280) by unfold safep; rw [if_pos hc])
    have h280 := (check_two l).resolve_right fun e => hc (by rw [e])
    have B := bad_any l A c w h
    rw [h280] at B
    clear hc h280
    go_enter Try.func28, Try.ntmps28
    go_wp2_with (go_at_call 41; refine B.mono ?_; rintro e w1 ⟨rfl, hb⟩)
    go_ret2
    exact ⟨ret_bi e.out, hb⟩
  have B := bad_any l A c w h
  rw [hc] at B
  have F := fun w1 h1 => first_any l A c r w1 h1
  by_cases hn : fst 0 l r < 0
  · have e := Lib.hid (show safep l r v = (false, 0) by unfold safep; rw [if_neg (by simp [hc]), if_pos hn])
    rw [decide_eq_false (by omega)] at F
    clear hc
    generalize fst 0 l r = x at *
    go_enter Try.func28, Try.ntmps28
    go_wp2_with (first
      | (go_at_call 41; refine B.mono ?_; rintro e w1 ⟨rfl, hb⟩)
      | (go_at_call 42; refine (F _ (h.below hb)).mono ?_; rintro e w2 ⟨rfl, hb2⟩))
    go_ret2
    exact ⟨ret_bi e.out, hb.trans (hb2.mono hb.size)⟩
  · have e := Lib.hid (show safep l r v = (decide ((l.getD (fst 0 l r).toNat (0, 0)).2 ≤ v), 0) by unfold safep; rw [if_neg (by simp [hc]), if_neg hn])
    rw [decide_eq_true (by omega), Int.max_eq_right (by omega)] at F
    have hfr := fst_range l r 0
    obtain ⟨j, hj, _, hjl⟩ : ∃ j : Nat, fst 0 l r = j ∧ 0 ≤ j ∧ j < 0 + l.length := by
      rcases hfr with q | q
      · omega
      · exact q
    have hj2 : j < l.length := by omega
    rw [hj] at F e
    have hV : l.getD ((j : Int)).toNat (0, 0) = l[j] := by simp [List.getD, hj2]
    rw [hV] at e
    obtain ⟨b3, o3, rfl, _, _, _⟩ := h.at_ hj2
    clear hc hfr hn hj hV
    have hcl := Lib.hid (fun w1 (hb : Below w.heap.size w w1) => Pts.at_ (h.below hb) hj2)
    generalize hD : decide (l[j].2 ≤ v) = D at *
    generalize hq : l[j] = q at *
    obtain ⟨q1, q2⟩ := q
    replace hD := Lib.hid hD
    replace hq := Lib.hid hq
    simp only at hD
    go_enter Try.func28, Try.ntmps28
    go_wp2_with (first
      | (go_at_call 41; refine B.mono ?_; rintro e w1 ⟨rfl, hb⟩)
      | (go_at_call 42; refine (F _ (h.below hb)).mono ?_; rintro e w2 ⟨rfl, hb2⟩; obtain ⟨b4, o4, e4, _, d1, d2⟩ := hcl.out w2 (hb.trans (hb2.mono hb.size)); cases e4; (try simp only [hq.out] at d1 d2)))
    go_ret2
    exact ⟨ret_bi (by rw [e.out, ← hD.out]), hb.trans (hb2.mono hb.size)⟩
end Go.Proofs.Ythmdhmknadhjeaa
