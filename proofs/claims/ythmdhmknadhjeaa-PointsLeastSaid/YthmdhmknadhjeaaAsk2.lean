/- Points: the reference's For, Under, Safe. -/
import Derived.Test.YthmdhmknadhjeaaAsk
namespace Go.Proofs.Ythmdhmknadhjeaa
open Go.RowKit Go.BigFrame

theorem rfor_any (l : List Pt) (A : Option Addr) (c : Nat) (r : Int) (w : World) (h : Pts w A l) :
    Calls Try.prog 47 #[.slice A l.length c, .int .i64 r] w fun e w' => e = .returned (.tuple #[.int .i64 (forp l r).1, .int .i64 (forp l r).2]) ∧ Below w.heap.size w w' := by
  have B := may_any l A c w h
  by_cases hc : (check l).2 = 0
  case neg =>
    have e := Lib.hid (show forp l r = (0, 280) by unfold forp; rw [if_pos hc])
    rw [show tab l = false from decide_eq_false hc] at B
    clear hc
    go_enter Try.func47, Try.ntmps47
    go_wp2_with (go_at_call 43; refine B.mono ?_; rintro e w1 ⟨rfl, hb⟩)
    go_ret2
    exact ⟨ret_ii e.out, hb⟩
  rw [show tab l = true from decide_eq_true hc] at B
  have F := fun w1 h1 => rfirst_any l A c r w1 h1
  by_cases hn : fst 0 l r < 0
  · have e := Lib.hid (show forp l r = (0, 6) by unfold forp; rw [if_neg (by simp [hc]), if_pos hn])
    clear hc
    generalize fst 0 l r = x at *
    go_enter Try.func47, Try.ntmps47
    go_wp2_with (first
      | (go_at_call 43; refine B.mono ?_; rintro e w1 ⟨rfl, hb⟩)
      | (go_at_call 44; refine (F _ (h.below hb)).mono ?_; rintro e w2 ⟨rfl, rfl⟩))
    go_ret2
    exact ⟨ret_ii e.out, hb⟩
  · have e := Lib.hid (show forp l r = (fst 0 l r, 0) by unfold forp; rw [if_neg (by simp [hc]), if_neg hn])
    clear hc
    generalize fst 0 l r = x at *
    go_enter Try.func47, Try.ntmps47
    go_wp2_with (first
      | (go_at_call 43; refine B.mono ?_; rintro e w1 ⟨rfl, hb⟩)
      | (go_at_call 44; refine (F _ (h.below hb)).mono ?_; rintro e w2 ⟨rfl, rfl⟩))
    go_ret2
    exact ⟨ret_ii e.out, hb⟩
theorem rsafe_any (l : List Pt) (A : Option Addr) (c : Nat) (r v : Int) (w : World) (h : Pts w A l) :
    Calls Try.prog 49 #[.slice A l.length c, .int .i64 r, .int .i64 v] w fun e w' => e = .returned (.tuple #[.bool (safep l r v).1, .int .i64 (safep l r v).2]) ∧ Below w.heap.size w w' := by
  have B := may_any l A c w h
  by_cases hc : (check l).2 = 0
  case neg =>
    have e := Lib.hid (show safep l r v = (false, 280) by unfold safep; rw [if_pos hc])
    rw [show tab l = false from decide_eq_false hc] at B
    clear hc
    go_enter Try.func49, Try.ntmps49
    go_wp2_with (go_at_call 43; refine B.mono ?_; rintro e w1 ⟨rfl, hb⟩)
    go_ret2
    exact ⟨ret_bi e.out, hb⟩
  rw [show tab l = true from decide_eq_true hc] at B
  have F := fun w1 h1 => rfirst_any l A c r w1 h1
  by_cases hn : fst 0 l r < 0
  · have e := Lib.hid (show safep l r v = (false, 0) by unfold safep; rw [if_neg (by simp [hc]), if_pos hn])
    clear hc
    generalize fst 0 l r = x at *
    go_enter Try.func49, Try.ntmps49
    go_wp2_with (first
      | (go_at_call 43; refine B.mono ?_; rintro e w1 ⟨rfl, hb⟩)
      | (go_at_call 44; refine (F _ (h.below hb)).mono ?_; rintro e w2 ⟨rfl, rfl⟩))
    go_ret2
    exact ⟨ret_bi e.out, hb⟩
  · have e := Lib.hid (show safep l r v = (decide ((l.getD (fst 0 l r).toNat (0, 0)).2 ≤ v), 0) by unfold safep; rw [if_neg (by simp [hc]), if_neg hn])
    have hfr := fst_range l r 0
    obtain ⟨j, hj, _, hjl⟩ : ∃ j : Nat, fst 0 l r = j ∧ 0 ≤ j ∧ j < 0 + l.length := by
      rcases hfr with q | q
      · omega
      · exact q
    have hj2 : j < l.length := by omega
    rw [hj] at F e
    have hV : l.getD ((j : Int)).toNat (0, 0) = l[j] := by simp [List.getD, hj2]
    rw [hV] at e
    obtain ⟨b3, o3, rfl, _, _, _⟩ := h.at_ hj2
    clear hc hfr hn hj hV
    have hcl := Lib.hid (fun w1 (hb : Below w.heap.size w w1) => Pts.at_ (h.below hb) hj2)
    generalize hD : decide (l[j].2 ≤ v) = D at *
    generalize hq : l[j] = q at *
    obtain ⟨q1, q2⟩ := q
    replace hD := Lib.hid hD
    replace hq := Lib.hid hq
    simp only at hD
    go_enter Try.func49, Try.ntmps49
    go_wp2_with (first
      | (go_at_call 43; refine B.mono ?_; rintro e w1 ⟨rfl, hb⟩; obtain ⟨b4, o4, e4, _, d1, d2⟩ := hcl.out w1 hb; cases e4; (try simp only [hq.out] at d1 d2))
      | (go_at_call 44; refine (F _ (h.below hb)).mono ?_; rintro e w2 ⟨rfl, rfl⟩))
    go_ret2
    exact ⟨ret_bi (by rw [e.out, ← hD.out]), hb⟩
set_option maxHeartbeats 1000000 in
theorem runder_any (l : List Pt) (A : Option Addr) (c : Nat) (v : Int) (w : World) (h : Pts w A l) :
    Calls Try.prog 48 #[.slice A l.length c, .int .i64 v] w fun e w' => e = .returned (.tuple #[.int .i64 (und l v).1, .int .i64 (und l v).2]) ∧ Below w.heap.size w w' := by
  have B := may_any l A c w h
  have hlen := h.le
  by_cases hc : (check l).2 = 0
  case neg =>
    have e := Lib.hid (show und l v = (0, 280) by unfold und; rw [if_pos hc])
    rw [show tab l = false from decide_eq_false hc] at B
    clear hc
    go_enter Try.func48, Try.ntmps48
    go_wp2_with (go_at_call 43; refine B.mono ?_; rintro e w1 ⟨rfl, hb⟩)
    go_ret2
    exact ⟨ret_ii e.out, hb⟩
  rw [show tab l = true from decide_eq_true hc] at B
  have hu := Lib.hid (show und l v = if lst l v l.length < 0 then (0, 6) else (lst l v l.length, 0) by unfold und; rw [if_neg (by simp [hc])])
  clear hc
  go_enter Try.func48, Try.ntmps48
  go_wp2_with (go_at_call 43; refine B.mono ?_; rintro e w1 ⟨rfl, hb⟩)
  go_loop [6] (fun i => ∃ m : Nat, m ≤ l.length ∧ i = .int .i64 ((m : Int) - 1) ∧ lst l v l.length = lst l v m) (fun i => (intOf i + 1).toNat)
  case atStart => exact ⟨l.length, Nat.le_refl _, rfl, rfl⟩
  case round =>
    obtain ⟨m, hm, rfl, hl⟩ := hrel
    cases m with
    | zero =>
      have e := Lib.hid (show und l v = (0, 6) by rw [hu.out, hl]; rfl)
      clear hl
      go_wp2
      go_ret2
      exact ⟨ret_ii e.out, hb⟩
    | succ m =>
      have em : ((m + 1 : Nat) : Int) - 1 = (m : Int) := by omega
      rw [em]
      clear em
      have hml : m < l.length := hm
      obtain ⟨b, o, rfl, hbl, c1, c2⟩ := (h.below hb).at_ hml
      have hl1 : lst l v (m + 1) = if l[m].2 ≤ v then (m : Int) else lst l v m := by
        show (if (l.getD m (0, 0)).2 ≤ v then _ else _) = _
        rw [show l.getD m (0, 0) = l[m] by simp [List.getD, hml]]
      rw [hl1] at hl
      clear hl1
      by_cases hv : l[m].2 ≤ v
      · have e := Lib.hid (show und l v = ((m : Int), 0) by rw [hu.out, hl, if_pos hv, if_neg (by omega)])
        clear hl
        generalize l[m] = q at *
        obtain ⟨q1, q2⟩ := q
        simp only at hv c1 c2
        go_wp2
        go_ret2
        exact ⟨ret_ii e.out, hb⟩
      · have e := Lib.hid (hl.trans (if_neg hv))
        clear hl
        generalize l[m] = q at *
        obtain ⟨q1, q2⟩ := q
        simp only at hv c1 c2
        go_wp2
        go_round
        case rel => exact ⟨m, by omega, rfl, e.out⟩
        case measure => simp [intOf]
end Go.Proofs.Ythmdhmknadhjeaa
