/- PointsNever, walked. -/
import Derived.Test.YthmdhmknadhjeaaNever
import Derived.Test.YthmdhmknadhjeaaChanges
namespace Go.Proofs.Ythmdhmknadhjeaa
open Go.RowKit Go.BigFrame

theorem nev_step {t : List Pt} {y : Int} {up : Bool} {xs : List Pt} {m : Nat} (hm : m < xs.length) {r v c : Int} {R : Int × Int × Int} (h : nev t y up (xs.drop m) r v c = some R) :
    (xs[m].1 = 2 ∧ safep t xs[m].2 v = (true, 0) ∧ nev t y up (xs.drop (m + 1)) xs[m].2 v (c + 1) = some R) ∨
    (xs[m].1 = 1 ∧ (xs[m].2 - v ≤ y ∧ -y ≤ xs[m].2 - v ∧ xs[m].2 - v ≠ 0 ∧ decide (0 < xs[m].2 - v) = up) ∧ safep t r xs[m].2 = (true, 0) ∧ nev t y up (xs.drop (m + 1)) r xs[m].2 c = some R) := by
  rw [List.drop_eq_getElem_cons hm] at h
  generalize xs[m] = p at *
  obtain ⟨s, x⟩ := p
  rw [nev_cons] at h
  by_cases h2 : s = 2
  · rw [if_pos h2] at h
    by_cases hs : safep t x v = (true, 0)
    · rw [if_pos hs] at h; exact Or.inl ⟨h2, hs, h⟩
    · rw [if_neg hs] at h; cases h
  · rw [if_neg h2] at h
    by_cases h1 : s = 1
    · rw [if_pos h1] at h
      by_cases hs : x - v ≤ y ∧ -y ≤ x - v ∧ x - v ≠ 0 ∧ decide (0 < x - v) = up ∧ safep t r x = (true, 0)
      · rw [if_pos hs] at h; exact Or.inr ⟨h1, ⟨hs.1, hs.2.1, hs.2.2.1, hs.2.2.2.1⟩, hs.2.2.2.2, h⟩
      · rw [if_neg hs] at h; cases h
    · rw [if_neg h1] at h; cases h

set_option maxHeartbeats 4000000 in
set_option maxRecDepth 100000 in
theorem never_walk (l : List Pt) (A : Option Addr) (c : Nat) (i0 j0 y0 : Int) (w : World) (h : Pts w A l) :
    Calls Try.prog 7 #[.slice A l.length c, .int .i64 i0, .int .i64 j0, .int .i64 y0] w fun e w' => e = .returned (.bool true) ∧ Below w.heap.size w w' := by
  have hlen := h.le
  have htl := tame_len l
  obtain ⟨n, hn⟩ : ∃ n, n = (tame l).length := ⟨_, rfl⟩
  have hn1 : 1 ≤ n := by omega
  have hn2 : n ≤ 41 := by omega
  have P := fun k w => pick_any k (n : Int) w (by omega) (by omega)
  obtain ⟨i, hi⟩ : ∃ i : Nat, i0 % (n : Int) = i := ⟨(i0 % (n : Int)).toNat, by have := Int.emod_nonneg i0 (show (n : Int) ≠ 0 by omega); omega⟩
  obtain ⟨j, hj⟩ : ∃ j : Nat, j0 % (n : Int) = j := ⟨(j0 % (n : Int)).toNat, by have := Int.emod_nonneg j0 (show (n : Int) ≠ 0 by omega); omega⟩
  have hil : i < n := by have := Int.emod_lt_of_pos i0 (show 0 < (n : Int) by omega); omega
  have hjl : j < n := by have := Int.emod_lt_of_pos j0 (show 0 < (n : Int) by omega); omega
  have P1 := P i0
  have P2 := P j0
  rw [hi] at P1
  rw [hj] at P2
  have m1 : bits .and .i64 y0 1023 = y0 % 1024 := and_mask y0 10 (by decide)
  have hy1 := Int.emod_nonneg y0 (show (1024 : Int) ≠ 0 by decide)
  have hy2 := Int.emod_lt_of_pos y0 (show (0 : Int) < 1024 by decide)
  generalize y0 % 1024 = z at *
  obtain ⟨q1, q2, q3, q4, cc, q5, q6⟩ := never_plain l (i := i) (j := j) (by omega) (by omega) (y := 20 + z) (by omega)
  have C1 := fun A c w h => change_any (tame l) A c (i : Int) (j : Int) (20 + z) w h
  have C2 := fun A c w h => change_any (tame l) A c (j : Int) (i : Int) (20 + z) w h
  have S := fun A c r v w h => safe_any (tame l) A c r v w h
  rw [q1] at C1
  rw [q2] at C2
  rw [← hn] at C1 C2 S
  have T := tame_any l A c
  rw [← hn] at T
  replace hn := Lib.hid hn
  have hti := tame_at l i (by rw [← hn.out]; exact hil)
  have htj := tame_at l j (by rw [← hn.out]; exact hjl)
  generalize (chg (tame l) (i : Int) (j : Int) (20 + z)).1 = xs at *
  generalize (chg (tame l) (j : Int) (i : Int) (20 + z)).1 = ys at *
  replace q3 := Lib.hid q3
  replace q4 := Lib.hid q4
  replace q5 := Lib.hid q5
  clear q1 q2 hi hj P htl
  go_enter Try.func7, Try.ntmps7
  go_wp2_with (first
    | (go_at_call 22; refine (works_any _).mono ?_; rintro e w1 ⟨rfl, hb1⟩)
    | (go_at_call 23; refine (T _ (h.below hb1)).mono ?_; rintro e w2 ⟨At, ct, rfl, ht, hb2⟩)
    | (go_at_call 27; (with_reducible refine (P1 _).mono ?_); rintro e w3 ⟨rfl, rfl⟩)
    | (go_at_call 27; (with_reducible refine (P2 _).mono ?_); rintro e w3 ⟨rfl, rfl⟩))
  obtain ⟨At', ct', et, htp⟩ := ht.pts
  rw [← hn.out] at et
  simp only [Value.slice.injEq, true_and] at et
  obtain ⟨rfl, rfl⟩ := et
  go_wp2_with fail
  refine (C1 At ct _ htp).mono ?_
  rintro e w3 ⟨va, rfl, ha, hb3⟩
  obtain ⟨As, cs, rfl, hsa⟩ := ha.sts
  go_wp2_with fail
  refine (C2 At ct _ (htp.below hb3)).mono ?_
  rintro e w4 ⟨vb, rfl, hbb, hb4⟩
  obtain ⟨Bs, ds, rfl, _⟩ := hbb.sts
  rw [← q3.out]
  have htp4 := (htp.below hb3).below hb4
  have hsa4 : Sts w4 As xs := Sl.below' hsa hb4
  have hg4 : Below w.heap.size w w4 := by
    have h1 := hb1.size
    have h2 := hb2.size
    have h3 := hb3.size
    exact ((hb1.trans (hb2.mono h1)).trans (hb3.mono (by omega))).trans (hb4.mono (by omega))
  obtain ⟨bt, ot, rfl, hbt, d1, d2⟩ := htp4.at_ (k := i) (by rw [← hn.out]; exact hil)
  rw [hti] at d1 d2
  have hsl := hsa4.le
  clear ha hsa hbb htp C1 C2 P1 P2 T hb1 hb2 hb3 hb4 ht m1
  replace hti := Lib.hid hti
  replace htj := Lib.hid htj
  have hfin : Hid (∀ wr, Below w4.heap.size w4 wr → Pts wr (some ⟨bt, ot, none⟩) (tame l) ∧ Sts wr As xs) := Lib.hid fun wr hb => ⟨htp4.below hb, Sl.below' hsa4 hb⟩
  clear htp4 hsa4
  by_cases hij : i = j
  · subst hij
    have hx0 : Hid (xs = []) := Lib.hid (q4.out rfl)
    have hx1 := congrArg List.length hx0.out
    simp only [List.length_nil] at hx1
    have q5' := q5.out
    rw [hx0.out] at q5'
    clear q4 q5 q3 q6
    go_wp2
    go_loopw [14, 15, 16, 17] (fun r v c m wr => r = .int .i64 (tp l i).1 ∧ v = .int .i64 (tp l i).2 ∧ c = .int .i64 0 ∧ m = .int .i64 0 ∧ wr = w4) (fun _ _ _ _ _ => 0)
    case atStart => exact ⟨rfl, rfl, rfl, rfl, rfl⟩
    case round =>
      obtain ⟨rfl, rfl, rfl, rfl, rfl⟩ := hrel
      go_wp2
      go_ret
      exact ⟨rfl, hg4⟩
  · have hne : ((i : Int) == (j : Int)) = false := by simp; omega
    have hcc : cc = 1 := q6.resolve_right hij
    subst hcc
    clear q4 q6 q3
    go_wp2
    go_loopw [14, 15, 16, 17] (fun r v c m wr => ∃ (k : Nat) (r0 v0 c0 : Int), k ≤ xs.length ∧ m = .int .i64 k ∧ r = .int .i64 r0 ∧ v = .int .i64 v0 ∧ c = .int .i64 c0 ∧ 0 ≤ c0 ∧ c0 ≤ k ∧
      nev (tame l) (20 + z) (decide (i < j)) (xs.drop k) r0 v0 c0 = some ((tp l j).1, (tp l j).2, 1) ∧ Below w4.heap.size w4 wr) (fun _ _ _ m _ => xs.length - (intOf m).toNat)
    case atStart => exact ⟨0, _, _, 0, by omega, rfl, rfl, rfl, rfl, by omega, by omega, q5.out, Below.refl _ _⟩
    case round =>
      obtain ⟨k, r0, v0, c0, hk, rfl, rfl, rfl, rfl, hc1, hc2, hv, hgk⟩ := hrel
      obtain ⟨htk, hsk⟩ := hfin.out wr hgk
      by_cases hkl : k = xs.length
      · subst hkl
        rw [List.drop_length] at hv
        obtain ⟨rfl, rfl, rfl⟩ : r0 = (tp l j).1 ∧ v0 = (tp l j).2 ∧ c0 = 1 := by
          simp only [nev, Option.some.injEq, Prod.mk.injEq] at hv; exact hv
        obtain ⟨b2, o2, e2, hb2, f1, f2⟩ := htk.at_ (k := j) (by rw [← hn.out]; exact hjl)
        cases e2
        rw [htj.out] at f1 f2
        clear hv d1 d2
        go_wp2
        go_ret
        exact ⟨rfl, hg4.trans (hgk.mono hg4.size)⟩
      have hkl : k < xs.length := by omega
      obtain ⟨b2, o2, rfl, hb2, e1, e2⟩ := hsk.at_ hkl
      have hst := nev_step hkl hv
      clear hv d1 d2
      generalize xs[k] = p at *
      obtain ⟨s, x⟩ := p
      simp only at hst e1 e2
      rcases hst with ⟨rfl, hs, hn'⟩ | ⟨rfl, ⟨h1, h2, h3, h4⟩, hs, hn'⟩
      · have S1 := S _ ct x v0 wr htk
        rw [hs] at S1
        replace hn' := Lib.hid hn'
        replace hs := Lib.hid hs
        go_wp2_with (go_at_call 28; refine S1.mono ?_; rintro e w5 ⟨rfl, hb5⟩)
        go_roundw
        case rel => exact ⟨k + 1, x, v0, c0 + 1, by omega, by go_num, rfl, rfl, rfl, by omega, by omega, hn'.out, hgk.trans (hb5.mono hgk.size)⟩
        case measure => simp [intOf]; omega
      · have S1 := S _ ct r0 x wr htk
        rw [hs] at S1
        replace hn' := Lib.hid hn'
        replace hs := Lib.hid hs
        replace h4 := Lib.hid h4
        by_cases hij2 : i < j
        · have h5 : 0 < x - v0 := by have := h4.out; rw [decide_eq_true hij2] at this; exact of_decide_eq_true this
          have h6 : v0 < x := by omega
          have h7 : (x - v0 == 0) = false := by simp; omega
          go_wp2_with (go_at_call 28; refine S1.mono ?_; rintro e w5 ⟨rfl, hb5⟩)
          go_roundw
          case rel => exact ⟨k + 1, r0, x, c0, by omega, by go_num, rfl, rfl, rfl, by omega, by omega, hn'.out, hgk.trans (hb5.mono hgk.size)⟩
          case measure => simp [intOf]; omega
        · have h5 : ¬ 0 < x - v0 := by have := h4.out; rw [decide_eq_false hij2] at this; exact of_decide_eq_false this
          have h6 : ¬ v0 < x := by omega
          have h7 : (x - v0 == 0) = false := by simp; omega
          go_wp2_with (go_at_call 28; refine S1.mono ?_; rintro e w5 ⟨rfl, hb5⟩)
          go_roundw
          case rel => exact ⟨k + 1, r0, x, c0, by omega, by go_num, rfl, rfl, rfl, by omega, by omega, hn'.out, hgk.trans (hb5.mono hgk.size)⟩
          case measure => simp [intOf]; omega
end Go.Proofs.Ythmdhmknadhjeaa
