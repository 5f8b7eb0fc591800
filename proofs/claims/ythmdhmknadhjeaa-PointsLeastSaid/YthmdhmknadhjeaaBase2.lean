/- Points: the reference's Check, and what hangs on the two. -/
import Derived.Test.YthmdhmknadhjeaaBase
namespace Go.Proofs.Ythmdhmknadhjeaa
open Go.RowKit Go.BigFrame

theorem size_drewN (w : World) (n : Nat) : (w.drewN n).heap.size = w.heap.size := rfl
theorem i64_in (n : Int) (h : -9223372036854775808 ≤ n ∧ n ≤ 9223372036854775807) : IntKind.i64.wrap n = n := by rw [IntKind.wrap_i64]; omega

/-- the point ahead -/
def Ahead (l : List Pt) (k : Nat) (a : Pt) : Prop := (k = 0 → a = (0, 0)) ∧ (0 < k → l[k - 1]? = some a)

set_option maxHeartbeats 4000000 in
set_option maxRecDepth 100000 in
theorem rcheck_any (l : List Pt) (A : Option Addr) (c : Nat) (w : World) (h : Pts w A l) :
    Calls Try.prog 46 #[.slice A l.length c] w fun e w' => e = .returned (.tuple #[.int .i64 (check l).1, .int .i64 (check l).2]) ∧ Below w.heap.size w w' := by
  have hlen := h.le
  go_enter Try.func46, Try.ntmps46
  go_wp2
  go_loopw [4] (fun v wr => ∃ (k : Nat) (a : Pt), k ≤ l.length ∧ v = .int .i64 k ∧ Below w.heap.size w wr ∧ w.heap.size ≤ wr.heap.size ∧ Ahead l k a ∧ 0 ≤ a.1 ∧ 0 ≤ a.2 ∧
      chk 0 (0, 0) l = chk k a (l.drop k)) (fun v _ => l.length - (intOf v).toNat)
  case atStart => exact ⟨0, (0, 0), by omega, rfl, Below.refl _ _, Nat.le_refl _, ⟨fun _ => rfl, fun h => absurd h (by omega)⟩, by decide, by decide, rfl⟩
  case round =>
    obtain ⟨k, a, hk, rfl, hg, hB, ⟨ha0, ha1⟩, hn1, hn2, hc⟩ := hrel
    by_cases hkl : k = l.length
    · subst hkl
      clear ha0 ha1
      by_cases h0 : l = []
      · subst h0
        go_wp2
        go_ret2
        exact ⟨rfl, hg⟩
      · have e := Lib.hid (chk_all (Nat.le_refl _) h0 hc)
        have h0' : 0 < l.length := List.length_pos_iff.2 h0
        clear hc
        go_wp2
        go_ret2
        exact ⟨ret_chk e.out, hg⟩
    have hkl : k < l.length := by omega
    obtain ⟨b, o, rfl, hb, c1, c2⟩ := (h.below hg).at_ hkl
    have hnext : Hid (Ahead l (k + 1) l[k]) := Lib.hid ⟨fun h => by omega, fun _ => by simp [hkl]⟩
    by_cases hgd : good k a l[k]
    · have hc2 := Lib.hid (show chk 0 (0, 0) l = chk (k + 1) l[k] (l.drop (k + 1)) by rw [hc, chk_step hkl, if_pos hgd])
      obtain ⟨h1, h2, h3, h4, h5, h6⟩ := hgd
      clear hc
      generalize l[k] = q at *
      obtain ⟨r, v⟩ := q
      simp only at h2 h3 h4 h5 h6 c1 c2
      by_cases hk0 : k = 0
      · subst hk0
        obtain rfl := ha0 rfl
        clear ha1 ha0
        simp only at h2 h5
        simp only [Nat.zero_mul, Nat.add_zero] at c1 c2
        go_wp2
        have g2 : ¬ r < 1 := by omega
        have g3 : ¬ (1000000000000 : Int) < r := by omega
        have g4 : ¬ v < 1 := by omega
        have g5 : ¬ (1000000000000 : Int) < v := by omega
        go_big_quiet (fail)
        clear g2 g3 g4 g5
        go_wp2
        go_roundw
        case rel => exact ⟨0 + 1, (r, v), by omega, by go_num, below_drewN' (below_al hg _) _, by rw [size_drewN, size_al]; omega, hnext.out, by show (0 : Int) ≤ r; omega, by show (0 : Int) ≤ v; omega, hc2.out⟩
        case measure => simp [intOf]; omega
      · have hk1 : 0 < k := by omega
        have hk2 : (1 : Int) ≤ k := by omega
        obtain ⟨b', o', e', _, c3, c4⟩ := (h.below hg).at_ (k := k - 1) (by omega)
        cases e'
        have ha := ha1 hk1
        rw [List.getElem?_eq_getElem (by omega)] at ha
        simp only [Option.some.injEq] at ha
        rw [ha] at c3 c4
        clear ha ha1 ha0
        have g8 : IntKind.i64.wrap ((k : Int) - 1) = ((k - 1 : Nat) : Int) := by rw [i64_in _ (by omega)]; omega
        have g9 : k - 1 < l.length := by omega
        generalize k - 1 = j at *
        go_wp2
        have g1 : ¬ 64 ≤ (k : Int) := by omega
        have g2 : ¬ r < 1 := by omega
        have g3 : ¬ (1000000000000 : Int) < r := by omega
        have g4 : ¬ v < 1 := by omega
        have g5 : ¬ (1000000000000 : Int) < v := by omega
        have g6 : ¬ r ≤ a.1 := by omega
        have g7 : ¬ v < a.2 := by omega
        go_big_quiet (fail)
        clear g1 g2 g3 g4 g5 g6 g7
        go_wp2
        go_roundw
        case rel => exact ⟨k + 1, (r, v), by omega, by go_num, below_drewN' (below_al hg _) _, by rw [size_drewN, size_al]; omega, hnext.out, by show (0 : Int) ≤ r; omega, by show (0 : Int) ≤ v; omega, hc2.out⟩
        case measure => simp [intOf]; omega
    · have e := Lib.hid (chk_bad hkl hgd hc)
      clear hc hnext
      generalize l[k] = q at *
      obtain ⟨r, v⟩ := q
      simp only [good] at hgd c1 c2
      by_cases q1 : ¬ (k < 64)
      · have q := q1
        clear hgd
        go_wp2
        have g1 : 64 ≤ (k : Int) := by omega
        go_big_quiet (fail)
        clear g1
        go_wp2
        go_ret2
        exact ⟨ret_chk e.out, below_drewN' (below_al hg _) _⟩
      by_cases q2 : ¬ (1 ≤ r)
      · have q := q2
        clear hgd
        go_wp2
        have g1 : ¬ 64 ≤ (k : Int) := by omega
        have g2 : r < 1 := by omega
        go_big_quiet (fail)
        clear g1 g2
        go_wp2
        go_ret2
        exact ⟨ret_chk e.out, below_drewN' (below_al hg _) _⟩
      by_cases q3 : ¬ (r ≤ 1000000000000)
      · have q := q3
        clear hgd
        go_wp2
        have g1 : ¬ 64 ≤ (k : Int) := by omega
        have g2 : ¬ r < 1 := by omega
        have g3 : (1000000000000 : Int) < r := by omega
        go_big_quiet (fail)
        clear g1 g2 g3
        go_wp2
        go_ret2
        exact ⟨ret_chk e.out, below_drewN' (below_al hg _) _⟩
      by_cases q4 : ¬ (1 ≤ v)
      · have q := q4
        clear hgd
        go_wp2
        have g1 : ¬ 64 ≤ (k : Int) := by omega
        have g2 : ¬ r < 1 := by omega
        have g3 : ¬ (1000000000000 : Int) < r := by omega
        have g4 : v < 1 := by omega
        go_big_quiet (fail)
        clear g1 g2 g3 g4
        go_wp2
        go_ret2
        exact ⟨ret_chk e.out, below_drewN' (below_al hg _) _⟩
      by_cases q5 : ¬ (v ≤ 1000000000000)
      · have q := q5
        clear hgd
        go_wp2
        have g1 : ¬ 64 ≤ (k : Int) := by omega
        have g2 : ¬ r < 1 := by omega
        have g3 : ¬ (1000000000000 : Int) < r := by omega
        have g4 : ¬ v < 1 := by omega
        have g5 : (1000000000000 : Int) < v := by omega
        go_big_quiet (fail)
        clear g1 g2 g3 g4 g5
        go_wp2
        go_ret2
        exact ⟨ret_chk e.out, below_drewN' (below_al hg _) _⟩
      have q1 : k < 64 := by omega
      have q2 : 1 ≤ r := by omega
      have q3 : r ≤ 1000000000000 := by omega
      have q4 : 1 ≤ v := by omega
      have q5 : v ≤ 1000000000000 := by omega
      by_cases hk0 : k = 0
      · subst hk0
        obtain rfl := ha0 rfl
        exact absurd ⟨q1, by show (0 : Int) < r; omega, q3, q4, by show (0 : Int) ≤ v; omega, q5⟩ hgd
      have hk1 : 0 < k := by omega
      have hk2 : (1 : Int) ≤ k := by omega
      obtain ⟨b', o', e', _, c3, c4⟩ := (h.below hg).at_ (k := k - 1) (by omega)
      cases e'
      have ha := ha1 hk1
      rw [List.getElem?_eq_getElem (by omega)] at ha
      simp only [Option.some.injEq] at ha
      rw [ha] at c3 c4
      clear ha ha1 ha0
      have g8 : IntKind.i64.wrap ((k : Int) - 1) = ((k - 1 : Nat) : Int) := by rw [i64_in _ (by omega)]; omega
      have g9 : k - 1 < l.length := by omega
      generalize k - 1 = j at *
      by_cases q6 : a.1 < r
      · have q7 : v < a.2 := by
          rcases Int.lt_or_le v a.2 with q | q
          · exact q
          · exact absurd ⟨q1, q6, q3, q4, q, q5⟩ hgd
        clear hgd
        go_wp2
        have g1 : ¬ 64 ≤ (k : Int) := by omega
        have g2 : ¬ r < 1 := by omega
        have g3 : ¬ (1000000000000 : Int) < r := by omega
        have g4 : ¬ v < 1 := by omega
        have g5 : ¬ (1000000000000 : Int) < v := by omega
        have g6 : ¬ r ≤ a.1 := by omega
        have g7 : v < a.2 := by omega
        go_big_quiet (fail)
        clear g1 g2 g3 g4 g5 g6 g7
        go_wp2
        go_ret2
        exact ⟨ret_chk e.out, below_drewN' (below_al hg _) _⟩
      · have q := q6
        clear hgd
        go_wp2
        have g1 : ¬ 64 ≤ (k : Int) := by omega
        have g2 : ¬ r < 1 := by omega
        have g3 : ¬ (1000000000000 : Int) < r := by omega
        have g4 : ¬ v < 1 := by omega
        have g5 : ¬ (1000000000000 : Int) < v := by omega
        have g6 : r ≤ a.1 := by omega
        go_big_quiet (fail)
        clear g1 g2 g3 g4 g5 g6
        go_wp2
        go_ret2
        exact ⟨ret_chk e.out, below_drewN' (below_al hg _) _⟩
end Go.Proofs.Ythmdhmknadhjeaa
