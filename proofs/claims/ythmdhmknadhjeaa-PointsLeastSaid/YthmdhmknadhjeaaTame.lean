/- Points: tame, pick. -/
import Derived.Test.YthmdhmknadhjeaaWorks
import Derived.Test.YthmdhmknadhjeaaMem4
import Derived.BigRegion
import Derived.Laws.BitsAllLaws
import Derived.Laws.BitsLemmas
namespace Go.Proofs.Ythmdhmknadhjeaa
open Go.RowKit Go.BigFrame

theorem chk_ok : ∀ (l : List Pt) (k : Nat) (a : Pt), (∀ i (h : i < l.length), good (k + i) ((a :: l)[i]'(by simp; omega)) l[i]) → chk k a l = (0, 0)
  | [], _, _, _ => rfl
  | p :: t, k, a, h => by
    unfold chk
    have h0 : good k a p := h 0 (by simp)
    rw [if_pos h0]
    refine chk_ok t (k + 1) p fun i hi => ?_
    have := h (i + 1) (by simpa using hi)
    simpa [Nat.add_assoc, Nat.add_comm 1 i] using this
theorem check_ok {l : List Pt} (hl : 0 < l.length) (h : ∀ i (h : i < l.length), good i (((0, 0) :: l)[i]'(by simp; omega)) l[i]) : check l = (0, 0) := by
  unfold check
  rw [if_neg (by rintro rfl; simp at hl)]
  exact chk_ok l 0 (0, 0) fun i hi => by simpa using h i hi

/-- the k-th point of a tame table -/
def tp (l : List Pt) : Nat → Pt
  | 0 => (7, 11)
  | k + 1 => ((tp l k).1 + 1 + (l.getD k (0, 0)).1 % 4096, (tp l k).2 + (l.getD k (0, 0)).2 % 1024)
def tameK (l : List Pt) (k : Nat) : List Pt := (List.range (k + 1)).map (tp l)
def tame (l : List Pt) : List Pt := tameK l (min l.length 40)
theorem tameK_len (l : List Pt) (k : Nat) : (tameK l k).length = k + 1 := by simp [tameK]
theorem tameK_at (l : List Pt) (k i : Nat) (h : i < (tameK l k).length) : (tameK l k)[i] = tp l i := by simp [tameK]
theorem tameK_succ (l : List Pt) (k : Nat) : tameK l (k + 1) = tameK l k ++ [tp l (k + 1)] := by
  unfold tameK
  rw [List.range_succ (n := k + 1), List.map_append]; rfl
theorem tp_range (l : List Pt) : ∀ k, 7 ≤ (tp l k).1 ∧ (tp l k).1 ≤ 7 + 4096 * k ∧ 11 ≤ (tp l k).2 ∧ (tp l k).2 ≤ 11 + 1023 * k
  | 0 => by simp [tp]
  | k + 1 => by
    have := tp_range l k
    unfold tp
    simp only
    omega
theorem tp_step (l : List Pt) (k : Nat) : (tp l k).1 < (tp l (k + 1)).1 ∧ (tp l k).2 ≤ (tp l (k + 1)).2 := by
  show (tp l k).1 < (tp l k).1 + 1 + (l.getD k (0, 0)).1 % 4096 ∧ (tp l k).2 ≤ (tp l k).2 + (l.getD k (0, 0)).2 % 1024
  omega
theorem tame_len (l : List Pt) : (tame l).length = min l.length 40 + 1 := tameK_len _ _
theorem tame_at (l : List Pt) (i : Nat) (h : i < (tame l).length) : (tame l)[i] = tp l i := tameK_at _ _ _ h
theorem tame_check (l : List Pt) : check (tame l) = (0, 0) := by
  have hl := tame_len l
  refine check_ok (by omega) fun i hi => ?_
  rw [tame_at]
  have hr := tp_range l i
  cases i with
  | zero => exact ⟨by decide, by simp [tp], by simp [tp], by simp [tp], by simp [tp], by simp [tp]⟩
  | succ i =>
    rw [List.getElem_cons_succ, tame_at]
    have := tp_step l i
    have hr0 := tp_range l i
    exact ⟨by omega, this.1, by omega, by omega, this.2, by omega⟩
theorem tame_small (l : List Pt) : Small (tame l) := Or.inr fun p hp => by
  obtain ⟨i, hi, rfl⟩ := List.getElem_of_mem hp
  rw [tame_at]
  have hr := tp_range l i
  have hl := tame_len l
  omega

theorem and_mask (x : Int) (k : Nat) (hk : k ≤ 62) : bits .and .i64 x ((2 ^ k - 1 : Nat) : Int) = x % ((2 ^ k : Nat) : Int) := by
  show IntKind.i64.wrap ((BitVec.ofInt 64 x &&& BitVec.ofInt 64 ((2 ^ k - 1 : Nat) : Int)).toNat : Int) = _
  have hp : 2 ^ k ≤ 2 ^ 62 := Nat.pow_le_pow_right (by decide) hk
  have hp0 : 0 < 2 ^ k := Nat.two_pow_pos k
  rw [BitVec.toNat_and, BitVec.ofInt_natCast, BitVec.toNat_ofNat, Nat.mod_eq_of_lt (a := 2 ^ k - 1) (by omega), Nat.and_two_pow_sub_one_eq_mod, BitVec.toNat_ofInt]
  have e : (((x % ((2 ^ 64 : Nat) : Int)).toNat % 2 ^ k : Nat) : Int) = x % ((2 ^ k : Nat) : Int) := by
    rw [Int.natCast_emod, Int.toNat_of_nonneg (Int.emod_nonneg _ (by decide))]
    refine Int.emod_emod_of_dvd _ ?_
    exact Int.natCast_dvd_natCast.2 (Nat.pow_dvd_pow 2 (by omega))
  rw [e]
  have h1 := Int.emod_nonneg x (show ((2 ^ k : Nat) : Int) ≠ 0 by omega)
  have h2 := Int.emod_lt_of_pos x (show (0 : Int) < ((2 ^ k : Nat) : Int) by omega)
  rw [IntKind.wrap_i64]
  omega

set_option maxHeartbeats 2000000 in
set_option maxRecDepth 100000 in
theorem tame_any (l : List Pt) (A : Option Addr) (c : Nat) (w : World) (h : Pts w A l) :
    Calls Try.prog 23 #[.slice A l.length c] w fun e w' => ∃ A' c', e = .returned (.slice A' (tame l).length c') ∧ Own w' w.heap.size 36 2 ((tame l).map prow) (.slice A' (tame l).length c') ∧ Below w.heap.size w w' := by
  have hlen := h.le
  go_enter Try.func23, Try.ntmps23
  go_wp2
  go_loopw [3, 4] (fun v i wr => ∃ k : Nat, k ≤ l.length ∧ k ≤ 40 ∧ i = .int .i64 k ∧ Own wr w.heap.size 36 2 ((tameK l k).map prow) v ∧ Below w.heap.size w wr) (fun _ i _ => l.length - (intOf i).toNat)
  case atStart => exact ⟨0, by omega, by omega, rfl, Own.lit #[.int .i64 7, .int .i64 11] 1 rfl rfl (prow_len _) (Nat.le_refl _) (by decide), below_al (Below.refl _ _) _⟩
  case round =>
    obtain ⟨k, hk, hk40, rfl, hown, hg⟩ := hrel
    by_cases hkl : k = l.length
    · subst hkl
      have e := Lib.hid (show tame l = tameK l l.length by unfold tame; rw [Nat.min_eq_left hk40])
      obtain ⟨A', c', hv, _⟩ := hown.pts
      subst hv
      go_wp2
      go_ret
      exact ⟨_, _, by rw [e.out]; rfl, by rw [e.out]; exact hown, hg⟩
    have hkl : k < l.length := by omega
    by_cases hk4 : k = 40
    · subst hk4
      have e := Lib.hid (show tame l = tameK l 40 by unfold tame; rw [Nat.min_eq_right (by omega)])
      obtain ⟨A', c', hv, _⟩ := hown.pts
      subst hv
      go_wp2
      go_ret
      exact ⟨_, _, by rw [e.out]; rfl, by rw [e.out]; exact hown, hg⟩
    have hk4 : k < 40 := by omega
    obtain ⟨b, o, rfl, hb, c1, c2⟩ := (h.below hg).at_ hkl
    have hL : ((tameK l k).map prow).length = k + 1 := by rw [List.length_map, tameK_len]
    obtain ⟨g, cap, hv, hg1, hg2, hg3⟩ := hown.form (by rw [hL]; omega)
    rw [hL] at hv hg3
    subst hv
    have hown2 : Own wr w.heap.size 36 2 ((tameK l k).map prow) (.slice (some ⟨g, 0, none⟩) ((tameK l k).map prow).length cap) := by rw [hL]; exact hown
    have hc0 := hown2.cell (k := k) (by rw [List.length_map, tameK_len]; omega) (f := 0) (u := .int .i64 (tp l k).1) (by rw [List.getElem_map, tameK_at]; rfl)
    have hc1 := hown2.cell (k := k) (by rw [List.length_map, tameK_len]; omega) (f := 1) (u := .int .i64 (tp l k).2) (by rw [List.getElem_map, tameK_at]; rfl)
    have hn : Hid (prow (tp l (k + 1)) = [.int .i64 ((tp l k).1 + 1 + l[k].1 % 4096), .int .i64 ((tp l k).2 + l[k].2 % 1024)]) := Lib.hid (by show prow ((tp l k).1 + 1 + (l.getD k (0, 0)).1 % 4096, (tp l k).2 + (l.getD k (0, 0)).2 % 1024) = _; simp [prow, List.getD, hkl])
    have hr := tp_range l k
    have m1 := and_mask l[k].1 12 (by decide)
    have m2 := and_mask l[k].2 10 (by decide)
    obtain ⟨c3, f3⟩ := hc0
    obtain ⟨c4, f4⟩ := hc1
    rw [Nat.add_zero] at c3 f3
    replace hL := Lib.hid hL
    clear hown2
    generalize l[k].1 = q1, l[k].2 = q2, (tp l k).1 = p1, (tp l k).2 = p2 at *
    simp only [Nat.reducePow, Nat.add_one_sub_one] at m1 m2
    have m1' : bits .and .i64 q1 4095 = q1 % 4096 := m1
    have m2' : bits .and .i64 q2 1023 = q2 % 1024 := m2
    clear m1 m2
    have hb1 : 0 ≤ q1 % 4096 ∧ q1 % 4096 < 4096 := ⟨Int.emod_nonneg _ (by decide), Int.emod_lt_of_pos _ (by decide)⟩
    have hb2 : 0 ≤ q2 % 1024 ∧ q2 % 1024 < 1024 := ⟨Int.emod_nonneg _ (by decide), Int.emod_lt_of_pos _ (by decide)⟩
    generalize q1 % 4096 = n1 at *
    generalize q2 % 1024 = n2 at *
    go_wp2
    obtain ⟨v', w3, hrun, ho', hb', hs', _, _⟩ := run_push_at (w := ((wr.alloc (.cells #[.int .i64 p1, .int .i64 p2] 36)).alloc (.cells #[.int .i64 (p1 + 1 + n1), .int .i64 (p2 + n2)] 36)).drew) elt25 25 (Own.drawn ((hown.alloc _).alloc _) ⟨1, rfl⟩) [.int .i64 (p1 + 1 + n1), .int .i64 (p2 + n2)] (wr.heap.size + 1) 36 (heap_alloc_at' _ _ _ (by rw [size_al])) rfl (by simp [Value.oneCell']) (by rw [hL.out]; omega) (by rw [show ∀ W : World, W.drew.heap.size = W.heap.size from fun _ => rfl, size_al, size_al]; have := hg.size; omega)
    replace hrun := Lib.hid hrun
    have k1 : IntKind.i64.wrap (p1 + 1) = p1 + 1 := i64_in _ (by omega)
    have k2 : IntKind.i64.wrap (p1 + 1 + n1) = p1 + 1 + n1 := i64_in _ (by omega)
    have k3 : IntKind.i64.wrap (p2 + n2) = p2 + n2 := i64_in _ (by omega)
    go_region_law (refine step_run rfl (.tmp 24) (.tmp 45) 25 rfl rfl rfl hrun.out ?_)
    all_goals go_wp2
    all_goals go_roundw
    all_goals first
      | exact ⟨k + 1, by omega, by omega, by go_num, by rw [tameK_succ, List.map_append, List.map_singleton, hn.out]; exact ho', (below_al (below_al hg _) _).drew.trans hb'⟩
      | (simp [intOf]; omega)
end Go.Proofs.Ythmdhmknadhjeaa
