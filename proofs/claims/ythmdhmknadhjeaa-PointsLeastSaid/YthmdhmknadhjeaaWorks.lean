/- Points: small, Power where it gives numbers, works. -/
import Derived.Test.YthmdhmknadhjeaaBtw2
import Derived.Test.YthmdhmknadhjeaaVotes
import Derived.Laws.FloatArith
namespace Go.Proofs.Ythmdhmknadhjeaa
open Go.RowKit Go.BigFrame

abbrev smallL : List Pt := [(100, 800), (200, 900), (400, 1000)]
theorem small_any (w : World) : Calls Try.prog 31 #[] w fun e w' => ∃ A c, e = .returned (.slice A smallL.length c) ∧ Own w' w.heap.size 36 2 (smallL.map prow) (.slice A smallL.length c) ∧ Below w.heap.size w w' := by
  go_enter Try.func31, Try.ntmps31
  go_wp2
  go_ret
  exact ⟨_, 3, rfl, Own.lit #[.int .i64 100, .int .i64 800, .int .i64 200, .int .i64 900, .int .i64 400, .int .i64 1000] 3 rfl rfl (by decide) (Nat.le_refl _) (by decide), below_al (Below.refl _ _) _⟩

set_option maxHeartbeats 1000000 in
theorem power_num (x y : Int) (f k v a1 a2 a3 b s : Nat) (w : World)
    (h1 : floatBits .quo .f64 (floatOfInt .f64 y) 4696837146684686336 = some v) (h2 : floatBits .mul .f64 f v = some a1) (h3 : floatBits .mul .f64 a1 v = some a2) (h4 : floatBits .mul .f64 a2 (floatOfInt .f64 x) = some a3)
    (h5 : floatBits .mul .f64 k v = some b) (h6 : floatBits .add .f64 a3 b = some s) :
    Calls Try.prog 37 #[.agg #[.int .i64 x, .int .i64 y], .float .f64 f, .float .f64 k] w fun e w' => e = .returned (.float .f64 s) ∧ Below w.heap.size w w' := by
  have r1 := fun w : World => run_float_arith (P := Try.prog) w .quo 62 .f64 _ _ _ h1
  have r2 := fun w : World => run_float_arith (P := Try.prog) w .mul 62 .f64 _ _ _ h2
  have r3 := fun w : World => run_float_arith (P := Try.prog) w .mul 62 .f64 _ _ _ h3
  have r4 := fun w : World => run_float_arith (P := Try.prog) w .mul 62 .f64 _ _ _ h4
  have r5 := fun w : World => run_float_arith (P := Try.prog) w .mul 62 .f64 _ _ _ h5
  have r6 := fun w : World => run_float_arith (P := Try.prog) w .add 62 .f64 _ _ _ h6
  clear h1 h2 h3 h4 h5 h6
  go_enter Try.func37, Try.ntmps37
  go_wp2
  go_ret
  exact ⟨rfl, below_al (Below.refl _ _) _⟩

theorem power_lit (w : World) : Calls Try.prog 37 #[.agg #[.int .i64 1000000, .int .i64 2000000], .float .f64 4602678819172646912, .float .f64 4598175219545276416] w fun e w' => e = .returned (.float .f64 4701340748459540480) ∧ Below w.heap.size w w' :=
  power_num 1000000 2000000 _ _ 4611686018427387904 4607182418800017408 4611686018427387904 4701340746312056832 4602678819172646912 4701340748459540480 w (by kernel_rfl) (by kernel_rfl) (by kernel_rfl) (by kernel_rfl) (by kernel_rfl) (by kernel_rfl)
theorem Own.tab2 {w : World} {A : Option Addr} {c : Nat} {l : List Pt} (h : Pts w A l) : ∃ B, B = some ⟨w.heap.size, 0, none⟩ ∧ Tabs (w.alloc (.cells #[.slice A l.length c, .slice A l.length c] 25)) B [l, l] := by
  refine ⟨_, rfl, by simp, fun k hk => ?_⟩
  have hp : Pts (w.alloc (.cells #[.slice A l.length c, .slice A l.length c] 25)) A l := h.alloc _
  match k, hk with
  | 0, _ => exact ⟨_, 0, A, c, rfl, by rw [size_al]; omega, cell_of_row _ _ 0 _ 25 (0, 0) (heap_alloc_at _ _), hp⟩
  | 1, _ => exact ⟨_, 0, A, c, rfl, by rw [size_al]; omega, cell_of_row _ _ 1 _ 25 (0, 0) (heap_alloc_at _ _), hp⟩
theorem small_small : Small smallL := Or.inr (by decide)

set_option maxHeartbeats 4000000 in
set_option maxRecDepth 100000 in
theorem works_any (w : World) : Calls Try.prog 22 #[] w fun e w' => e = .returned (.bool true) ∧ Below w.heap.size w w' := by
  have F := fun A c w => for_any smallL A c 150 w
  rw [show forp smallL 150 = (1, 0) by decide] at F
  have U := fun A c w => under_any smallL A c 950 w
  rw [show und smallL 950 = (1, 0) by decide] at U
  have C := fun A c w => change_any smallL A c 0 2 150 w
  rw [show chg smallL 0 2 150 = ([(1, 950), (1, 1000), (2, 400)], 0) by decide] at C
  have V := fun A R c d w => vote_any [smallL, smallL] [150, 400] A R c d w
  rw [show vote [smallL, smallL] [150, 400] = (1000, [1, 2], 0) by decide] at V
  have T := fun A c w h => between_any smallL A c 250 w h small_small
  rw [show btw smallL 250 = (925, 0) by decide] at T
  simp only [List.length_cons, List.length_nil, Nat.zero_add, Nat.reduceAdd] at F U C V T
  go_enter Try.func22, Try.ntmps22
  go_wp2_with fail
  refine (small_any _).mono ?_
  rintro e w1 ⟨A, c, rfl, ho, hb1⟩
  obtain ⟨A', c', e', hp1⟩ := ho.pts
  simp only [Value.slice.injEq, true_and] at e'
  obtain ⟨rfl, rfl⟩ := e'
  simp only [List.length_cons, List.length_nil, Nat.zero_add, Nat.reduceAdd]
  clear ho
  go_wp2_with fail
  refine (F _ _ _ hp1).mono ?_
  rintro e w2 ⟨rfl, hb2⟩
  replace hp2 := hp1.below hb2
  go_wp2_with fail
  refine (U _ _ _ hp2).mono ?_
  rintro e w3 ⟨rfl, hb3⟩
  have hp3 := hp2.below hb3
  go_wp2_with fail
  refine (C _ _ _ hp3).mono ?_
  rintro e w4 ⟨vs, rfl, hs, hb4⟩
  have hp4 := hp3.below hb4
  obtain ⟨As, cs, rfl, hss⟩ := hs.sts
  simp only [List.length_cons, List.length_nil, Nat.zero_add, Nat.reduceAdd]
  obtain ⟨B, hB, hT⟩ := Own.tab2 (c := c) hp4
  subst hB
  have hT2 := hT.below (below_al (Below.refl _ _) (.cells #[.int .i64 150, .int .i64 400] 2))
  have hI : Ints ((w4.alloc (.cells #[.slice A 3 c, .slice A 3 c] 25)).alloc (.cells #[.int .i64 150, .int .i64 400] 2)) (some ⟨w4.heap.size + 1, 0, none⟩) [150, 400] := by
    obtain ⟨A', c', e', hi⟩ := Own.ints (l := [150, 400]) (Own.lit (w := w4.alloc (.cells #[.slice A 3 c, .slice A 3 c] 25)) (base := 0) (e := 2) #[.int .i64 150, .int .i64 400] 2 rfl rfl (by decide) (Nat.zero_le _) (by decide))
    simp only [Value.slice.injEq] at e'
    obtain ⟨rfl, _, _⟩ := e'
    rw [size_al] at hi
    exact hi
  go_wp2_with fail
  refine (V _ _ _ _ _ hT2 hI).mono ?_
  rintro e w5 ⟨vp, rfl, hv, hb5⟩
  have hp5 := ((hp4.alloc (.cells #[.slice A 3 c, .slice A 3 c] 25)).alloc (.cells #[.int .i64 150, .int .i64 400] 2)).below' hb5
  have hss5 := ((Sl.alloc (Sl.below' hss (Below.refl _ _)) (.cells #[.slice A 3 c, .slice A 3 c] 25)).alloc (.cells #[.int .i64 150, .int .i64 400] 2)).below' hb5
  obtain ⟨Av, cv, rfl, _⟩ := Own.ints (l := [1, 2]) hv
  simp only [List.length_cons, List.length_nil, Nat.zero_add, Nat.reduceAdd]
  go_wp2_with fail
  refine (T _ _ _ hp5).mono ?_
  rintro e w6 ⟨rfl, hb6⟩
  obtain ⟨b0, o0, rfl, _, c00, c01⟩ := Sts.at_ (l := [(1, 950), (1, 1000), (2, 400)]) (Sl.below' hss5 hb6) (k := 0) (by decide)
  obtain ⟨b0', o0', e0, _, c20, c21⟩ := Sts.at_ (l := [(1, 950), (1, 1000), (2, 400)]) (Sl.below' hss5 hb6) (k := 2) (by decide)
  cases e0
  simp only [List.getElem_cons_zero, List.getElem_cons_succ, Nat.zero_mul, Nat.add_zero, Nat.reduceMul] at c00 c01 c20 c21
  have hbs : Below w.heap.size w w6 := by
    have h1 := hb1.size
    have h2 := hb2.size
    have h3 := hb3.size
    have h4 := hb4.size
    have h5 := hb5.size
    rw [size_al, size_al] at h5
    exact ((((((hb1.trans (hb2.mono h1)).trans (hb3.mono (by omega))).trans (hb4.mono (by omega))).trans (((Below.refl _ _).alloc (by omega) _).alloc (by rw [size_al]; omega) _)).trans (hb5.mono (by rw [size_al, size_al]; omega))).trans (hb6.mono (by omega)))
  clear hb1 hb2 hb3 hb4 hb5 hp1 hp2 hp3 hp4 hp5 hss hss5 hT hT2 hI hs hv F U C V T
  go_wp2_with (go_at_call 37; refine (power_lit _).mono ?_; rintro e w7 ⟨rfl, hb7⟩)
  go_ret
  exact ⟨rfl, hbs.trans (hb7.mono hbs.size)⟩
end Go.Proofs.Ythmdhmknadhjeaa
