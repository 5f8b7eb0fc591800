/- Points: the reference's Next, walked. -/
import Derived.Test.YthmdhmknadhjeaaNxt
namespace Go.Proofs.Ythmdhmknadhjeaa
open Go.RowKit Go.BigFrame flt Ieee

theorem isFin_eq (a : Option Nat) (h : ∀ x, a = some x → nn x) : (!a.isNone && !isInf a) = isFin a := by
  cases a with
  | none => rfl
  | some x =>
    have hr := rung_le (h x rfl)
    show (!decide (rung x = double.infRung)) = decide (rung x < double.infRung)
    by_cases e : rung x = double.infRung
    · rw [decide_eq_true e, decide_eq_false (by omega)]; rfl
    · rw [decide_eq_false e, decide_eq_true (by omega)]; rfl
theorem cls_ok (x : Nat) : ∀ y, cls x = some y → nn y := fun y h => by obtain ⟨rfl, hn⟩ := cls_some h; exact hn
theorem nok_eq (u d : Nat) : nok (cls u) (cls d) = (isFin (cls u) && isFin (cls d) && gt (cls u) (some 0)) := by
  unfold nok
  rw [← isFin_eq _ (cls_ok u), ← isFin_eq _ (cls_ok d)]
  cases hu : cls u with
  | none => rfl
  | some x =>
    cases gt (some x) (some 0) <;> cases isInf (some x) <;> cases isInf (cls d) <;> cases (cls d).isNone <;> rfl
set_option maxHeartbeats 4000000 in
theorem rnext_any (l : List Pt) (A : Option Addr) (c : Nat) (a : Int) (ld up dn : Nat) (w : World) (h : Pts w A l) :
    Calls Try.prog 36 #[.slice A l.length c, .int .i64 a, .float .f64 ld, .float .f64 up, .float .f64 dn] w fun e w' =>
      e = .returned (.tuple #[.int .i64 (nextR l a (cls ld) (cls up) (cls dn)).1, .int .i64 (nextR l a (cls ld) (cls up) (cls dn)).2]) ∧ Below w.heap.size w w' := by
  have hlen := h.le
  have B := may_any l A c w h
  obtain ⟨FS, GS, hs, cs⟩ := veil (op := .sub) (Or.inr (Or.inl rfl)) 62
  have I1 : ∀ W, (FloatKind.f64.format.order (FS up up W) 0 == some .eq) = isFin (cls up) := fun W => by rw [order_z, cs]; exact fin_test _ (cls_ok up)
  have I2 : ∀ W, (FloatKind.f64.format.order (FS dn dn W) 0 == some .eq) = isFin (cls dn) := fun W => by rw [order_z, cs]; exact fin_test _ (cls_ok dn)
  replace I1 : ∀ W, (FloatKind.f64.format.order (FS up up W) 0 != some .eq) = !isFin (cls up) := fun W => by rw [← I1 W]; rfl
  replace I2 : ∀ W, (FloatKind.f64.format.order (FS dn dn W) 0 != some .eq) = !isFin (cls dn) := fun W => by rw [← I2 W]; rfl
  have N2 : (FloatKind.f64.format.order ld ld != some .eq) = (cls ld).isNone := nan_test ld
  have G1 : (FloatKind.f64.format.order up 0 == some .gt) = gt (cls up) (some 0) := by rw [order_z]; rfl
  have G2 : (FloatKind.f64.format.order ld up == some .gt || FloatKind.f64.format.order ld up == some .eq) = ge (cls ld) (cls up) := by rw [order_run]; rfl
  have G3 : (FloatKind.f64.format.order ld dn == some .gt || FloatKind.f64.format.order ld dn == some .eq) = ge (cls ld) (cls dn) := by rw [order_run]; rfl
  clear cs
  generalize hR : nextR l a (cls ld) (cls up) (cls dn) = R
  unfold nextR at hR
  cases ht : tab l
  · have e0 : Hid (R = (0, 280)) := Lib.hid (by rw [← hR, if_pos ht])
    rw [ht] at B
    clear h ht hR I1 I2 N2 G1 G2 G3
    go_enter Try.func36, Try.ntmps36
    go_wp2_with (first | (go_at_call 43; (with_reducible refine B.mono ?_); rintro e w1 ⟨rfl, hb⟩))
    go_ret2
    exact ⟨retR e0.out, hb⟩
  rw [if_neg (by rw [ht]; decide)] at hR
  rw [ht] at B
  clear ht
  by_cases h0 : a < 0
  · have e0 : Hid (R = (0, 1)) := Lib.hid (by rw [← hR, if_pos (Or.inl h0)])
    clear h hR I1 I2 N2 G1 G2 G3
    go_enter Try.func36, Try.ntmps36
    go_wp2_with (first | (go_at_call 43; (with_reducible refine B.mono ?_); rintro e w1 ⟨rfl, hb⟩))
    go_ret2
    exact ⟨retR e0.out, hb⟩
  by_cases h1 : (l.length : Int) ≤ a
  · have e0 : Hid (R = (0, 1)) := Lib.hid (by rw [← hR, if_pos (Or.inr h1)])
    clear h hR I1 I2 N2 G1 G2 G3
    go_enter Try.func36, Try.ntmps36
    go_wp2_with (first | (go_at_call 43; (with_reducible refine B.mono ?_); rintro e w1 ⟨rfl, hb⟩))
    go_ret2
    exact ⟨retR e0.out, hb⟩
  rw [if_neg (by rintro (q | q) <;> omega)] at hR
  obtain ⟨n, rfl⟩ := Int.eq_ofNat_of_zero_le (Int.not_lt.mp h0)
  have hn : n < l.length := by omega
  simp only [Int.toNat_natCast] at hR
  rw [nok_eq] at hR
  generalize hL : (cls ld).isNone = nL at *
  generalize isFin (cls up) = fU at *
  generalize isFin (cls dn) = fD at *
  generalize gt (cls up) (some 0) = gU at *
  generalize ge (cls ld) (cls up) = lu at *
  generalize ge (cls ld) (cls dn) = ldn at *
  clear hL h0 h1
  have hbad : (fU && fD && gU) = false → Calls Try.prog 36 #[.slice A l.length c, .int .i64 n, .float .f64 ld, .float .f64 up, .float .f64 dn] w fun e w' => e = .returned (.tuple #[.int .i64 0, .int .i64 1]) ∧ Below w.heap.size w w' := by
    intro hq
    clear hR h G2 G3 N2
    cases fU
    · clear hq I2 G1
      go_enter Try.func36, Try.ntmps36
      go_wp2_with (first | (go_at_call 43; (with_reducible refine B.mono ?_); rintro e w1 ⟨rfl, hb⟩))
      go_ret2
      exact ⟨rfl, below_drewN' hb _⟩
    · cases fD
      · clear hq G1
        go_enter Try.func36, Try.ntmps36
        go_wp2_with (first | (go_at_call 43; (with_reducible refine B.mono ?_); rintro e w1 ⟨rfl, hb⟩))
        go_ret2
        exact ⟨rfl, below_drewN' hb _⟩
      · cases gU
        · clear hq
          go_enter Try.func36, Try.ntmps36
          go_wp2_with (first | (go_at_call 43; (with_reducible refine B.mono ?_); rintro e w1 ⟨rfl, hb⟩))
          go_ret2
          exact ⟨rfl, below_drewN' hb _⟩
        · cases hq
  cases hok : (fU && fD && gU)
  · rw [hok, if_pos rfl] at hR
    subst hR
    exact hbad hok
  · clear hbad
    rw [hok, if_neg (by decide)] at hR
    simp only [Bool.and_eq_true] at hok
    obtain ⟨⟨rfl, rfl⟩, rfl⟩ := hok
    have hwr : IntKind.i64.wrap ((l.length : Int) - 1) = (l.length : Int) - 1 := by rw [IntKind.wrap_i64]; omega
    cases nL
    · rw [if_neg (by decide)] at hR
      cases lu
      · rw [if_neg (by decide)] at hR
        cases ldn
        · rw [if_neg (by decide)] at hR
          obtain ⟨FM, GM, hm, cm⟩ := veil (op := .mul) (Or.inr (Or.inr (Or.inl rfl))) 62
          obtain ⟨FQ, GQ, hq, cq⟩ := veil (op := .quo) (Or.inr (Or.inr (Or.inr rfl))) 62
          replace cm := Lib.hid cm
          replace cq := Lib.hid cq
          obtain ⟨b, o, rfl, hbl, c0, -⟩ := Pts.at_ h hn
          rw [show (l.getD n (0, 0)).1 = l[n].1 by rw [List.getD, List.getElem?_eq_getElem hn]; rfl] at hR
          have hwc : Hid (∀ W W', cls (FQ (FM (floatOfInt .f64 l[n].1) ld W) up W') = op2 .quo (op2 .mul (fi l[n].1) (cls ld)) (cls up)) := Lib.hid (fun W W' => by rw [cq.out, cm.out, cls_fi])
          generalize op2 .quo (op2 .mul (fi l[n].1) (cls ld)) (cls up) = wcl at *
          generalize l[n].1 = x at *
          clear hwr
          replace hR := Lib.hid hR
          go_enter Try.func36, Try.ntmps36
          go_upto_region 11 with (first | (go_at_call 43; (with_reducible refine B.mono ?_); rintro e w1 ⟨rfl, hb⟩))
          replace hb : Below w.heap.size w (w1.drewN (GS up up + GS dn dn)) := below_drewN' hb _
          generalize w1.drewN (GS up up + GS dn dn) = w2 at *
          have c0' := (hb.cell (p := ⟨b, o + n * 2, none⟩) hbl).trans c0
          go_upto_region 12 with fail
          have hz := hwc.out w2 (w2.drewN (GM (floatOfInt .f64 x) ld))
          generalize FQ (FM (floatOfInt .f64 x) ld w2) up (w2.drewN (GM (floatOfInt .f64 x) ld)) = z at *
          have hb3 : Below w.heap.size w (w2.drewN (GM (floatOfInt .f64 x) ld + GQ (FM (floatOfInt .f64 x) ld w2) up)) := below_drewN' hb _
          generalize w2.drewN _ = w3 at *
          clear G1 G2 G3 I1 I2 N2 hm hq cm cq hwc c0 c0' hb B
          replace hz := Lib.hid hz
          go_wp2
          go_loopw [13] (fun i wr => ∃ k : Nat, k ≤ n ∧ i = .int .i64 k ∧ nxt l wcl n n 0 = nxt l wcl n (n - k) k ∧ Below w.heap.size w wr) (fun i _ => n - (intOf i).toNat)
          case atStart => exact ⟨0, by omega, rfl, rfl, hb3⟩
          case round =>
            clear hb3
            obtain ⟨k, hk, rfl, hx, hd⟩ := hrel
            replace hx := Lib.hid hx
            have hp := h.below hd
            by_cases hkn : k = n
            · subst hkn
              have e0 : Hid (R = ((k : Int), 0)) := Lib.hid (by rw [← hR.out, hx.out, Nat.sub_self]; rfl)
              clear hp
              go_wp2
              go_ret2
              exact ⟨retR e0.out, hd⟩
            have hkl : k < l.length := by omega
            have hkn2 : k < n := by omega
            obtain ⟨b2, o2, hA, hbl2, d0, d1⟩ := Pts.at_ hp hkl
            cases hA
            have hs := Lib.hid (nxt_step (w := wcl) (a := (n : Int)) (n := n - k - 1) hkl)
            have ht : (FloatKind.f64.format.order (floatOfInt .f64 l[k].1) z == some .gt || FloatKind.f64.format.order (floatOfInt .f64 l[k].1) z == some .eq) = ge (fi l[k].1) wcl := by rw [order_run, cls_fi, hz.out]; rfl
            generalize l[k].1 = y at *
            generalize l[k].2 = v at *
            clear hp
            cases hg : ge (fi y) wcl
            · have hx2 : Hid (nxt l wcl n n 0 = nxt l wcl n (n - (k + 1)) (k + 1)) := Lib.hid (by
                rw [hx.out, show n - k = n - k - 1 + 1 by omega, hs.out, hg, if_neg (by decide)]
                congr 1)
              rw [hg] at ht
              clear hg hs hx
              go_wp2
              go_roundw
              case rel => exact ⟨k + 1, by omega, by go_num, hx2.out, hd⟩
              case measure => simp [intOf]; omega
            · have e0 : Hid (R = ((k : Int), 0)) := Lib.hid (by rw [← hR.out, hx.out, show n - k = n - k - 1 + 1 by omega, hs.out, hg, if_pos rfl])
              rw [hg] at ht
              clear hg hs hx
              go_wp2
              go_ret2
              exact ⟨retR e0.out, hd⟩
        · rw [if_pos rfl] at hR
          replace hR := Lib.hid hR
          clear h hwr
          go_enter Try.func36, Try.ntmps36
          go_wp2_with (first | (go_at_call 43; (with_reducible refine B.mono ?_); rintro e w1 ⟨rfl, hb⟩))
          go_ret2
          exact ⟨retR hR.out.symm, below_drewN' hb _⟩
      · rw [if_pos rfl] at hR
        replace hR := Lib.hid hR
        clear h G3
        go_enter Try.func36, Try.ntmps36
        go_wp2_with (first | (go_at_call 43; (with_reducible refine B.mono ?_); rintro e w1 ⟨rfl, hb⟩))
        go_ret2
        exact ⟨retR hR.out.symm, below_drewN' hb _⟩
    · rw [if_pos rfl] at hR
      replace hR := Lib.hid hR
      clear h hwr G2 G3
      go_enter Try.func36, Try.ntmps36
      go_wp2_with (first | (go_at_call 43; (with_reducible refine B.mono ?_); rintro e w1 ⟨rfl, hb⟩))
      go_ret2
      exact ⟨retR hR.out.symm, below_drewN' hb _⟩
end Go.Proofs.Ythmdhmknadhjeaa
