/- Points: Next, walked. -/
import Derived.Test.YthmdhmknadhjeaaRbest
import Derived.Deep.Cut
namespace Go.Proofs.Ythmdhmknadhjeaa
open Go.RowKit Go.BigFrame flt Ieee

/-- may one ask so? -/
def nok (U D : Option Nat) : Bool := gt U (some 0) && !isInf U && !isInf D && !D.isNone
/-- what Next tells -/
def nextR (l : List Pt) (a : Int) (L U D : Option Nat) : Int × Int :=
  if tab l = false then (0, 280) else if a < 0 ∨ (l.length : Int) ≤ a then (0, 1) else if nok U D = false then (0, 1)
  else if L.isNone = true then (a, 0) else if ge L U = true then ((l.length : Int) - 1, 0) else if ge L D = true then (a, 0)
  else (nxt l (op2 .quo (op2 .mul (fi (l.getD a.toNat (0, 0)).1) L) U) a a.toNat 0, 0)
theorem nxt_step {l : List Pt} {w : Option Nat} {a : Int} {n k : Nat} (hk : k < l.length) : nxt l w a (n + 1) k = if ge (fi l[k].1) w = true then (k : Int) else nxt l w a n (k + 1) := by
  simp only [nxt, List.getD, List.getElem?_eq_getElem hk, Option.getD_some]
set_option maxHeartbeats 4000000 in
theorem next_any (l : List Pt) (A : Option Addr) (c : Nat) (a : Int) (ld up dn : Nat) (w : World) (h : Pts w A l) (hcap : l.length ≤ c) :
    Calls Try.prog 30 #[.slice A l.length c, .int .i64 a, .float .f64 ld, .float .f64 up, .float .f64 dn] w fun e w' =>
      e = .returned (.tuple #[.int .i64 (nextR l a (cls ld) (cls up) (cls dn)).1, .int .i64 (nextR l a (cls ld) (cls up) (cls dn)).2]) ∧ Below w.heap.size w w' := by
  have hlen := h.le
  have B := bad_any l A c w h
  have I1 := isInf_any up
  have I2 := isInf_any dn
  have N1 := isNaN_any dn
  have N2 := isNaN_any ld
  have G1 : (FloatKind.f64.format.order up 0 == some .gt) = gt (cls up) (some 0) := by rw [order_z]; rfl
  have G2 : (FloatKind.f64.format.order ld up == some .gt || FloatKind.f64.format.order ld up == some .eq) = ge (cls ld) (cls up) := by rw [order_run]; rfl
  have G3 : (FloatKind.f64.format.order ld dn == some .gt || FloatKind.f64.format.order ld dn == some .eq) = ge (cls ld) (cls dn) := by rw [order_run]; rfl
  generalize hR : nextR l a (cls ld) (cls up) (cls dn) = R
  unfold nextR at hR
  rcases check_two l with ht | ht
  · have e0 : Hid (R = (0, 280)) := Lib.hid (by rw [← hR, if_pos (by unfold tab; rw [ht]; rfl)])
    rw [ht] at B
    clear h ht hR I1 I2 N1 N2 G1 G2 G3
    go_enter Try.func30, Try.ntmps30
    go_wp2_with (go_at_call 41; (with_reducible refine B.mono ?_); rintro e w1 ⟨rfl, hb⟩)
    go_ret2
    exact ⟨retR e0.out, hb⟩
  rw [if_neg (by unfold tab; rw [ht]; decide)] at hR
  rw [ht] at B
  clear ht
  by_cases h0 : a < 0
  · have e0 : Hid (R = (0, 1)) := Lib.hid (by rw [← hR, if_pos (Or.inl h0)])
    clear h hR I1 I2 N1 N2 G1 G2 G3
    go_enter Try.func30, Try.ntmps30
    go_wp2_with (go_at_call 41; (with_reducible refine B.mono ?_); rintro e w1 ⟨rfl, hb⟩)
    go_ret2
    exact ⟨retR e0.out, hb⟩
  by_cases h1 : (l.length : Int) ≤ a
  · have e0 : Hid (R = (0, 1)) := Lib.hid (by rw [← hR, if_pos (Or.inr h1)])
    clear h hR I1 I2 N1 N2 G1 G2 G3
    go_enter Try.func30, Try.ntmps30
    go_wp2_with (go_at_call 41; (with_reducible refine B.mono ?_); rintro e w1 ⟨rfl, hb⟩)
    go_ret2
    exact ⟨retR e0.out, hb⟩
  rw [if_neg (by rintro (q | q) <;> omega)] at hR
  obtain ⟨n, rfl⟩ := Int.eq_ofNat_of_zero_le (Int.not_lt.mp h0)
  have hn : n < l.length := by omega
  simp only [Int.toNat_natCast] at hR
  unfold nok at hR
  generalize hD : (cls dn).isNone = nD at *
  generalize hL : (cls ld).isNone = nL at *
  generalize isInf (cls up) = iU at *
  generalize isInf (cls dn) = iD at *
  generalize gt (cls up) (some 0) = gU at *
  generalize ge (cls ld) (cls up) = lu at *
  generalize ge (cls ld) (cls dn) = ldn at *
  clear hD hL h0 h1
  have hbad : (gU && !iU && !iD && !nD) = false → Calls Try.prog 30 #[.slice A l.length c, .int .i64 n, .float .f64 ld, .float .f64 up, .float .f64 dn] w fun e w' => e = .returned (.tuple #[.int .i64 0, .int .i64 1]) ∧ Below w.heap.size w w' := by
    intro hq
    clear hR h G2 G3 N2
    cases gU
    · clear hq I1 I2 N1
      go_enter Try.func30, Try.ntmps30
      go_wp2_with (go_at_call 41; (with_reducible refine B.mono ?_); rintro e w1 ⟨rfl, hb⟩)
      go_ret2
      exact ⟨rfl, hb⟩
    · cases iU
      · cases iD
        · cases nD
          · cases hq
          · clear hq
            go_enter Try.func30, Try.ntmps30
            go_wp2_with (first | (go_at_call 41; (with_reducible refine B.mono ?_); rintro e w1 ⟨rfl, hb⟩) | (go_at_call 55; (with_reducible refine (I1 _).mono ?_); rintro e w2 ⟨rfl, hw⟩; subst hw) | (go_at_call 55; (with_reducible refine (I2 _).mono ?_); rintro e w2 ⟨rfl, hw⟩; subst hw) | (go_at_call 56; (with_reducible refine (N1 _).mono ?_); rintro e w2 ⟨rfl, hw⟩; subst hw))
            go_ret2
            exact ⟨rfl, hb⟩
        · clear hq N1
          go_enter Try.func30, Try.ntmps30
          go_wp2_with (first | (go_at_call 41; (with_reducible refine B.mono ?_); rintro e w1 ⟨rfl, hb⟩) | (go_at_call 55; (with_reducible refine (I1 _).mono ?_); rintro e w2 ⟨rfl, hw⟩; subst hw) | (go_at_call 55; (with_reducible refine (I2 _).mono ?_); rintro e w2 ⟨rfl, hw⟩; subst hw))
          go_ret2
          exact ⟨rfl, hb⟩
      · clear hq N1 I2
        go_enter Try.func30, Try.ntmps30
        go_wp2_with (first | (go_at_call 41; (with_reducible refine B.mono ?_); rintro e w1 ⟨rfl, hb⟩) | (go_at_call 55; (with_reducible refine (I1 _).mono ?_); rintro e w2 ⟨rfl, hw⟩; subst hw))
        go_ret2
        exact ⟨rfl, hb⟩
  cases hok : (gU && !iU && !iD && !nD)
  · rw [hok, if_pos rfl] at hR
    subst hR
    exact hbad hok
  · clear hbad
    rw [hok, if_neg (by decide)] at hR
    simp only [Bool.and_eq_true, Bool.not_eq_true'] at hok
    obtain ⟨⟨⟨rfl, rfl⟩, rfl⟩, rfl⟩ := hok
    have hwr : IntKind.i64.wrap ((l.length : Int) - 1) = (l.length : Int) - 1 := by rw [IntKind.wrap_i64]; omega
    cases nL
    · rw [if_neg (by decide)] at hR
      cases lu
      · rw [if_neg (by decide)] at hR
        cases ldn
        · rw [if_neg (by decide)] at hR
          obtain ⟨FM, GM, hm, cm⟩ := veil (op := .mul) (Or.inr (Or.inr (Or.inl rfl))) 62
          obtain ⟨FQ, GQ, hq, cq⟩ := veil (op := .quo) (Or.inr (Or.inr (Or.inr rfl))) 62
          replace cm := Lib.hid cm
          replace cq := Lib.hid cq
          obtain ⟨b, o, rfl, hbl, c0, -⟩ := Pts.at_ h hn
          rw [show (l.getD n (0, 0)).1 = l[n].1 by rw [List.getD, List.getElem?_eq_getElem hn]; rfl] at hR
          have hwc : Hid (∀ W W', cls (FQ (FM (floatOfInt .f64 l[n].1) ld W) up W') = op2 .quo (op2 .mul (fi l[n].1) (cls ld)) (cls up)) := Lib.hid (fun W W' => by rw [cq.out, cm.out, cls_fi])
          generalize op2 .quo (op2 .mul (fi l[n].1) (cls ld)) (cls up) = wcl at *
          generalize l[n].1 = x at *
          clear hwr
          replace hR := Lib.hid hR
          go_enter Try.func30, Try.ntmps30
          go_upto_region 12 with (first | (go_at_call 41; (with_reducible refine B.mono ?_); rintro e w1 ⟨rfl, hb⟩) | (go_at_call 55; (with_reducible refine (I1 _).mono ?_); rintro e w2 ⟨rfl, hw⟩; subst hw) | (go_at_call 55; (with_reducible refine (I2 _).mono ?_); rintro e w2 ⟨rfl, hw⟩; subst hw) | (go_at_call 56; (with_reducible refine (N1 _).mono ?_); rintro e w2 ⟨rfl, hw⟩; subst hw) | (go_at_call 56; (with_reducible refine (N2 _).mono ?_); rintro e w2 ⟨rfl, hw⟩; subst hw))
          have c0' := (hb.cell (p := ⟨b, o + n * 2, none⟩) hbl).trans c0
          go_upto_region 13 with fail
          have hz := hwc.out w2 (w2.drewN (GM (floatOfInt .f64 x) ld))
          generalize FQ (FM (floatOfInt .f64 x) ld w2) up (w2.drewN (GM (floatOfInt .f64 x) ld)) = z at *
          have hb3 : Below w.heap.size w (w2.drewN (GM (floatOfInt .f64 x) ld + GQ (FM (floatOfInt .f64 x) ld w2) up)) := below_drewN' hb _
          generalize w2.drewN _ = w3 at *
          clear G1 G2 G3 I1 I2 N1 N2 hm hq cm cq hwc c0 c0' hb B
          have hnc : n ≤ c := by omega
          replace hz := Lib.hid hz
          go_wp2
          go_loopw [76] (fun i wr => ∃ k : Nat, k ≤ n ∧ i = .int .i64 k ∧ nxt l wcl n n 0 = nxt l wcl n (n - k) k ∧ Below w.heap.size w wr) (fun i _ => n - (intOf i).toNat)
          case atStart => exact ⟨0, by omega, rfl, rfl, hb3⟩
          case round =>
            clear hb3
            obtain ⟨k, hk, rfl, hx, hd⟩ := hrel
            replace hx := Lib.hid hx
            have hp := h.below hd
            by_cases hkn : k = n
            · subst hkn
              have e0 : Hid (R = ((k : Int), 0)) := Lib.hid (by rw [← hR.out, hx.out, Nat.sub_self]; rfl)
              clear hp
              go_wp2
              go_ret2
              exact ⟨retR e0.out, hd⟩
            have hkl : k < l.length := by omega
            have hkn2 : k < n := by omega
            obtain ⟨b2, o2, hA, hbl2, d0, d1⟩ := Pts.at_ hp hkl
            cases hA
            have hs := Lib.hid (nxt_step (w := wcl) (a := (n : Int)) (n := n - k - 1) hkl)
            have ht : (FloatKind.f64.format.order (floatOfInt .f64 l[k].1) z == some .gt || FloatKind.f64.format.order (floatOfInt .f64 l[k].1) z == some .eq) = ge (fi l[k].1) wcl := by rw [order_run, cls_fi, hz.out]; rfl
            generalize l[k].1 = y at *
            generalize l[k].2 = v at *
            clear hp
            cases hg : ge (fi y) wcl
            · have hx2 : Hid (nxt l wcl n n 0 = nxt l wcl n (n - (k + 1)) (k + 1)) := Lib.hid (by
                rw [hx.out, show n - k = n - k - 1 + 1 by omega, hs.out, hg, if_neg (by decide)]
                congr 1)
              rw [hg] at ht
              clear hg hs hx
              go_wp2
              go_roundw
              case rel => exact ⟨k + 1, by omega, by go_num, hx2.out, hd.alloc hd.size _⟩
              case measure => simp [intOf]; omega
            · have e0 : Hid (R = ((k : Int), 0)) := Lib.hid (by rw [← hR.out, hx.out, show n - k = n - k - 1 + 1 by omega, hs.out, hg, if_pos rfl])
              rw [hg] at ht
              clear hg hs hx
              go_wp2
              go_ret2
              exact ⟨retR e0.out, hd.alloc hd.size _⟩
        · rw [if_pos rfl] at hR
          replace hR := Lib.hid hR
          clear h hwr
          go_enter Try.func30, Try.ntmps30
          go_wp2_with (first | (go_at_call 41; (with_reducible refine B.mono ?_); rintro e w1 ⟨rfl, hb⟩) | (go_at_call 55; (with_reducible refine (I1 _).mono ?_); rintro e w2 ⟨rfl, hw⟩; subst hw) | (go_at_call 55; (with_reducible refine (I2 _).mono ?_); rintro e w2 ⟨rfl, hw⟩; subst hw) | (go_at_call 56; (with_reducible refine (N1 _).mono ?_); rintro e w2 ⟨rfl, hw⟩; subst hw) | (go_at_call 56; (with_reducible refine (N2 _).mono ?_); rintro e w2 ⟨rfl, hw⟩; subst hw))
          go_ret2
          exact ⟨retR hR.out.symm, hb⟩
      · rw [if_pos rfl] at hR
        replace hR := Lib.hid hR
        clear h G3
        go_enter Try.func30, Try.ntmps30
        go_wp2_with (first | (go_at_call 41; (with_reducible refine B.mono ?_); rintro e w1 ⟨rfl, hb⟩) | (go_at_call 55; (with_reducible refine (I1 _).mono ?_); rintro e w2 ⟨rfl, hw⟩; subst hw) | (go_at_call 55; (with_reducible refine (I2 _).mono ?_); rintro e w2 ⟨rfl, hw⟩; subst hw) | (go_at_call 56; (with_reducible refine (N1 _).mono ?_); rintro e w2 ⟨rfl, hw⟩; subst hw) | (go_at_call 56; (with_reducible refine (N2 _).mono ?_); rintro e w2 ⟨rfl, hw⟩; subst hw))
        go_ret2
        exact ⟨retR hR.out.symm, hb⟩
    · rw [if_pos rfl] at hR
      replace hR := Lib.hid hR
      clear h hwr G2 G3
      go_enter Try.func30, Try.ntmps30
      go_wp2_with (first | (go_at_call 41; (with_reducible refine B.mono ?_); rintro e w1 ⟨rfl, hb⟩) | (go_at_call 55; (with_reducible refine (I1 _).mono ?_); rintro e w2 ⟨rfl, hw⟩; subst hw) | (go_at_call 55; (with_reducible refine (I2 _).mono ?_); rintro e w2 ⟨rfl, hw⟩; subst hw) | (go_at_call 56; (with_reducible refine (N1 _).mono ?_); rintro e w2 ⟨rfl, hw⟩; subst hw) | (go_at_call 56; (with_reducible refine (N2 _).mono ?_); rintro e w2 ⟨rfl, hw⟩; subst hw))
      go_ret2
      exact ⟨retR hR.out.symm, hb⟩
end Go.Proofs.Ythmdhmknadhjeaa
