/- Heat: the reference's watch governs its level; walked. -/
import Derived.Test.YtdjdkhbagoideaaDoorRf3
namespace Go.Proofs.YtdjdkhbagoideaaDoor
open Go.RowKit Go.BigFrame flt Ieee

def rclamp (y cap : Nat) : Nat := if gt (if lt y 0 then 0 else y) cap then cap else (if lt y 0 then 0 else y)
def rsum2 (Z : Zn) (s : Hs) (h secs : Nat) : Nat := rclamp (sum1 Z s h secs) Z.cap
def rwish (Z : Zn) (s : Hs) (h secs : Nat) : Nat := fadd (fmul Z.kp (overh Z h)) (fmul Z.ki (rsum2 Z s h secs))
def rgsum (Z : Zn) (s : Hs) (secs : Nat) : Nat := if anyk 1 Z.tr s.on then rsum2 Z s s.h secs else 0
def rglv0 (Z : Zn) (s : Hs) (secs : Nat) : Int := if anyk 1 Z.tr s.on then lvl (rwish Z s s.h secs) Z.mo else (if s.lv - 1 < 0 then 0 else s.lv - 1)
def rglv (Z : Zn) (s : Hs) (secs : Nat) : Int := if anyk 2 Z.tr s.on then Z.mo else rglv0 Z s secs
theorem low_bt {a b : Int} {x : Nat} (h : Bt a b x) (hb : 0 ≤ b) : Bt 0 b (if lt x 0 then 0 else x) := by
  have hz := zero_bt.mono (Int.le_refl 0) hb
  have z0 := far_val.2.2.2.2
  have k2 := lt_val h.nn zero_bt.nn
  cases h1 : lt x 0
  · simp only [Bool.false_eq_true, if_false]
    rw [h1] at k2
    have : ¬ key x < key 0 := by simpa using k2.symm
    have v : val 0 ≤ val x := val_le.2 (by omega)
    rw [z0] at v
    exact ⟨h.f, by omega, h.h⟩
  · simp only [if_true]; exact hz
theorem cap_bt {b c : Int} {x y : Nat} (h : Bt 0 b x) (hy : Bt 0 c y) : Bt 0 c (if gt x y then y else x) := by
  have k1 := gt_val h.nn hy.nn
  cases h2 : gt x y
  · simp only [Bool.false_eq_true, if_false]
    rw [h2] at k1
    have q2 : ¬ key y < key x := by simpa using k1.symm
    have v : val x ≤ val y := val_le.2 (by omega)
    exact ⟨h.f, h.l, Int.le_trans v hy.h⟩
  · simp only [if_true]; exact hy
structure Rekr (Z : Zn) (s : Hs) (secs : Nat) : Prop where
  over : floatBits .sub .f64 s.h Z.tg = some (overh Z s.h)
  m1 : floatBits .mul .f64 (overh Z s.h) secs = some (fmul (overh Z s.h) secs)
  a1 : floatBits .add .f64 s.sum (fmul (overh Z s.h) secs) = some (sum1 Z s s.h secs)
  b1 : Bt (-3000000000000) 3000000000000 (sum1 Z s s.h secs)
  b3 : Bt 0 1000000 (rsum2 Z s s.h secs)
  m2 : floatBits .mul .f64 Z.kp (overh Z s.h) = some (fmul Z.kp (overh Z s.h))
  m3 : floatBits .mul .f64 Z.ki (rsum2 Z s s.h secs) = some (fmul Z.ki (rsum2 Z s s.h secs))
  a2 : floatBits .add .f64 (fmul Z.kp (overh Z s.h)) (fmul Z.ki (rsum2 Z s s.h secs)) = some (rwish Z s s.h secs)
  b4 : Bt (-9000000000000) 9000000000000 (rwish Z s s.h secs)
theorem rekr_of {Z : Zn} {s : Hs} {secs : Nat} (hZ : Zok Z) (hh : Bt (-1048576) 1048576 s.h) (hs : Bt 0 1000000 s.sum) (hc : Bt 0 1000000 secs) : Rekr Z s secs := by
  have h0 := rek_of hZ hh hs hc
  obtain ⟨o1, o2⟩ := hh.sub hZ.tg (by unfold In53; omega)
  have o3 : Bt (-((2048576 : Nat) : Int)) ((2048576 : Nat) : Int) (overh Z s.h) := o2.mono (by omega) (by omega)
  have q5 : Bt 0 1000000 (rsum2 Z s s.h secs) := cap_bt (low_bt h0.b1 (by omega)) hZ.cap
  have k3 : Bt (-((1000000 : Nat) : Int)) ((1000000 : Nat) : Int) Z.kp := hZ.kp.mono (by omega) (by omega)
  have k4 : Bt (-((1000000 : Nat) : Int)) ((1000000 : Nat) : Int) Z.ki := hZ.ki.mono (by omega) (by omega)
  have k5 : Bt (-((1000000 : Nat) : Int)) ((1000000 : Nat) : Int) (rsum2 Z s s.h secs) := q5.mono (by omega) (by omega)
  obtain ⟨r1, r2⟩ := k3.mul o3 (by decide)
  obtain ⟨t1, t2⟩ := k4.mul k5 (by decide)
  obtain ⟨u1, u2⟩ := r2.add t2 (by unfold In53; omega)
  exact ⟨o1, h0.m1, h0.a1, h0.b1, q5, r1, t1, u1, u2.mono (by omega) (by omega)⟩
/-- a watch under way -/
structure Gq (W0 W : World) (B g : Nat) (Z : Zn) (v vo : Value) (s : Hs) : Prop where
  w : Wr W B g Z v vo s
  f : Fr W0.heap.size (fun b => b = g) W0 W
theorem Gq.drawn {W0 W W' : World} {B g : Nat} {Z : Zn} {v vo : Value} {s : Hs} (h : Gq W0 W B g Z v vo s) (d : Drawn W W') : Gq W0 W' B g Z v vo s := ⟨h.w.drawn d, h.f.drawn d⟩
theorem Gq.put {W0 W : World} {B g : Nat} {Z : Zn} {v vo : Value} {s s' : Hs} (h : Gq W0 W B g Z v vo s) (i : Nat) (x : Value) (h1 : (warr Z v vo s).setIfInBounds i x = warr Z v vo s') (hon : s'.on = s.on) : Gq W0 (W.setCell ⟨g, i, none⟩ x) B g Z v vo s' := by
  have hF : Fr W.heap.size (fun b => b = g) W (W.setCell ⟨g, i, none⟩ x) := Fr.set (S := fun b => b = g) (Fr.refl _ _ _) (p := ⟨g, i, none⟩) (fun _ => rfl) _
  have h2 := heap_set h.w.hb i x
  rw [h1] at h2
  exact ⟨h.w.put hF h2 hon, Fr.set (S := fun b => b = g) h.f (p := ⟨g, i, none⟩) (fun _ => rfl) _⟩
set_option maxHeartbeats 8000000 in
set_option maxRecDepth 100000 in
theorem rgovern_any {W : World} {B g : Nat} {Z : Zn} {v vo : Value} {s : Hs} (hW : Wr W B g Z v vo s) (hZ : Zok Z) (hs : Hok Z s) (secs : Nat) (hc : Bt 0 1000000 secs) :
    Calls Tryd.prog 61 #[.pointer (some ⟨g, 0, none⟩), .float .f64 secs] W fun e w' => e = .returned (.tuple #[]) ∧ Wr w' B g Z v vo { s with sum := rgsum Z s secs, lv := rglv Z s secs, sh := anyk 3 Z.tr s.on } ∧ Fr W.heap.size (fun b => b = g) W w' := by
  have hst : ∀ (p : Addr) (v : Nat) (W : World), (store p (.float .f64 v)).run Tryd.prog W = stored Tryd.prog W p (.float .f64 v) .plain := fun p v W => run_store Tryd.prog W p _ _ rfl
  have hrek := rekr_of hZ hs.h hs.sum hc
  have hlv := hs.lv
  have KA := fun (X : World) (s' : Hs) (hon : s'.on = s.on) (q : Gq W X B g Z v vo s') (kd : Int) => rany_any q.w hZ (by rw [hon]; exact hs.on) kd
  replace KA := Lib.hid KA
  have hG : Gq W W B g Z v vo s := ⟨hW, Fr.refl _ _ _⟩
  obtain ⟨p1, hp1⟩ : ∃ b, anyk 1 Z.tr s.on = b := ⟨_, rfl⟩
  have K1 := KA.out W s rfl hG 1
  rw [hp1] at K1
  clear hW
  go_enter Tryd.func61, Tryd.ntmps61
  go_upto_if 10 with (go_at_call 64; (with_reducible refine (K1).mono ?_); rintro e w3 ⟨rfl, rfl⟩)
  clear K1
  go_cut [4, 5, 6, 7, 8] from 11 to 120 (fun _ _ _ _ _ wc => Gq W wc B g Z v vo { s with sum := rgsum Z s secs, lv := rglv0 Z s secs })
  case first =>
    have eq1 : rgsum Z s secs = if p1 then rsum2 Z s s.h secs else 0 := by unfold rgsum; rw [hp1]
    have eq2 : rglv0 Z s secs = if p1 then lvl (rwish Z s s.h secs) Z.mo else (if s.lv - 1 < 0 then 0 else s.lv - 1) := by unfold rglv0; rw [hp1]
    clear KA hp1
    cases p1 with
    | false =>
      simp only [Bool.false_eq_true, if_false] at eq1 eq2
      have f10 := hG.w.fz 10
      have y10 := hG.w.cl 10 (x := .float .f64 s.sum) rfl
      go_upto_region 17 with fail
      have hG4 := hG.put 10 (.float .f64 0) (s' := { s with sum := 0 }) rfl rfl
      generalize W.setCell ⟨g, 10, none⟩ (.float .f64 0) = w4 at *
      clear hG f10 y10
      have f11 := hG4.w.fz 11
      have y11 := hG4.w.cl 11 (x := .int .i64 s.lv) rfl
      have hfin := fun (x : Int) (h : x = (if s.lv - 1 < 0 then 0 else s.lv - 1)) => (hG4.put 11 (.int .i64 x) (s' := { s with sum := rgsum Z s secs, lv := rglv0 Z s secs }) (by rw [h, ← eq2, eq1]; rfl) rfl)
      replace hfin := Lib.hid hfin
      have hl0 := hlv.1
      have hl1 : s.lv ≤ 100 := Int.le_trans hlv.2 hZ.mo.2
      clear hG4 hlv hrek hs eq1 eq2
      generalize s.lv = l at *
      rcases (show l = 0 ∨ l = 1 ∨ 2 ≤ l by omega) with rfl | rfl | h2
      · go_wp2
        all_goals go_meet
        all_goals (case rel => exact hfin.out 0 rfl)
      · go_wp2
        all_goals go_meet
        all_goals (case rel => exact hfin.out 0 rfl)
      · have h3 : ¬ (0 : Int) > l - 1 := by omega
        have h4 : ¬ l - 1 < 0 := by omega
        go_wp2
        all_goals go_meet
        all_goals (case rel => exact hfin.out _ (by split <;> omega))
    | true =>
      simp only [if_true] at eq1 eq2
      have r1 := fun W => run_float_arith (P := Tryd.prog) W .sub 23 .f64 _ _ _ hrek.over
      have r2 := fun W => run_float_arith (P := Tryd.prog) W .mul 23 .f64 _ _ _ hrek.m1
      have r3 := fun W => run_float_arith (P := Tryd.prog) W .add 23 .f64 _ _ _ hrek.a1
      have r6 := fun W => run_float_arith (P := Tryd.prog) W .mul 23 .f64 _ _ _ hrek.m2
      have r7 := fun W => run_float_arith (P := Tryd.prog) W .mul 23 .f64 _ _ _ hrek.m3
      have r8 := fun W => run_float_arith (P := Tryd.prog) W .add 23 .f64 _ _ _ hrek.a2
      have hwn := hrek.b4.nn
      have hmo := hZ.mo
      have y7 := hG.w.cl 7 (x := .float .f64 s.h) rfl
      have y1 := hG.w.cl 1 (x := .float .f64 Z.tg) rfl
      have hs2e : rsum2 Z s s.h secs = rclamp (sum1 Z s s.h secs) Z.cap := rfl
      obtain ⟨ov, hov⟩ : ∃ x, overh Z s.h = x := ⟨_, rfl⟩
      obtain ⟨s1, hs1⟩ : ∃ x, sum1 Z s s.h secs = x := ⟨_, rfl⟩
      obtain ⟨s2, hs2⟩ : ∃ x, rsum2 Z s s.h secs = x := ⟨_, rfl⟩
      obtain ⟨wi, hwi⟩ : ∃ x, rwish Z s s.h secs = x := ⟨_, rfl⟩
      rw [hov] at r1 r2 r3 r6 r8
      rw [hs1] at r3 hs2e
      rw [hs2] at r7 r8 eq1 hs2e
      rw [hwi] at r8 eq2 hwn
      generalize fmul ov secs = q1 at *
      generalize fmul Z.kp ov = q3 at *
      generalize fmul Z.ki s2 = q4 at *
      clear hrek hov hs1 hs2 hwi hs hlv hZ hc
      replace hs2e := Lib.hid hs2e
      go_upto_region 1 with fail
      go_big_quiet (fail)
      have hG4 := hG.drawn ((Drawn.refl W).drewN nq)
      generalize W.drewN nq = w4 at *
      clear hG y7 y1 r1
      have y10 := hG4.w.cl 10 (x := .float .f64 s.sum) rfl
      have f10 := hG4.w.fz 10
      go_upto_region 4 with fail
      have hG5 := hG4.put 10 (.float .f64 s1) (s' := { s with sum := s1 }) rfl rfl
      generalize w4.setCell ⟨g, 10, none⟩ (.float .f64 s1) = w5 at *
      clear hG4 y10 f10 r2 r3
      have y10 := hG5.w.cl 10 (x := .float .f64 s1) rfl
      have f10 := hG5.w.fz 10
      obtain ⟨s15, hs15⟩ : ∃ x, x = (if lt s1 0 then 0 else s1) := ⟨_, rfl⟩
      have hs2f : Hid (s2 = if gt s15 Z.cap then Z.cap else s15) := Lib.hid (by rw [hs2e.out, hs15]; rfl)
      replace hs15 := Lib.hid hs15
      obtain ⟨bl, hbl⟩ : ∃ b, (FloatKind.f64.format.order s1 0 == some .lt) = b := ⟨_, rfl⟩
      go_upto_if 37 with fail
      go_cut [] from 33 to 40 (fun wc => Gq W wc B g Z v vo { s with sum := s15 })
      case first =>
        have e15 := hs15.out
        rw [show lt s1 0 = bl from hbl] at e15
        cases bl with
        | false =>
          simp only [Bool.false_eq_true, if_false] at e15
          subst e15
          go_wp2
          go_meet
          case rel => exact hG5
        | true =>
          simp only [if_true] at e15
          have hq := Lib.hid (hG5.put 10 (.float .f64 0) (s' := { s with sum := s15 }) (by rw [e15]; rfl) rfl)
          clear hG5 e15
          go_wp2
          go_meet
          case rel => exact hq.out
      clear hG5 y10 f10
      have hG6 := hcut
      obtain ⟨w6, rfl⟩ : ∃ y : World, y = wc := ⟨_, rfl⟩
      clear hcut
      have y10 := hG6.w.cl 10 (x := .float .f64 s15) rfl
      have f10 := hG6.w.fz 10
      have y4 := hG6.w.cl 4 (x := .float .f64 Z.cap) rfl
      obtain ⟨bg, hbg⟩ : ∃ b, (FloatKind.f64.format.order s15 Z.cap == some .gt) = b := ⟨_, rfl⟩
      clear hbl
      go_upto_region 6 with fail
      go_cut [50] from 41 to 49 (fun x wc => x = .bool bg ∧ Drawn w6 wc)
      case first =>
        go_big_quiet (fail)
        go_wp2
        go_meet
        case rel => exact ⟨rfl, (Drawn.refl _).drewN _⟩
      obtain ⟨rfl, hd⟩ := hcut
      have hG7 := hG6.drawn hd
      obtain ⟨w7, rfl⟩ : ∃ y : World, y = wc := ⟨_, rfl⟩
      clear hG6 hd y10 f10 y4
      have y10 := hG7.w.cl 10 (x := .float .f64 s15) rfl
      have f10 := hG7.w.fz 10
      have y4 := hG7.w.cl 4 (x := .float .f64 Z.cap) rfl
      go_upto_if 50 with fail
      go_cut [] from 50 to 58 (fun wc => Gq W wc B g Z v vo { s with sum := s2 })
      case first =>
        have e2 := hs2f.out
        rw [show gt s15 Z.cap = bg from hbg] at e2
        cases bg with
        | false =>
          simp only [Bool.false_eq_true, if_false] at e2
          subst e2
          go_wp2
          go_meet
          case rel => exact hG7
        | true =>
          simp only [if_true] at e2
          have hq := Lib.hid (hG7.put 10 (.float .f64 Z.cap) (s' := { s with sum := s2 }) (by rw [e2]; rfl) rfl)
          clear hG7 e2
          go_wp2
          go_meet
          case rel => exact hq.out
      clear hG7 y10 f10 y4 hbg hs2f hs15 hs2e
      have hG8 := hcut
      obtain ⟨w8, rfl⟩ : ∃ y : World, y = wc := ⟨_, rfl⟩
      clear hcut
      have y10 := hG8.w.cl 10 (x := .float .f64 s2) rfl
      have y2 := hG8.w.cl 2 (x := .float .f64 Z.kp) rfl
      have y3 := hG8.w.cl 3 (x := .float .f64 Z.ki) rfl
      go_upto_region 9 with fail
      go_big_quiet (fail)
      have hG9 := hG8.drawn ((Drawn.refl w8).drewN nq)
      generalize w8.drewN nq = w9 at *
      clear hG8 y10 y2 y3 r6 r7
      have f11 := hG9.w.fz 11
      have y11 := hG9.w.cl 11 (x := .int .i64 s.lv) rfl
      have y5 := hG9.w.cl 5 (x := .int .i64 Z.mo) rfl
      have hfin := fun (x : Int) (h : x = rglv0 Z s secs) => hG9.put 11 (.int .i64 x) (s' := { s with sum := rgsum Z s secs, lv := rglv0 Z s secs }) (by rw [h, eq1]; rfl) rfl
      replace hfin := Lib.hid hfin
      unfold lvl at eq2
      clear hG9 eq1
      obtain ⟨b1, hb1⟩ : ∃ b, (FloatKind.f64.format.order wi 0 == some .gt) = b := ⟨_, rfl⟩
      have hb1' : gt wi 0 = b1 := hb1
      rw [hb1'] at eq2
      cases b1 with
      | false =>
        simp only [Bool.false_eq_true, if_false] at eq2
        have hq := hfin.out 0 eq2.symm
        replace hq := Lib.hid hq
        clear hfin eq2 hb1'
        go_wp2
        go_meet
        case rel => exact hq.out
      | true =>
        simp only [if_true] at eq2
        obtain ⟨b2, hb2⟩ : ∃ b, (FloatKind.f64.format.order wi (floatOfInt .f64 Z.mo) == some .gt || FloatKind.f64.format.order wi (floatOfInt .f64 Z.mo) == some .eq) = b := ⟨_, rfl⟩
        have hb2' : ge wi (floatOfInt .f64 Z.mo) = b2 := hb2
        rw [hb2'] at eq2
        cases b2 with
        | true =>
          simp only [if_true] at eq2
          have hq := hfin.out Z.mo eq2.symm
          replace hq := Lib.hid hq
          clear hfin eq2 hb1' hb2'
          go_wp2
          go_meet
          case rel => exact hq.out
        | false =>
          simp only [Bool.false_eq_true, if_false] at eq2
          obtain ⟨c, _, _, hcn, hcv, hci⟩ := lvl_ceil hwn hmo hb1' hb2'
          have hq := hfin.out c (by rw [eq2, hci])
          replace hq := Lib.hid hq
          have KC := ceil_any wi hwn
          have r10 := fun W => run_convert_float_int (P := Tryd.prog) W 23 3 .f64 .i64 (ceilB wi) c (by rw [Tryd.underlying23]; rfl) Tryd.underlying3 hcv
          generalize ceilB wi = cb at *
          clear hfin eq2 hb1' hb2' hci hcv
          go_wp2_with (go_at_call 44; (with_reducible refine (KC _).mono ?_); rintro e wq ⟨rfl, rfl⟩)
          go_meet
          case rel => exact hq.out
  have hGc := hcut
  obtain ⟨wc1, rfl⟩ : ∃ y : World, y = wc := ⟨_, rfl⟩
  clear hcut hG hp1 hs hlv hrek hc
  obtain ⟨p2, hp2⟩ : ∃ b, anyk 2 Z.tr s.on = b := ⟨_, rfl⟩
  obtain ⟨p3, hp3⟩ : ∃ b, anyk 3 Z.tr s.on = b := ⟨_, rfl⟩
  have K2 := KA.out wc1 { s with sum := rgsum Z s secs, lv := rglv0 Z s secs } rfl hGc 2
  rw [show anyk 2 Z.tr ({ s with sum := rgsum Z s secs, lv := rglv0 Z s secs } : Hs).on = p2 from hp2] at K2
  go_upto_if 122 with (go_at_call 64; (with_reducible refine (K2).mono ?_); rintro e w4 ⟨rfl, rfl⟩)
  have eq3 : rglv Z s secs = if p2 then Z.mo else rglv0 Z s secs := by unfold rglv; rw [hp2]
  clear K2 hp2
  go_cut [] from 121 to 130 (fun wc => Gq W wc B g Z v vo { s with sum := rgsum Z s secs, lv := rglv Z s secs })
  case first =>
    clear KA
    have f11 := hGc.w.fz 11
    have y11 := hGc.w.cl 11 (x := .int .i64 (rglv0 Z s secs)) rfl
    have y5 := hGc.w.cl 5 (x := .int .i64 Z.mo) rfl
    cases p2 with
    | false =>
      simp only [Bool.false_eq_true, if_false] at eq3
      rw [← eq3] at hGc
      replace hGc := Lib.hid hGc
      clear eq3
      go_wp2
      go_meet
      case rel => exact hGc.out
    | true =>
      simp only [if_true] at eq3
      have hq := hGc.put 11 (.int .i64 Z.mo) (s' := { s with sum := rgsum Z s secs, lv := rglv Z s secs }) (by rw [eq3]; rfl) rfl
      replace hq := Lib.hid hq
      clear eq3 hGc
      generalize rglv0 Z s secs = l0 at *
      go_wp2
      go_meet
      case rel => exact hq.out
  have hG5 := hcut
  obtain ⟨w5, rfl⟩ : ∃ y : World, y = wc := ⟨_, rfl⟩
  clear hcut hGc eq3
  have K3 := KA.out _ { s with sum := rgsum Z s secs, lv := rglv Z s secs } rfl hG5 3
  rw [show anyk 3 Z.tr ({ s with sum := rgsum Z s secs, lv := rglv Z s secs } : Hs).on = p3 from hp3] at K3
  have hpost := Lib.hid hp3
  clear KA hp3
  have f12 := hG5.w.fz 12
  have y12 := hG5.w.cl 12 (x := .bool s.sh) rfl
  have hq := Lib.hid (hG5.put 12 (.bool p3) (s' := { s with sum := rgsum Z s secs, lv := rglv Z s secs, sh := p3 }) rfl rfl)
  clear hG5
  go_wp2_with (go_at_call 64; (with_reducible refine (K3).mono ?_); rintro e w6 ⟨rfl, rfl⟩)
  go_end0
  exact ⟨rfl, by rw [hpost.out]; exact hq.out.w, hq.out.f⟩
end Go.Proofs.YtdjdkhbagoideaaDoor
