/- Heat: a watch governs its level; walked. -/
import Derived.Test.YtdjdkhbagoideaaDoorGov0
namespace Go.Proofs.YtdjdkhbagoideaaDoor
open Go.RowKit Go.BigFrame flt Ieee

theorem Gv.drawn {W0 W W' : World} {B g H : Nat} {Z : Zn} {v vo : Value} {s : Hs} (h : Gv W0 W B g H Z v vo s) (d : Drawn W W') : Gv W0 W' B g H Z v vo s :=
  ⟨h.w.drawn d, h.f.drawn d, by rw [d.heap]; exact h.b0, by rw [d.heap]; exact h.b1⟩
theorem Gv.below {W0 W W' : World} {B g H : Nat} {Z : Zn} {v vo : Value} {s : Hs} (h : Gv W0 W B g H Z v vo s) (hH : H ≤ W.heap.size) (d : Below W.heap.size W W') : Gv W0 W' B g H Z v vo s :=
  ⟨h.w.below d, h.f.trans (Fr.of (d.mono hH)), (d.block _ (heap_lt h.b0)).trans h.b0, (d.block _ (heap_lt h.b1)).trans h.b1⟩
theorem Gv.put {W0 W : World} {B g H : Nat} {Z : Zn} {v vo : Value} {s s' : Hs} (h : Gv W0 W B g H Z v vo s) (hg : g < H) (i : Nat) (x : Value) (h1 : (warr Z v vo s).setIfInBounds i x = warr Z v vo s') (hon : s'.on = s.on) : Gv W0 (W.setCell ⟨g, i, none⟩ x) B g H Z v vo s' := by
  have hF : Fr W.heap.size (fun b => b = g) W (W.setCell ⟨g, i, none⟩ x) := Fr.set (S := fun b => b = g) (Fr.refl _ _ _) (p := ⟨g, i, none⟩) (fun _ => rfl) _
  have h2 := heap_set h.w.hb i x
  rw [h1] at h2
  refine ⟨h.w.put hF h2 hon, Fr.set (S := fun b => b = g) h.f (p := ⟨g, i, none⟩) (fun _ => rfl) _, ?_, ?_⟩
  · exact heap_set_far h.b0 (by show H ≠ g; omega) _
  · exact heap_set_far h.b1 (by show H + 1 ≠ g; omega) _
theorem Gv.c0 {W0 W : World} {B g H : Nat} {Z : Zn} {v vo : Value} {s : Hs} (h : Gv W0 W B g H Z v vo s) : W.cell? ⟨H, 0, none⟩ = some (.pointer (some ⟨g, 0, none⟩)) := by rw [cell_of_row _ _ 0 _ 22 (0, 0) h.b0]; rfl
theorem Gv.zc {W0 W : World} {B g H : Nat} {Z : Zn} {v vo : Value} {s : Hs} (h : Gv W0 W B g H Z v vo s) (i : Nat) {x : Value} (hx : (zarr Z v)[i]? = some x) : W.cell? ⟨H + 1, i, none⟩ = some x := by rw [cell_of_row _ _ i _ 34 (0, 0) h.b1]; exact hx
def gsum (Z : Zn) (s : Hs) (secs : Nat) : Nat := if anyk 1 Z.tr s.on then sum2 Z s s.h secs else 0
def glv0 (Z : Zn) (s : Hs) (secs : Nat) : Int := if anyk 1 Z.tr s.on then lvl (wish Z s s.h secs) Z.mo else (if s.lv - 1 < 0 then 0 else s.lv - 1)
def glv (Z : Zn) (s : Hs) (secs : Nat) : Int := if anyk 2 Z.tr s.on then Z.mo else glv0 Z s secs
set_option maxHeartbeats 8000000 in
set_option maxRecDepth 100000 in
theorem govern_any {W : World} {B g : Nat} {Z : Zn} {v vo : Value} {s : Hs} (hW : Wt W B g Z v vo s) (hZ : Zok Z) (hs : Hok Z s) (secs : Nat) (hc : Bt 0 1000000 secs) :
    Calls Tryd.prog 27 #[.pointer (some ⟨g, 0, none⟩), .float .f64 secs] W fun e w' => e = .returned (.tuple #[]) ∧ Wt w' B g Z v vo { s with sum := gsum Z s secs, lv := glv Z s secs, sh := anyk 3 Z.tr s.on } ∧ Fr W.heap.size (fun b => b = g) W w' := by
  have hst : ∀ (p : Addr) (v : Nat) (W : World), (store p (.float .f64 v)).run Tryd.prog W = stored Tryd.prog W p (.float .f64 v) .plain := fun p v W => run_store Tryd.prog W p _ _ rfl
  have hgl := heap_lt hW.hb
  have hrek := rek_of hZ hs.h hs.sum hc
  have hlv := hs.lv
  have KA := fun (X : World) (s' : Hs) (hon : s'.on = s.on) (q : Gv W X B g W.heap.size Z v vo s') (kd : Int) => gany_any q hZ (by rw [hon]; exact hs.on) kd
  replace KA := Lib.hid KA
  have y0 := hW.cl 0 (x := .float .f64 Z.al) rfl
  have y1 := hW.cl 1 (x := .float .f64 Z.tg) rfl
  have y2 := hW.cl 2 (x := .float .f64 Z.kp) rfl
  have y3 := hW.cl 3 (x := .float .f64 Z.ki) rfl
  have y4 := hW.cl 4 (x := .float .f64 Z.cap) rfl
  have y5 := hW.cl 5 (x := .int .i64 Z.mo) rfl
  have y6 := hW.cl 6 (x := v) rfl
  obtain ⟨gv, cv, hv, -, -⟩ := own_form0 hW.tr (by rw [List.length_map]; exact hZ.n.1)
  rw [List.length_map] at hv
  subst hv
  have hb2 : Below W.heap.size W ((W.alloc (.cells #[.pointer (some ⟨g, 0, none⟩)] 22)).alloc (.cells (zarr Z (.slice (some ⟨gv, 0, none⟩) Z.tr.length cv)) 34)) := below_al (below_al (Below.refl _ _) _) _
  have hG : Gv W ((W.alloc (.cells #[.pointer (some ⟨g, 0, none⟩)] 22)).alloc (.cells (zarr Z (.slice (some ⟨gv, 0, none⟩) Z.tr.length cv)) 34)) B g W.heap.size Z (.slice (some ⟨gv, 0, none⟩) Z.tr.length cv) vo s :=
    ⟨hW.below hb2, Fr.of hb2, heap_alloc (heap_alloc_at _ _), heap_alloc_at' _ _ _ (by rw [size_al])⟩
  unfold zarr at hG
  clear hW hb2
  replace hG := Lib.hid hG
  go_enter Tryd.func27, Tryd.ntmps27
  go_upto_region 2 with fail
  have hG := hG.out
  clear y0 y1 y2 y3 y4 y5 y6
  generalize (W.alloc _).alloc _ = w2 at *
  obtain ⟨p1, hp1⟩ : ∃ b, anyk 1 Z.tr s.on = b := ⟨_, rfl⟩
  have K1 := KA.out w2 s rfl hG 1
  rw [hp1] at K1
  have hHs := hG.f.size
  go_upto_if 14 with (go_at_call 43; (with_reducible refine (K1).mono ?_); rintro e w3 ⟨rfl, hb3⟩)
  have hG3 := hG.below hHs hb3
  clear K1 hG hb3 hHs
  go_cut [6, 7] from 15 to 90 (fun _ _ wc => Gv W wc B g W.heap.size Z (.slice (some ⟨gv, 0, none⟩) Z.tr.length cv) vo { s with sum := gsum Z s secs, lv := glv0 Z s secs })
  case first =>
    have eq1 : gsum Z s secs = if p1 then sum2 Z s s.h secs else 0 := by unfold gsum; rw [hp1]
    have eq2 : glv0 Z s secs = if p1 then lvl (wish Z s s.h secs) Z.mo else (if s.lv - 1 < 0 then 0 else s.lv - 1) := by unfold glv0; rw [hp1]
    clear KA hp1
    cases p1 with
    | false =>
      simp only [Bool.false_eq_true, if_false] at eq1 eq2
      have c0 := hG3.c0
      have f10 := hG3.w.fz 10
      have y10 := hG3.w.cl 10 (x := .float .f64 s.sum) rfl
      go_upto_region 14 with fail
      have hG4 := hG3.put hgl 10 (.float .f64 0) (s' := { s with sum := 0 }) rfl rfl
      generalize w3.setCell ⟨g, 10, none⟩ (.float .f64 0) = w4 at *
      clear hG3 c0 f10 y10
      have c0 := hG4.c0
      have f11 := hG4.w.fz 11
      have y11 := hG4.w.cl 11 (x := .int .i64 s.lv) rfl
      have hfin := fun (x : Int) (h : x = (if s.lv - 1 < 0 then 0 else s.lv - 1)) => (hG4.put hgl 11 (.int .i64 x) (s' := { s with sum := gsum Z s secs, lv := glv0 Z s secs }) (by rw [h, ← eq2, eq1]; rfl) rfl).drawn (Drawn.refl _).drew
      replace hfin := Lib.hid hfin
      have hl0 := hlv.1
      have hl1 : s.lv ≤ 100 := Int.le_trans hlv.2 hZ.mo.2
      clear hG4 hlv hrek hs eq1 eq2
      generalize s.lv = l at *
      rcases (show l = 0 ∨ l = 1 ∨ 2 ≤ l by omega) with rfl | rfl | h2
      · go_region
        all_goals go_wp2
        all_goals go_meet
        all_goals (case rel => exact hfin.out 0 rfl)
      · go_region
        all_goals go_wp2
        all_goals go_meet
        all_goals (case rel => exact hfin.out 0 rfl)
      · have h3 : ¬ (0 : Int) > l - 1 := by omega
        have h4 : ¬ l - 1 < 0 := by omega
        go_region
        all_goals go_wp2
        all_goals go_meet
        all_goals (case rel => exact hfin.out (l - 1) (by rw [if_neg (show ¬ l - 1 < 0 by omega)]))
    | true =>
      simp only [if_true] at eq1 eq2
      have r1 := fun W => run_float_arith (P := Tryd.prog) W .sub 23 .f64 _ _ _ hrek.over
      have r2 := fun W => run_float_arith (P := Tryd.prog) W .mul 23 .f64 _ _ _ hrek.m1
      have r3 := fun W => run_float_arith (P := Tryd.prog) W .add 23 .f64 _ _ _ hrek.a1
      have r4 := fun W ts t => run_fmax Tryd.prog W ts t hrek.b1.f hrek.b1.nn zero_bt.nn
      have r5 := fun W ts t => run_fmin Tryd.prog W ts t hrek.b2.f hrek.b2.nn hZ.cap.nn
      have r6 := fun W => run_float_arith (P := Tryd.prog) W .mul 23 .f64 _ _ _ hrek.m2
      have r7 := fun W => run_float_arith (P := Tryd.prog) W .mul 23 .f64 _ _ _ hrek.m3
      have r8 := fun W => run_float_arith (P := Tryd.prog) W .add 23 .f64 _ _ _ hrek.a2
      have e2 : fmin2 (fmax2 (sum1 Z s s.h secs) 0) Z.cap = sum2 Z s s.h secs := rfl
      rw [e2] at r5
      have hwn := hrek.b4.nn
      have hmo := hZ.mo
      have c0 := hG3.c0
      have z1 := hG3.zc 1 (x := .float .f64 Z.tg) rfl
      have y7 := hG3.w.cl 7 (x := .float .f64 s.h) rfl
      obtain ⟨ov, hov⟩ : ∃ x, overh Z s.h = x := ⟨_, rfl⟩
      obtain ⟨s1, hs1⟩ : ∃ x, sum1 Z s s.h secs = x := ⟨_, rfl⟩
      obtain ⟨s2, hs2⟩ : ∃ x, sum2 Z s s.h secs = x := ⟨_, rfl⟩
      obtain ⟨wi, hwi⟩ : ∃ x, wish Z s s.h secs = x := ⟨_, rfl⟩
      rw [hov] at r1 r2 r3 r6 r8
      rw [hs1] at r3 r4 r5
      rw [hs2] at r5 r7 r8 eq1
      rw [hwi] at r8 eq2 hwn
      generalize fmul ov secs = q1 at *
      generalize fmax2 s1 0 = q2 at *
      generalize fmul Z.kp ov = q3 at *
      generalize fmul Z.ki s2 = q4 at *
      clear hrek e2 hov hs1 hs2 hwi hs hlv hZ hc
      go_upto_region 4 with fail
      go_big_quiet (fail)
      have hG4 := hG3.drawn ((Drawn.refl w3).drewN nq)
      generalize w3.drewN nq = w4 at *
      clear hG3 c0 z1 y7 r1
      have c0 := hG4.c0
      have y10 := hG4.w.cl 10 (x := .float .f64 s.sum) rfl
      have f10 := hG4.w.fz 10
      go_upto_region 6 with fail
      have hG5 := hG4.put hgl 10 (.float .f64 s1) (s' := { s with sum := s1 }) rfl rfl
      generalize w4.setCell ⟨g, 10, none⟩ (.float .f64 s1) = w5 at *
      clear hG4 c0 y10 f10 r2 r3
      have c0 := hG5.c0
      have y10 := hG5.w.cl 10 (x := .float .f64 s1) rfl
      have f10 := hG5.w.fz 10
      have z4 := hG5.zc 4 (x := .float .f64 Z.cap) rfl
      have hG6 := hG5.put hgl 10 (.float .f64 s2) (s' := { s with sum := s2 }) rfl rfl
      replace hG6 := Lib.hid hG6
      clear hG5
      go_cut [] from 32 to 42 (fun wc => Gv W wc B g W.heap.size Z (.slice (some ⟨gv, 0, none⟩) Z.tr.length cv) vo { s with sum := s2 })
      case first =>
        go_region
        all_goals go_wp2
        all_goals go_meet
        all_goals (case rel => exact hG6.out.drawn (Drawn.refl _).drew)
      clear hG6 c0 y10 f10 z4 r4 r5
      have hG7 := hcut
      clear hcut
      have c0 := hG7.c0
      have y10 := hG7.w.cl 10 (x := .float .f64 s2) rfl
      have z2 := hG7.zc 2 (x := .float .f64 Z.kp) rfl
      have z3 := hG7.zc 3 (x := .float .f64 Z.ki) rfl
      go_upto_region 7 with fail
      go_big_quiet (fail)
      have hG8 := hG7.drawn ((Drawn.refl wc).drewN nq)
      generalize wc.drewN nq = w8 at *
      clear hG7 c0 y10 z2 z3 r6 r7 r8
      have c0 := hG8.c0
      have f11 := hG8.w.fz 11
      have y11 := hG8.w.cl 11 (x := .int .i64 s.lv) rfl
      have z5 := hG8.zc 5 (x := .int .i64 Z.mo) rfl
      have hfin := fun (x : Int) (h : x = glv0 Z s secs) => hG8.put hgl 11 (.int .i64 x) (s' := { s with sum := gsum Z s secs, lv := glv0 Z s secs }) (by rw [h, eq1]; rfl) rfl
      replace hfin := Lib.hid hfin
      unfold lvl at eq2
      clear hG8 eq1
      obtain ⟨b1, hb1⟩ : ∃ b, (FloatKind.f64.format.order wi 0 == some .gt) = b := ⟨_, rfl⟩
      have hb1' : gt wi 0 = b1 := hb1
      rw [hb1'] at eq2
      cases b1 with
      | false =>
        simp only [Bool.false_eq_true, if_false] at eq2
        have hq := hfin.out 0 eq2.symm
        replace hq := Lib.hid hq
        clear hfin eq2 hb1'
        go_wp2
        go_meet
        case rel => exact hq.out
      | true =>
        simp only [if_true] at eq2
        obtain ⟨b2, hb2⟩ : ∃ b, (FloatKind.f64.format.order wi (floatOfInt .f64 Z.mo) == some .gt || FloatKind.f64.format.order wi (floatOfInt .f64 Z.mo) == some .eq) = b := ⟨_, rfl⟩
        have hb2' : ge wi (floatOfInt .f64 Z.mo) = b2 := hb2
        rw [hb2'] at eq2
        cases b2 with
        | true =>
          simp only [if_true] at eq2
          have hq := hfin.out Z.mo eq2.symm
          replace hq := Lib.hid hq
          clear hfin eq2 hb1' hb2'
          go_wp2
          go_meet
          case rel => exact hq.out
        | false =>
          simp only [Bool.false_eq_true, if_false] at eq2
          obtain ⟨c, _, _, hcn, hcv, hci⟩ := lvl_ceil hwn hmo hb1' hb2'
          have hq := (hfin.out c (by rw [eq2, hci])).drawn (Drawn.refl _).drew
          replace hq := Lib.hid hq
          have KC := ceil_any wi hwn
          have r10 := fun W => run_convert_float_int (P := Tryd.prog) W 23 3 .f64 .i64 (ceilB wi) c (by rw [Tryd.underlying23]; rfl) Tryd.underlying3 hcv
          generalize ceilB wi = cb at *
          clear hfin eq2 hb1' hb2' hci hcv
          go_wp2
          go_region_with ((go_at_call 44; (with_reducible refine (KC _).mono ?_); rintro e wq ⟨rfl, rfl⟩))
          all_goals go_wp2
          all_goals go_meet
          all_goals (case rel => exact hq.out)
  have hGc := hcut
  clear hcut hG3 hp1 hs hlv hrek hc hG
  obtain ⟨p2, hp2⟩ : ∃ b, anyk 2 Z.tr s.on = b := ⟨_, rfl⟩
  obtain ⟨p3, hp3⟩ : ∃ b, anyk 3 Z.tr s.on = b := ⟨_, rfl⟩
  have K2 := KA.out wc { s with sum := gsum Z s secs, lv := glv0 Z s secs } rfl hGc 2
  rw [show anyk 2 Z.tr ({ s with sum := gsum Z s secs, lv := glv0 Z s secs } : Hs).on = p2 from hp2] at K2
  go_upto_if 92 with (go_at_call 43; (with_reducible refine (K2).mono ?_); rintro e w4 ⟨rfl, hb4⟩)
  have hG4 := hGc.below hGc.f.size hb4
  have eq3 : glv Z s secs = if p2 then Z.mo else glv0 Z s secs := by unfold glv; rw [hp2]
  clear K2 hGc hb4 hp2
  go_cut [] from 93 to 97 (fun wc => Gv W wc B g W.heap.size Z (.slice (some ⟨gv, 0, none⟩) Z.tr.length cv) vo { s with sum := gsum Z s secs, lv := glv Z s secs })
  case first =>
    clear KA
    have c0 := hG4.c0
    have f11 := hG4.w.fz 11
    have y11 := hG4.w.cl 11 (x := .int .i64 (glv0 Z s secs)) rfl
    have z5 := hG4.zc 5 (x := .int .i64 Z.mo) rfl
    cases p2 with
    | false =>
      simp only [Bool.false_eq_true, if_false] at eq3
      rw [← eq3] at hG4
      replace hG4 := Lib.hid hG4
      clear eq3
      go_wp2
      go_meet
      case rel => exact hG4.out
    | true =>
      simp only [if_true] at eq3
      have hq := hG4.put hgl 11 (.int .i64 Z.mo) (s' := { s with sum := gsum Z s secs, lv := glv Z s secs }) (by rw [eq3]; rfl) rfl
      replace hq := Lib.hid hq
      clear eq3 hG4
      generalize glv0 Z s secs = l0 at *
      go_wp2
      go_meet
      case rel => exact hq.out
  have hG5 := hcut
  clear hcut hG4 eq3
  have hG6 := hG5.drawn (Drawn.refl _).drew
  have K3 := KA.out _ { s with sum := gsum Z s secs, lv := glv Z s secs } rfl hG6 3
  rw [show anyk 3 Z.tr ({ s with sum := gsum Z s secs, lv := glv Z s secs } : Hs).on = p3 from hp3] at K3
  have hpost := Lib.hid hp3
  have c0 := hG5.c0
  clear KA hp3
  go_upto_region 17 with fail
  go_region_with ((go_at_call 43; (with_reducible refine (K3).mono ?_); rintro e w6 ⟨rfl, hb6⟩; have hG7 := hG6.below hG6.f.size hb6; have c7 := hG7.c0; have f12 := hG7.w.fz 12; have y12 := hG7.w.cl 12 (x := .bool s.sh) rfl))
  all_goals go_wp2
  all_goals go_end0
  all_goals (
    have hq := hG7.put hgl 12 (.bool p3) (s' := { s with sum := gsum Z s secs, lv := glv Z s secs, sh := p3 }) rfl rfl
    exact ⟨rfl, by rw [hpost.out]; exact hq.w, hq.f⟩)
end Go.Proofs.YtdjdkhbagoideaaDoor
