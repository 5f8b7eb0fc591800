/- Points: PointsLeast, walked. -/
import Derived.Test.YthmdhmknadhjeaaDraws
import Derived.Test.YthmdhmknadhjeaaFloats
import Derived.Test.YthmdhmknadhjeaaNever
import Derived.Deep.CutBlock
namespace Go.Proofs.Ythmdhmknadhjeaa
open Go.RowKit Go.BigFrame flt Ieee

theorem det {op : BinOp} {x y z : Nat} (h : op2 op (cls x) (cls y) = some z) : ∀ W : World, (binOp op 62 (.float .f64 x) (.float .f64 y)).run Try.prog W = .ok (.float .f64 z) W :=
  fun W => run_float_arith (P := Try.prog) W op 62 .f64 _ _ _ (by rw [bits_op2]; exact h)
theorem cls_l64 : cls 4634204016564240384 = some 4634204016564240384 := cls_nn (by unfold nn; decide)
theorem cls_l65 : cls 4679240012837945344 = some 4679240012837945344 := cls_nn (by unfold nn; decide)
theorem cls_l256 : cls 4643211215818981376 = some 4643211215818981376 := cls_nn (by unfold nn; decide)
theorem nxt_le (l : List Pt) (w : Option Nat) (a : Int) : ∀ (n k : Nat), 0 ≤ a → (k : Int) + n ≤ a → 0 ≤ nxt l w a n k ∧ nxt l w a n k ≤ a
  | 0, _, h0, _ => ⟨h0, Int.le_refl _⟩
  | n + 1, k, h0, h => by
    unfold nxt
    split
    · omega
    · exact nxt_le l w a n (k + 1) h0 (by omega)
theorem nok_lit : nok (cls 4605380978949069210) (cls 4599075939470750515) = true := by kernel_rfl
theorem nextR_ok {t : List Pt} {m : Int} {L U D : Option Nat} (ht : tab t = true) (h0 : 0 ≤ m) (h1 : m < t.length) (hok : nok U D = true) :
    (nextR t m L U D).2 = 0 ∧ 0 ≤ (nextR t m L U D).1 ∧ (nextR t m L U D).1 < t.length ∧ (ge L U = false → (nextR t m L U D).1 ≤ m) ∧ (ge L U = true → (nextR t m L U D).1 = (t.length : Int) - 1) := by
  unfold nextR
  rw [if_neg (by rw [ht]; decide), if_neg (by omega), if_neg (by rw [hok]; decide)]
  by_cases q1 : L.isNone = true
  · rw [if_pos q1]
    have : ge L U = false := by cases L with | none => rfl | some x => cases q1
    exact ⟨rfl, h0, h1, fun _ => Int.le_refl _, (fun q => by (rw [this] at q; cases q))⟩
  · rw [if_neg q1]
    by_cases q2 : ge L U = true
    · rw [if_pos q2]
      exact ⟨rfl, by simp only; omega, by simp only; omega, (fun q => by (rw [q2] at q; cases q)), fun _ => rfl⟩
    · rw [if_neg q2]
      by_cases q3 : ge L D = true
      · rw [if_pos q3]
        exact ⟨rfl, h0, h1, fun _ => Int.le_refl _, fun q => absurd q q2⟩
      · rw [if_neg q3]
        have e := nxt_le t (op2 .quo (op2 .mul (fi (t.getD m.toNat (0, 0)).1) L) U) m m.toNat 0 h0 (by omega)
        exact ⟨rfl, e.1, by simp only; omega, fun _ => e.2, fun q => absurd q q2⟩
/-- the four boxes of the closure, the table -/
structure Bx (W : World) (n : Nat) (A : Option Addr) (c : Nat) (t : List Pt) (wk fa lk : Nat) : Prop where
  b1 : W.heap[n]? = some (.cells #[.slice A t.length c] 25)
  b2 : W.heap[n + 1]? = some (.cells #[.float .f64 wk] 62)
  b3 : W.heap[n + 2]? = some (.cells #[.float .f64 fa] 62)
  b4 : W.heap[n + 3]? = some (.cells #[.float .f64 lk] 62)
  p : Pts W A t
theorem Bx.on {W W' : World} {n : Nat} {A : Option Addr} {c : Nat} {t : List Pt} {wk fa lk : Nat} (h : Bx W n A c t wk fa lk) (d : Below W.heap.size W W') : Bx W' n A c t wk fa lk :=
  ⟨(d.block _ (heap_lt h.b1)).trans h.b1, (d.block _ (heap_lt h.b2)).trans h.b2, (d.block _ (heap_lt h.b3)).trans h.b3, (d.block _ (heap_lt h.b4)).trans h.b4, h.p.below d⟩
theorem Bx.new (w : World) (A : Option Addr) (c : Nat) (t : List Pt) (wk fa lk : Nat) (h : Pts w A t) :
    Bx ((((w.alloc (.cells #[.slice A t.length c] 25)).alloc (.cells #[.float .f64 wk] 62)).alloc (.cells #[.float .f64 fa] 62)).alloc (.cells #[.float .f64 lk] 62)) w.heap.size A c t wk fa lk :=
  ⟨heap_alloc (heap_alloc (heap_alloc (heap_alloc_at _ _))), heap_alloc (heap_alloc (heap_alloc_at' _ _ _ (by rw [size_al]))), heap_alloc (heap_alloc_at' _ _ _ (by rw [size_al, size_al])), heap_alloc_at' _ _ _ (by rw [size_al, size_al, size_al]),
    (((h.alloc _).alloc _).alloc _).alloc _⟩
theorem bestR_ok {t : List Pt} {W M F K : Option Nat} (ht : tab t = true) (h1 : pl W = true) (h2 : pl M = true) (h3 : pl F = true) (h4 : pl K = true) :
    bestR t W M F K = if (bst t W M F K t.length).1 < 0 then (0, 6) else ((bst t W M F K t.length).1, 0) := by
  unfold bestR
  rw [if_neg (by rw [ht]; decide), h1, h2, h3, h4, if_neg (by decide)]
set_option maxHeartbeats 4000000 in
set_option maxRecDepth 100000 in
theorem least_walk (l : List Pt) (A : Option Addr) (c : Nat) (work time far lek a : Int) (ld : Nat) (hwork : 0 ≤ work ∧ work ≤ 65535) (htime : 0 ≤ time ∧ time ≤ 65535) (hfar : 0 ≤ far ∧ far ≤ 65535) (hlek : 0 ≤ lek ∧ lek ≤ 65535) (w : World) (h : Pts w A l) :
    Calls Try.prog 11 #[.slice A l.length c, .int .u16 work, .int .u16 time, .int .u16 far, .int .u16 lek, .int .i64 a, .float .f64 ld] w fun e w' => e = .returned (.bool true) ∧ Below w.heap.size w w' := by
  have hw1 := w_in hwork.1 hwork.2
  have hm1 := m_in htime.1 htime.2
  have hf1 := f_in hfar.1 hfar.2
  have hk1 := k_in hlek.1 hlek.2
  have hq1 : ∃ q, op2 .quo (fi time) (some 4634204016564240384) = some q ∧ nn q := by
    obtain ⟨q, e, nq, _⟩ := In.quoL c0 c65535 (y := 4634204016564240384) (by kernel_rfl) (In.fi htime.1 htime.1 htime.2)
    exact ⟨q, e, nq⟩
  obtain ⟨tq, htq, ntq⟩ := hq1
  obtain ⟨wk, ew, nw, gw, w1, w2⟩ := id hw1
  obtain ⟨mm, em, nm, gm, m1, m2⟩ := id hm1
  obtain ⟨fa, ef, nf, gf, f1, f2⟩ := id hf1
  obtain ⟨lk, ek, nk, gk, k1, k2⟩ := id hk1
  rw [ew] at hw1
  rw [em] at hm1
  rw [ef] at hf1
  rw [ek] at hk1
  have h2m := m2_in hm1
  obtain ⟨mt, et, nt, gt_, t1, t2⟩ := id h2m
  rw [et] at h2m
  have r1 := det (x := floatOfInt .f64 work) (y := one) (z := wk) (by rw [cls_fi, cls_nn nn_one]; exact ew)
  have r2 := det (x := floatOfInt .f64 time) (y := 4634204016564240384) (z := tq) (by rw [cls_fi, cls_l64]; exact htq)
  have r3 := det (op := .add) (x := tq) (y := half) (z := mm) (by rw [cls_nn ntq, cls_nn nn_half, ← htq]; exact em)
  have r4 := det (x := floatOfInt .f64 far) (y := 4679240012837945344) (z := fa) (by rw [cls_fi, cls_l65]; exact ef)
  have r5 := det (x := floatOfInt .f64 lek) (y := 4643211215818981376) (z := lk) (by rw [cls_fi, cls_l256]; exact ek)
  have r6 := det (op := .mul) (x := 4611686018427387904) (y := mm) (z := mt) (by rw [cls_nn nn_two, cls_nn nm]; exact et)
  have hdbl : key mm ≤ key mt := by
    have fm := In.fin cM0 cM1 m1 m2
    have e := dbl_le fm gm
    have e2 : op2 .mul (some 4611686018427387904) (some mm) = some (fmul 4611686018427387904 mm) := (fmul_spec two_ok.f fm).1
    rw [e2] at et
    obtain rfl := Option.some.inj et
    exact e
  clear ew em ef ek et htq ntq
  have T := tame_any l A c
  have hst : ∀ (p : Addr) (v : Nat) (W : World), (store p (.float .f64 v)).run Try.prog W = stored Try.prog W p (.float .f64 v) .plain := fun p v W => run_store Try.prog W p _ _ rfl
  go_enter Try.func11, Try.ntmps11
  go_upto_region 8 with (first
    | (go_at_call 22; (with_reducible refine (works_any _).mono ?_); rintro e w3 ⟨rfl, hb3⟩; have T1 := T w3 (h.below hb3))
    | (go_at_call 23; (with_reducible refine T1.mono ?_); rintro e w4 ⟨At, ct, rfl, hO, hb4⟩))
  have htab : tab (tame l) = true := by unfold tab; rw [tame_check]; rfl
  obtain ⟨Aq, cq, e1, hp4⟩ := hO.pts
  simp only [Value.slice.injEq] at e1
  obtain ⟨rfl, _, rfl⟩ := e1
  have hg4 : Below w.heap.size w w4 := hb3.trans (hb4.mono hb3.size)
  have hroom := hO.room
  have hX := Bx.new w4 At ct (tame l) wk fa lk hp4
  have hg5 : Below w.heap.size w ((((w4.alloc (.cells #[.slice At (tame l).length ct] 25)).alloc (.cells #[.float .f64 wk] 62)).alloc (.cells #[.float .f64 fa] 62)).alloc (.cells #[.float .f64 lk] 62)) := by
    have q := hg4.size
    exact (((hg4.alloc q _).alloc (by rw [size_al]; omega) _).alloc (by rw [size_al, size_al]; omega) _).alloc (by rw [size_al, size_al, size_al]; omega) _
  generalize (((w4.alloc _).alloc _).alloc _).alloc _ = w5 at *
  clear hO hb3 hb4 hg4 T T1 hp4 r1 r2 r3 r4 r5
  have tl : 1 ≤ (tame l).length ∧ (tame l).length ≤ 41 := by rw [tame_len]; omega
  have trng : ∀ i, i < (tame l).length → 7 ≤ ((tame l).getD i (0, 0)).1 ∧ ((tame l).getD i (0, 0)).1 ≤ 163847 ∧ 11 ≤ ((tame l).getD i (0, 0)).2 ∧ ((tame l).getD i (0, 0)).2 ≤ 40931 := fun i hi => by
    have e : (tame l).getD i (0, 0) = (tame l)[i] := by rw [List.getD, List.getElem?_eq_getElem hi]; rfl
    rw [e, tame_at]
    have := tp_range l i
    omega
  generalize tame l = t at *
  generalize w4.heap.size = n at *
  have B1 := best_any t At ct wk mm fa lk w5 hX.p
  have B2 := Lib.hid (fun w2 (hb : Below w5.heap.size w5 w2) => best_any t At ct wk mt fa lk w2 (hX.on hb).p)
  rw [cls_nn nw, cls_nn nm, cls_nn nf, cls_nn nk, bestR_ok htab (In.pl cW0 cW1 hw1) (In.pl cM0 cM1 hm1) (In.pl cF0 cF1 hf1) (In.pl cK0 cK1 hk1)] at B1
  rw [cls_nn nw, cls_nn nt, cls_nn nf, cls_nn nk, bestR_ok htab (In.pl cW0 cW1 hw1) (In.pl c2M.1 c2M.2 h2m) (In.pl cF0 cF1 hf1) (In.pl cK0 cK1 hk1)] at B2
  have G1 := argm t (some wk) (some mm) (some fa) (some lk) t.length
  have G2 := argm t (some wk) (some mt) (some fa) (some lk) t.length
  generalize bst t (some wk) (some mm) (some fa) (some lk) t.length = s1 at *
  generalize bst t (some wk) (some mt) (some fa) (some lk) t.length = s2 at *
  have TQ : ∀ i, i < t.length → ∃ q, tk t (some wk) i = some q ∧ nn q ∧ neg q = false := fun i hi => tk_some hw1 (trng i hi).1 (trng i hi).2.1
  have DR : ∀ (M a b : Nat), In a b (some M) → Cst a → Cst b → ∀ i, i < t.length → gt (tk t (some wk) i) (some M) = false → ∃ z, dr t (some wk) (some fa) (some lk) i = some z ∧ nn z := fun M a b hM ha hb i hi hg => by
    obtain ⟨q, eq, nq, gq⟩ := TQ i hi
    rw [eq] at hg
    have r := trng i hi
    obtain ⟨z, ez, nz⟩ := dr_some (pw_in hf1 hk1 r.1 r.2.1 r.2.2.1 r.2.2.2) hM ha hb nq gq hg
    exact ⟨z, by unfold dr; rw [eq]; exact ez, nz⟩
  have D1 := DR mm _ _ hm1 cM0 cM1
  have D2 := DR mt _ _ h2m c2M.1 c2M.2
  have UP : ∀ i, i < t.length → gt (tk t (some wk) i) (some mm) = false → gt (tk t (some wk) i) (some mt) = false := fun i hi hg => by
    obtain ⟨q, eq, nq, gq⟩ := TQ i hi
    rw [eq] at hg ⊢
    rw [gt_key nq nm] at hg
    rw [gt_key nq nt]
    have := of_decide_eq_false hg
    exact decide_eq_false (by omega)
  have CW : Hid (cls wk = some wk ∧ cls fa = some fa ∧ cls lk = some lk) := Lib.hid ⟨cls_nn nw, cls_nn nf, cls_nn nk⟩
  have DA : Hid (∀ (k q z : Nat) (W : World), Bx W n At ct t wk fa lk → k < t.length → tk t (some wk) k = some q → nn q → dr t (some wk) (some fa) (some lk) k = some z →
      Calls Try.prog 40 #[.int .i64 k, .pointer (some ⟨n, 0, none⟩), .pointer (some ⟨n + 1 + 1, 0, none⟩), .pointer (some ⟨n + 1 + 1 + 1, 0, none⟩), .pointer (some ⟨n + 1, 0, none⟩)] W fun e w' => e = .returned (.float .f64 z) ∧ Below W.heap.size W w') := Lib.hid (fun k q z W hB hk hq nq hz =>
    draws_any t At ct k n (n + 2) (n + 3) (n + 1) wk fa lk q z W hB.p hk hB.b1 hB.b3 hB.b4 hB.b2 (by rw [CW.out.1]; exact hq) (by rw [CW.out.1, CW.out.2.1, CW.out.2.2]; exact hz) nq)
  have hcw : Hid (cls wk = some wk) := Lib.hid (cls_nn nw)
  clear DR trng hw1 hm1 hf1 hk1 h2m gw w1 w2 gm m1 m2 gf f1 f2 gk k1 k2 gt_ t1 t2 hdbl
  replace htab := Lib.hid htab
  generalize hR1 : (if s1.1 < 0 then ((0 : Int), (6 : Int)) else (s1.1, 0)) = R1 at *
  generalize hR2 : (if s2.1 < 0 then ((0 : Int), (6 : Int)) else (s2.1, 0)) = R2 at *
  replace hR1 := Lib.hid hR1
  replace hR2 := Lib.hid hR2
  have hc := hX
  obtain ⟨x1, x2, x3, x4, x5⟩ := hc
  have y1 := cell_of_row _ _ 0 _ 25 (0, 0) x1
  have y2 := cell_of_row _ _ 0 _ 62 (0, 0) x2
  have y3 : w5.cell? ⟨n + 1 + 1, 0, none⟩ = some (.float .f64 fa) := cell_of_row _ _ 0 _ 62 (0, 0) x3
  have y4 : w5.cell? ⟨n + 1 + 1 + 1, 0, none⟩ = some (.float .f64 lk) := cell_of_row _ _ 0 _ 62 (0, 0) x4
  have l1 := heap_lt x1
  have l2 := heap_lt x2
  have l3 : n + 1 + 1 < w5.heap.size := heap_lt x3
  have l4 : n + 1 + 1 + 1 < w5.heap.size := heap_lt x4
  clear x1 x2 x3 x4 x5
  go_upto_block 0 with (first
    | (go_at_call 34; (with_reducible refine B1.mono ?_); rintro e w6 ⟨rfl, hb6⟩; have z1 := (hb6.cell (p := ⟨n, 0, none⟩) l1).trans y1; have z2 := (hb6.cell (p := ⟨n + 1, 0, none⟩) l2).trans y2; have z3 := (hb6.cell (p := ⟨n + 1 + 1, 0, none⟩) l3).trans y3; have z4 := (hb6.cell (p := ⟨n + 1 + 1 + 1, 0, none⟩) l4).trans y4; have C2 := B2.out w6 hb6)
    | (go_at_call 34; (with_reducible refine C2.mono ?_); rintro e w7 ⟨rfl, hb7⟩))
  have hb57 := hb6.trans (hb7.mono hb6.size)
  have hX7 := hX.on hb57
  have hg7 : Below w.heap.size w w7 := hg5.trans (hb57.mono hg5.size)
  clear y1 y2 y3 y4 z1 z2 z3 z4 l1 l2 l3 l4 B1 B2 C2 hb6 hb7 hb57 hX hg5
  go_cut [25] from 66 to 106 (fun b wx => b = .bool (decide (¬ s1.1 < 0)) ∧ Below w7.heap.size w7 wx)
  case first =>
    clear r6 hR2 G2 D2 UP h hg7 nw nf nk nt hwork htime hfar hlek hroom CW hst
    by_cases hneg : s1.1 < 0
    · have hout := Lib.hid (G1.neg hneg)
      have e0 : Hid (decide (¬ s1.1 < 0) = false) := Lib.hid (decide_eq_false (fun q => q hneg))
      clear D1 DA G1 hneg
      go_wp2
      go_loopw [25, 26] (fun b i wr => ∃ k : Nat, k ≤ t.length ∧ i = .int .i64 k ∧ b = .bool false ∧ Below w7.heap.size w7 wr) (fun _ i _ => t.length - (intOf i).toNat)
      case atStart => exact ⟨0, by omega, rfl, rfl, Below.refl _ _⟩
      case round =>
        obtain ⟨k, hk, rfl, rfl, hd⟩ := hrel
        have HB := hX7.on hd
        have y1 := cell_of_row _ _ 0 _ 25 (0, 0) HB.b1
        have y2 := cell_of_row _ _ 0 _ 62 (0, 0) HB.b2
        by_cases hkl : k = t.length
        · subst hkl
          go_wp2
          go_meet
          case rel => exact ⟨by rw [e0.out], hd⟩
        have hlt : k < t.length := by omega
        obtain ⟨q, eq, nq, _⟩ := TQ k hlt
        have hg := hout.out k hlt
        rw [eq] at hg
        obtain ⟨b, o, rfl, hbl, c0, -⟩ := Pts.at_ HB.p hlt
        have rq := det (op := .quo) (x := wk) (y := floatOfInt .f64 t[k].1) (z := q) (by
          rw [cls_fi, hcw.out]
          unfold tk at eq
          rw [List.getD, List.getElem?_eq_getElem hlt] at eq
          exact eq)
        have ho : (FloatKind.f64.format.order q mm == some .gt) = true := by rw [order_run, cls_nn nq, cls_nn nm]; exact hg
        generalize t[k].1 = x at *
        clear hout TQ HB hg eq nq nm
        go_upto_region 15 with fail
        go_big_quiet (fail)
        go_wp2
        go_roundw
        case rel => exact ⟨k + 1, by omega, by go_num, rfl, below_drewN' hd _⟩
        case measure => simp [intOf]; omega
    · have e0 : Hid (decide (¬ s1.1 < 0) = true) := Lib.hid (decide_eq_true hneg)
      obtain ⟨n1, hs1, hlt1, hin1, hZ, hall⟩ := G1.pos hneg
      obtain ⟨z1, ez1, nz1⟩ := D1 n1 hlt1 hin1
      obtain ⟨q1, eq1, nq1, _⟩ := TQ n1 hlt1
      have eR : R1 = ((n1 : Int), 0) := by rw [← hR1.out, if_neg hneg, hs1]
      subst eR
      rw [ez1] at hZ
      rw [hZ] at hall
      replace hall := Lib.hid hall
      replace hin1 := Lib.hid hin1
      replace eq1 := Lib.hid eq1
      replace ez1 := Lib.hid ez1
      clear G1 hneg hR1 hs1 hZ
      go_wp2
      go_loopw [25, 26] (fun b i wr => ∃ (k : Nat) (sm : Bool), k ≤ t.length ∧ i = .int .i64 k ∧ b = .bool sm ∧ (n1 < k → sm = true) ∧ Below w7.heap.size w7 wr) (fun _ i _ => t.length - (intOf i).toNat)
      case atStart => exact ⟨0, false, by omega, rfl, rfl, fun q => absurd q (by omega), Below.refl _ _⟩
      case round =>
        obtain ⟨k, sm, hk, rfl, rfl, hsm, HG⟩ := hrel
        replace hsm := Lib.hid hsm
        have HB := hX7.on HG
        have y1 := cell_of_row _ _ 0 _ 25 (0, 0) HB.b1
        have y2 := cell_of_row _ _ 0 _ 62 (0, 0) HB.b2
        by_cases hkl : k = t.length
        · subst hkl
          have esm := Lib.hid (hsm.out hlt1)
          go_wp2
          go_meet
          case rel => exact ⟨by rw [e0.out, esm.out], HG⟩
        have hlt : k < t.length := by omega
        obtain ⟨q, eq, hq0, _⟩ := TQ k hlt
        obtain ⟨b, o, rfl, hbl, c0, -⟩ := Pts.at_ HB.p hlt
        have rq := det (op := .quo) (x := wk) (y := floatOfInt .f64 t[k].1) (z := q) (by
          rw [cls_fi, hcw.out]
          unfold tk at eq
          rw [List.getD, List.getElem?_eq_getElem hlt] at eq
          exact eq)
        have ho : (FloatKind.f64.format.order q mm == some .gt) = gt (tk t (some wk) k) (some mm) := by rw [order_run, cls_nn hq0, cls_nn nm, eq]; rfl
        generalize t[k].1 = x at *
        cases hg : gt (tk t (some wk) k) (some mm)
        · rw [hg] at ho
          obtain ⟨z, ez, nz⟩ := D1 k hlt hg
          have ha := hall.out k hlt hg
          rw [ez] at ha
          have o1 : (FloatKind.f64.format.order z z1 == some .lt) = false := by rw [order_run, cls_nn nz, cls_nn nz1]; exact ha.1
          have o2 : k < n1 → (FloatKind.f64.format.order z z1 == some .eq) = false := fun q => by rw [order_run, cls_nn nz, cls_nn nz1]; exact ha.2.1 q
          clear ha hg TQ D1 nm
          replace eq := Lib.hid eq
          replace ez := Lib.hid ez
          replace o2 := Lib.hid o2
          by_cases hki : k < n1
          · have o3 := o2.out hki
            clear o2
            go_upto_region 15 with fail
            go_big_quiet (fail)
            replace HB := HB.on (below_drewN' (Below.refl wr.heap.size wr) nq)
            replace HG := below_drewN' HG nq
            clear y1 y2 c0 hbl rq
            generalize wr.drewN nq = wq at *
            go_wp2_with (first
              | (go_at_call 40; (with_reducible refine (DA.out k q z _ HB hlt eq.out hq0 ez.out).mono ?_); rintro e v ⟨rfl, hv⟩; replace HB := HB.on hv; replace HG := HG.trans (hv.mono HG.size); clear hv)
              | (go_at_call 40; (with_reducible refine (DA.out n1 q1 z1 _ HB hlt1 eq1.out nq1 ez1.out).mono ?_); rintro e v ⟨rfl, hv⟩; replace HB := HB.on hv; replace HG := HG.trans (hv.mono HG.size); clear hv))
            go_roundw
            case rel => exact ⟨k + 1, true, by omega, by go_num, rfl, fun _ => rfl, HG⟩
            case measure => simp [intOf]; omega
          · clear o2
            go_upto_region 15 with fail
            go_big_quiet (fail)
            replace HB := HB.on (below_drewN' (Below.refl wr.heap.size wr) nq)
            replace HG := below_drewN' HG nq
            clear y1 y2 c0 hbl rq
            generalize wr.drewN nq = wq at *
            go_wp2_with (first
              | (go_at_call 40; (with_reducible refine (DA.out k q z _ HB hlt eq.out hq0 ez.out).mono ?_); rintro e v ⟨rfl, hv⟩; replace HB := HB.on hv; replace HG := HG.trans (hv.mono HG.size); clear hv)
              | (go_at_call 40; (with_reducible refine (DA.out n1 q1 z1 _ HB hlt1 eq1.out nq1 ez1.out).mono ?_); rintro e v ⟨rfl, hv⟩; replace HB := HB.on hv; replace HG := HG.trans (hv.mono HG.size); clear hv))
            go_roundw
            case rel => exact ⟨k + 1, true, by omega, by go_num, rfl, fun _ => rfl, HG⟩
            case measure => simp [intOf]; omega
        · rw [hg] at ho
          have hne : Hid (k ≠ n1) := Lib.hid (fun e => by rw [e, hin1.out] at hg; cases hg)
          clear hg TQ HB eq hq0 nm D1 DA
          go_upto_region 15 with fail
          go_big_quiet (fail)
          go_wp2
          go_roundw
          case rel => exact ⟨k + 1, sm, by omega, by go_num, rfl, fun q => hsm.out (by have := hne.out; omega), below_drewN' HG _⟩
          case measure => simp [intOf]; omega
  obtain ⟨rfl, gA⟩ := hcut
  obtain ⟨wA, rfl⟩ : ∃ x : World, x = wc := ⟨_, rfl⟩
  have hXA := hX7.on gA
  have hgA : Below w.heap.size w wA := hg7.trans (gA.mono hg7.size)
  clear hX7 hg7 gA
  generalize hsb : decide (¬ s1.1 < 0) = sb at *
  replace hsb := Lib.hid hsb
  go_upto_region 19 with fail
  go_cut [138] from 107 to 137 (fun b wx => b = .bool false ∧ Below wA.heap.size wA wx)
  case first =>
    clear r6 h hgA nw nf nk hwork htime hfar hlek hroom CW hst
    by_cases hneg : s1.1 < 0
    · have eR : R1 = (0, 6) := by rw [← hR1.out, if_pos hneg]
      have eb : sb = false := by rw [← hsb.out]; exact decide_eq_false (fun q => q hneg)
      subst eR
      subst eb
      clear TQ D1 D2 UP DA hXA hR1 hR2 hsb G1 G2 hneg
      go_big_quiet (fail)
      go_wp2
      go_meet
      case rel => exact ⟨rfl, below_drewN' (Below.refl _ _) _⟩
    · have eb : sb = true := by rw [← hsb.out]; exact decide_eq_true hneg
      obtain ⟨n1, hs1, hlt1, hin1, hZ, hall⟩ := G1.pos hneg
      obtain ⟨z1, ez1, nz1⟩ := D1 n1 hlt1 hin1
      obtain ⟨q1, eq1, hq1, _⟩ := TQ n1 hlt1
      have hneg2 : ¬ s2.1 < 0 := fun q => by
        have := G2.neg q n1 hlt1
        rw [UP n1 hlt1 hin1] at this
        cases this
      obtain ⟨n2, hs2, hlt2, hin2, hZ2, hall2⟩ := G2.pos hneg2
      obtain ⟨z2, ez2, nz2⟩ := D2 n2 hlt2 hin2
      obtain ⟨q2, eq2, hq2, _⟩ := TQ n2 hlt2
      have eR : R1 = ((n1 : Int), 0) := by rw [← hR1.out, if_neg hneg, hs1]
      have eR2 : R2 = ((n2 : Int), 0) := by rw [← hR2.out, if_neg hneg2, hs2]
      subst eR
      subst eR2
      subst eb
      have ha := (hall2 n1 hlt1 (UP n1 hlt1 hin1)).1
      rw [ez1, hZ2, ez2] at ha
      have o1 : (FloatKind.f64.format.order z2 z1 == some .gt) = false := by
        rw [order_run, cls_nn nz1, cls_nn nz2]
        have e := gt_lt (a := some z2) (b := some z1) (fun x h => by obtain rfl := Option.some.inj h; exact nz2) (fun x h => by obtain rfl := Option.some.inj h; exact nz1)
        rw [ha] at e
        exact e
      have o2 : (FloatKind.f64.format.order q1 mm == some .gt) = false := by
        rw [order_run, cls_nn hq1, cls_nn nm]
        rw [eq1] at hin1
        exact hin1
      obtain ⟨b, o, rfl, hbl, -, -⟩ := Pts.at_ hXA.p hlt1
      have rq := det (op := .quo) (x := wk) (y := floatOfInt .f64 t[n1].1) (z := q1) (by
        rw [cls_fi, hcw.out]
        unfold tk at eq1
        rw [List.getD, List.getElem?_eq_getElem hlt1] at eq1
        exact eq1)
      have hK : ∀ W, Bx W n (some ⟨b, o, none⟩) ct t wk fa lk → W.cell? ⟨n, 0, none⟩ = some (.slice (some ⟨b, o, none⟩) t.length ct) ∧ W.cell? ⟨n + 1, 0, none⟩ = some (.float .f64 wk) ∧ W.cell? ⟨b, o + n1 * 2, none⟩ = some (.int .i64 t[n1].1) := fun W hB => by
        obtain ⟨b2, o2, e2, _, d0, _⟩ := Pts.at_ hB.p hlt1
        cases e2
        exact ⟨cell_of_row _ _ 0 _ 25 (0, 0) hB.b1, cell_of_row _ _ 0 _ 62 (0, 0) hB.b2, d0⟩
      have HB0 := hXA.on ((Below.refl wA.heap.size wA).drew)
      have HG0 : Below wA.heap.size wA wA.drew := (Below.refl _ wA).drew
      replace eq1 := Lib.hid eq1
      replace ez1 := Lib.hid ez1
      replace eq2 := Lib.hid eq2
      replace ez2 := Lib.hid ez2
      generalize t[n1].1 = x at *
      clear TQ D1 D2 UP hXA hR1 hR2 hsb G1 G2 hneg hneg2 hin1 hZ hall hin2 hZ2 hall2 hs1 hs2 ha nm nz1 nz2 nt
      go_region_held3 (fun W => W.cell? ⟨n, 0, none⟩ = some (.slice (some ⟨b, o, none⟩) t.length ct) ∧ W.cell? ⟨n + 1, 0, none⟩ = some (.float .f64 wk) ∧ W.cell? ⟨b, o + n1 * 2, none⟩ = some (.int .i64 x))
        (first | (with_reducible exact hK _ HB0) | (with_reducible exact hK _ HB1) | (with_reducible exact hK _ HB2))
        (first
          | (go_at_call 40; (with_reducible refine (DA.out n2 q2 z2 _ HB0 hlt2 eq2.out hq2 ez2.out).mono ?_); rintro e v1 ⟨rfl, hv1⟩; have HB1 := HB0.on hv1; have HG1 := HG0.trans (hv1.mono HG0.size))
          | (go_at_call 40; (with_reducible refine (DA.out n1 q1 z1 _ HB1 hlt1 eq1.out hq1 ez1.out).mono ?_); rintro e v2 ⟨rfl, hv2⟩; have HB2 := HB1.on hv2; have HG2 := HG1.trans (hv2.mono HG1.size)))
      all_goals go_wp2
      all_goals go_meet
      all_goals (case rel => exact ⟨rfl, HG2⟩)
  obtain ⟨rfl, gB⟩ := hcut
  obtain ⟨wB, rfl⟩ : ∃ x : World, x = wc := ⟨_, rfl⟩
  have hXB := hXA.on gB
  have hgB : Below w.heap.size w wB := hgA.trans (gB.mono hgA.size)
  have y1 := cell_of_row _ _ 0 _ 25 (0, 0) hXB.b1
  have hm0 := Int.emod_nonneg a (show (t.length : Int) ≠ 0 by omega)
  have hm1 := Int.emod_lt_of_pos a (show (0 : Int) < (t.length : Int) by omega)
  have PK := fun W => pick_any a (t.length : Int) W (by omega) (by omega)
  generalize a % (t.length : Int) = m at *
  have NX := next_any t At ct m ld 4605380978949069210 4599075939470750515 wB hXB.p hroom
  have NR := nextR_ok (L := cls ld) htab.out hm0 hm1 nok_lit
  have hge : (FloatKind.f64.format.order ld 4605380978949069210 == some .gt || FloatKind.f64.format.order ld 4605380978949069210 == some .eq) = ge (cls ld) (cls 4605380978949069210) := by rw [order_run]; rfl
  have hwr : IntKind.i64.wrap ((t.length : Int) - 1) = (t.length : Int) - 1 := by rw [IntKind.wrap_i64]; omega
  generalize nextR t m (cls ld) (cls 4605380978949069210) (cls 4599075939470750515) = R at *
  generalize ge (cls ld) (cls 4605380978949069210) = gU at *
  obtain ⟨r, r2⟩ := R
  obtain ⟨n1, n2, n3, n4, n5⟩ := NR
  simp only at n1 n2 n3 n4 n5 NX
  subst n1
  have lB := heap_lt hXB.b1
  clear gB hXA hgA TQ D1 D2 UP DA G1 G2 hR1 hR2 hsb CW hcw h r6 hst nw nm nf nk nt hwork htime hfar hlek
  cases gU
  · have n6 := n4 rfl
    clear n4 n5
    go_wp2_with (first
      | (go_at_call 27; (with_reducible refine (PK _).mono ?_); rintro e v0 ⟨rfl, hv⟩; subst hv)
      | (go_at_call 30; (with_reducible refine NX.mono ?_); rintro e v1 ⟨rfl, hb1⟩; have y2 := (hb1.cell (p := ⟨n, 0, none⟩) lB).trans y1))
    go_ret
    exact ⟨rfl, hgB.trans (hb1.mono hgB.size)⟩
  · have n6 := n5 rfl
    subst n6
    clear n4 n5
    go_wp2_with (first
      | (go_at_call 27; (with_reducible refine (PK _).mono ?_); rintro e v0 ⟨rfl, hv⟩; subst hv)
      | (go_at_call 30; (with_reducible refine NX.mono ?_); rintro e v1 ⟨rfl, hb1⟩; have y2 := (hb1.cell (p := ⟨n, 0, none⟩) lB).trans y1))
    go_ret
    exact ⟨rfl, hgB.trans (hb1.mono hgB.size)⟩
end Go.Proofs.Ythmdhmknadhjeaa
