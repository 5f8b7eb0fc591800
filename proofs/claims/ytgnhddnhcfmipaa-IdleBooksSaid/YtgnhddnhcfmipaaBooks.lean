/- IdleBooks, walked. -/
import Derived.Test.YtgnhddnhcfmipaaBks
import Derived.Deep.CutBlock
namespace Go.Proofs.Ytgnhddnhcfmipaa
open Go.RowKit Go.BigFrame

set_option maxHeartbeats 16000000 in
set_option maxRecDepth 100000 in
theorem books_walk (ps qs : List Int) (l : List (Int × Int)) (A B C : Option Addr) (a b c : Nat) (w : World) (hp : Ints w A ps) (hq : Ints w B qs) (ht : Trs w C l) (hrp : ps.length * 8 ≤ 140737488351232) (hrq : qs.length * 8 ≤ 140737488351232)
    (hzA : A = none → a = 0) (hzB : B = none → b = 0) :
    Calls Try.prog 5 #[.slice A ps.length a, .slice B qs.length b, .slice C l.length c] w fun e w' => e = .returned (.bool true) ∧ Below w.heap.size w w' := by
  have htd := Lib.hid (fun (j : Nat) (hj : j < l.length) (W' : World) (hd : Below w.heap.size w W') => (ht.below hd).at_ hj)
  have hle := ht.le
  clear ht
  obtain ⟨m, hll⟩ : ∃ m, m = l.length := ⟨_, rfl⟩
  rw [← hll] at hle ⊢
  replace hll := Lib.hid hll.symm
  have hpl : Hid ((ps.map irow).length = ps.length) := Lib.hid (List.length_map _)
  have hql : Hid ((qs.map irow).length = qs.length) := Lib.hid (List.length_map _)
  go_enter Try.func5, Try.ntmps5
  go_upto_region 3 with (first
    | (at_builtin; refine wpList_app_any el42 rfl _ _ rfl rfl (Own.lit (w := w) (base := w.heap.size) (e := 3) (size := 1) (xs := []) #[] 0 rfl rfl (by simp) (Nat.le_refl _) (by decide)) A a ps.length hpl.out.symm rfl hzA (Sl.alloc hp _) (one_ints ps) (by rw [hpl.out]; simp; omega) (by rw [size_al]; omega) ?_; intro vp w1 hx hb1 hs1 _ _; have hq1 := Sl.below' hq (((Below.refl _ _).alloc (Nat.le_refl _) _).trans hb1))
    | (at_builtin; refine wpList_app_any el42 rfl _ _ rfl rfl (Own.lit (w := w1) (base := w1.heap.size) (e := 3) (size := 1) (xs := []) #[] 0 rfl rfl (by simp) (Nat.le_refl _) (by decide)) B b qs.length hql.out.symm rfl hzB (Sl.alloc hq1 _) (one_ints qs) (by rw [hql.out]; simp; omega) (by rw [size_al]; omega) ?_; intro vq w2 hy hb2 hs2 _ _))
  rw [List.nil_append] at hx hy
  rw [size_al] at hs1 hs2
  obtain ⟨Ap, cp, rfl, hpi⟩ := own_ints hx
  obtain ⟨Aq, cq, rfl, hqi⟩ := own_ints hy
  have hbx : Below w.heap.size w w1 := ((Below.refl _ _).alloc (Nat.le_refl _) _).trans hb1
  have hby : Below w1.heap.size w1 w2 := ((Below.refl _ _).alloc (Nat.le_refl _) _).trans hb2
  have G2 : Below w.heap.size w w2 := hbx.trans (hby.mono (by omega))
  have hp2 := (Ints.below (Ints.below hp hbx) hby)
  have hq2 := (Ints.below (Ints.below hq hbx) hby)
  have hpi2 := Ints.below hpi hby
  have hxp : ∀ g, (Value.slice Ap ps.length cp).ownBlock = some g → w.heap.size ≤ g ∧ g < w1.heap.size := hx.lt
  have hxq : ∀ g, (Value.slice Aq qs.length cq).ownBlock = some g → w1.heap.size ≤ g ∧ g < w2.heap.size := hy.lt
  have hx2 := hx.below hby
  by_cases hok : openOk ps qs
  · have K1 := open_yes ps qs Ap Aq cp cq w2 hpi2 hqi hok
    have hn := hok.1
    have h5 := hok.2.1
    have hpar := devs_par hok
    have hdl := devs_len ps qs ps.length
    have K2 := fun W' (hb : Below w2.heap.size w2 W') => ropen_yes ps qs A B a b W' (Ints.below hp2 hb) (Ints.below hq2 hb) hok
    generalize hD : devs ps qs ps.length = D at *
    clear hok hpl hql hp hq hq1 hp2 hq2 hpi hqi hpi2 hb1 hb2 hbx hby hrp hrq hD
    rw [← hn] at hy hxq K1 K2 ⊢
    generalize hnp : ps.length = n at *
    replace hn := Lib.hid hn
    replace hnp := Lib.hid hnp
    go_upto_region 10 with (first
      | (go_at_call 25; (with_reducible refine (K1).mono ?_); rintro e w3 ⟨v, rfl, hB3, hb3⟩)
      | (go_at_call 26; (with_reducible refine (K2 _ hb3).mono ?_); rintro e w4 ⟨v2, rfl, hR4, hb4⟩))
    have hT : Twb w w4 w3.heap.size w2.heap.size w3.heap.size v v2 D 0 D 0 := ⟨hB3.below hb4, hR4, heap_lt hB3.hb, fun g hg => (hB3.own.lt g hg).2, Nat.le_refl _, G2.size, (G2.trans (hb3.mono G2.size)).trans (hb4.mono (Nat.le_trans G2.size hb3.size))⟩
    have hx4 := (hx2.below hb3).below hb4
    have hy4 := (hy.below hb3).below hb4
    have hpl : Hid ((ps.map irow).length = n) := Lib.hid (by rw [List.length_map]; exact hnp.out)
    have hql : Hid ((qs.map irow).length = n) := Lib.hid (by rw [List.length_map]; exact hn.out.symm)
    have hs12 := hy.lt
    have hnn : n ≤ 512 := h5
    clear K1 K2 hB3 hR4 hb3 hb4 hx hy hx2 G2 hs12
    generalize w3.heap.size = M at *
    go_loopw [13] (fun s13 wr => ∃ (k : Nat) (r1 r2 : List (List Value)), k ≤ n ∧ s13 = .int .i64 k ∧ r1.length = n ∧ r2.length = n ∧ Own wr w.heap.size 3 1 r1 (.slice Ap n cp) ∧ Own wr w1.heap.size 3 1 r2 (.slice Aq n cq) ∧ Twb w wr M w2.heap.size M v v2 D 0 D 0) (fun s13 _ => n - (intOf s13).toNat)
    case atStart => exact ⟨0, ps.map irow, qs.map irow, by omega, rfl, hpl.out, hql.out, hx4, hy4, hT⟩
    case round =>
      clear hT hx4 hy4 hpl hql
      obtain ⟨k, r1, r2, hk, rfl, hr1, hr2, hO1, hO2, hT⟩ := hrel
      obtain ⟨wi, rfl⟩ : ∃ x : World, x = wr := ⟨_, rfl⟩
      by_cases hkn : k = n
      · subst hkn
        clear hO1 hO2 hr1 hr2 hxp hxq hk hs1 hs2
        go_upto_region 15 with fail
        go_loopw [14] (fun s14 wr => ∃ (j : Nat) (ds : List Dv) (now : Int), j ≤ m ∧ j ≤ 300 ∧ s14 = .int .i64 j ∧ Twb w wr M w2.heap.size M v v2 ds now ds now ∧ Par ds ∧ ds.length = k) (fun s14 _ => m - (intOf s14).toNat)
        case atStart => exact ⟨0, D, 0, by omega, by omega, rfl, hT, hpar, hdl⟩
        case round =>
          clear hT hpar hdl
          obtain ⟨j, ds, now, hj, hj3, rfl, hT, hpar, hdl⟩ := hrel
          obtain ⟨wi, rfl⟩ : ∃ x : World, x = wr := ⟨_, rfl⟩
          by_cases hjm : j = m
          · subst hjm
            have e0 := hT.b
            clear hT htd
            go_wp2
            go_ret
            exact ⟨rfl, e0⟩
          by_cases hj300 : j = 300
          · subst hj300
            have e0 := hT.b
            clear hT htd
            go_wp2
            go_ret
            exact ⟨rfl, e0⟩
          have hjlt : j < m := by omega
          have hjl : j < l.length := by rw [hll.out]; exact hjlt
          have hj3' : (j : Int) < 300 := by omega
          obtain ⟨bl, ol, rfl, _, x0, x1⟩ := htd.out j hjl wi hT.b
          have hx1 := Lib.hid (fun W' (hd : Below w.heap.size w W') => by
            obtain ⟨b', o', e, _, _, q⟩ := htd.out j hjl W' hd
            cases e
            exact q)
          generalize l[j] = tn at *
          obtain ⟨kd, N⟩ := tn
          simp only at x0 x1 hx1
          have hN := hT.bnd
          have hNw : w.heap.size ≤ wi.heap.size := hT.b.size
          have hMi : M < wi.heap.size := hT.rk.lt
          have h5 : ds.length ≤ 512 := by omega
          go_upto_block 4 with fail
          go_cut [15, 16, 17, 18, 19] from 79 to 160 (fun sw sg s17 s18 s19 wc => ∃ (evs : List Ev) (code : Int) (ds' : List Dv) (now' : Int), evs.length ≤ 1000 ∧ s17 = .int .i64 code ∧ s18 = .int .i64 code ∧ Twb w wc M w2.heap.size M v v2 ds' now' ds' now' ∧ Par ds' ∧ ds'.length = k ∧ Own wc wi.heap.size 120 3 (evs.map erow) sw ∧ Own wc wi.heap.size 84 3 (evs.map erow) sg ∧ wi.heap.size ≤ wc.heap.size)
          case first =>
            have hkeep : ∀ (wa wb : World) (T : TypeId) (xs : List (List Value)) (x : Value), Own wa wi.heap.size T 3 xs x → (∀ q, M ≤ q → q < wa.heap.size → wb.heap[q]? = wa.heap[q]?) → Own wb wi.heap.size T 3 xs x := fun wa wb T xs x h1 h2 => h1.keep fun g hg => h2 g (by have := (h1.lt g hg).1; omega) (h1.lt g hg).2
            replace hkeep := Lib.hid hkeep
            clear htd
            by_cases k1 : kd = 1
            · subst k1
              have K1 := twb_rget hT hpar h5 N
              have e1 := Lib.hid (getd_par (now := now) hpar N)
              have e2 := Lib.hid (getd_ev (now := now) hpar h5 N)
              have K2 := fun wa hTa => twb_get (w := w) (W := wa) (M := M) (bb := w2.heap.size) (rb := M) (v := v) (v2 := v2) (ds := ds) (now := now) (d2 := (getd ds now N).1) (n2 := now) hTa hpar h5 N
              generalize getd ds now N = R at *
              clear hT hN
              go_wp2_with (first
                | (go_at_call 27; (with_reducible refine (K1).mono ?_); rintro e wa ⟨va, rfl, hTa, hoa, hsa⟩; have x1 := (hx1.out _ hTa.b))
                | (go_at_call 28; (with_reducible refine (K2 _ hTa).mono ?_); rintro e wb ⟨vb, rfl, hTb, hob, hsb, hkb⟩))
              go_meet
              case rel => exact ⟨R.2.1, R.2.2, R.1, now, e2.out, rfl, rfl, hTb, e1.out.1, e1.out.2.trans hdl, hkeep.out _ _ _ _ _ hoa hkb, hob.mono hsa, Nat.le_trans hsa hsb⟩
            by_cases k2 : kd = 2
            · subst k2
              have K1 := twb_rput hT N
              have e1 := Lib.hid (putd_par (now := now) hpar N)
              have e2 := Lib.hid (putd_len ds now N)
              have K2 := fun wa hTa => twb_put (w := w) (W := wa) (M := M) (bb := w2.heap.size) (rb := M) (v := v) (v2 := v2) (ds := ds) (now := now) (d2 := (putd ds now N).1) (n2 := now) hTa N
              generalize putd ds now N = R at *
              clear hT hN k1
              go_wp2_with (first
                | (go_at_call 29; (with_reducible refine (K1).mono ?_); rintro e wa ⟨rfl, hTa, hsa⟩; have x1 := (hx1.out _ hTa.b))
                | (go_at_call 30; (with_reducible refine (K2 _ hTa).mono ?_); rintro e wb ⟨rfl, hTb, hsb⟩))
              go_meet
              case rel => exact ⟨[], R.2, R.1, now, by simp, rfl, rfl, hTb, e1.out, e2.out.trans hdl, Own.nil _ _ _ _, Own.nil _ _ _ _, Nat.le_trans hsa hsb⟩
            by_cases k3 : kd = 3
            · subst k3
              have y1 := hT.rk.c1
              clear k1 k2
              go_upto_region 30 with fail
              go_cut [142] from 130 to 141 (fun t wx => ∃ q : Bool, t = .bool q ∧ wx = wi)
              case first =>
                clear hT hN hpar
                by_cases c1 : 0 ≤ N
                · by_cases c2 : N ≤ 1073741824
                  · by_cases c3 : now ≤ 1073741824
                    · go_wp2
                      go_meet
                      case rel => exact ⟨_, rfl, rfl⟩
                    · go_wp2
                      go_meet
                      case rel => exact ⟨_, rfl, rfl⟩
                  · go_wp2
                    go_meet
                    case rel => exact ⟨_, rfl, rfl⟩
                · go_wp2
                  go_meet
                  case rel => exact ⟨_, rfl, rfl⟩
              obtain ⟨q, rfl, rfl⟩ := hcut
              obtain ⟨wi, rfl⟩ : ∃ x : World, x = wc := ⟨_, rfl⟩
              go_upto_if 142 with fail
              go_cut [19] from 143 to 148 (fun s19 wx => ∃ T : Int, s19 = .int .i64 T ∧ wx = wi)
              case first =>
                clear hT hN hpar
                cases q
                · go_wp2
                  go_meet
                  case rel => exact ⟨_, rfl, rfl⟩
                · go_wp2
                  go_meet
                  case rel => exact ⟨_, rfl, rfl⟩
              obtain ⟨T, rfl, rfl⟩ := hcut
              have K1 := twb_rtick hT hpar h5 T
              have e1 := Lib.hid (tickd_par (now := now) hpar T)
              have e2 := Lib.hid (tickd_ev (now := now) h5 T)
              have K2 := fun wa hTa => twb_tick (w := w) (W := wa) (M := M) (bb := w2.heap.size) (rb := M) (v := v) (v2 := v2) (ds := ds) (now := now) (d2 := (tickd ds now T).1) (n2 := (tickd ds now T).2.1) hTa hpar h5 T
              generalize tickd ds now T = R at *
              clear hT hN y1
              go_wp2_with (first
                | (go_at_call 31; (with_reducible refine (K1).mono ?_); rintro e wa ⟨va, rfl, hTa, hoa, hsa⟩)
                | (go_at_call 32; (with_reducible refine (K2 _ hTa).mono ?_); rintro e wb ⟨vb, rfl, hTb, hob, hsb, hkb⟩))
              go_meet
              case rel => exact ⟨R.2.2.1, R.2.2.2, R.1, R.2.1, e2.out, rfl, rfl, hTb, e1.out.1, e1.out.2.trans hdl, hkeep.out _ _ _ _ _ hoa hkb, hob.mono hsa, Nat.le_trans hsa hsb⟩
            have z1 : (kd == 1) = false := beq_eq_false_iff_ne.2 k1
            have z2 : (kd == 2) = false := beq_eq_false_iff_ne.2 k2
            have z3 : (kd == 3) = false := beq_eq_false_iff_ne.2 k3
            clear hN k1 k2 k3
            go_wp2
            go_meet
            case rel => exact ⟨[], 0, ds, now, by simp, rfl, rfl, hT, hpar, hdl, Own.nil _ _ _ _, Own.nil _ _ _ _, Nat.le_refl _⟩
          obtain ⟨evs, code, ds', now', hel, rfl, rfl, hTc, hpc, hdc, how, hog, hsc⟩ := hcut
          obtain ⟨wx, rfl⟩ : ∃ x : World, x = wc := ⟨_, rfl⟩
          obtain ⟨Aw, cw, rfl, hew⟩ := own_evs how
          obtain ⟨Ag, cg, rfl, heg⟩ := own_evs hog
          have hdn := fun q => (Drawn.refl wx).drewN q
          have KE := fun q => events_same evs Ag Aw cg cw (wx.drewN q) (Sl.drawn heg (hdn q)) (Sl.drawn hew (hdn q))
          have KN := fun q => (now_any (hTc.drawn (hdn q)).bk).mono fun _ _ (h : _ ∧ _) => (⟨h.1, h.2.symm⟩ : _ ∧ _)
          have KS := fun q => stands_any (hTc.drawn (hdn q)).bk (hTc.drawn (hdn q)).rk (by omega)
          have y1 := hTc.rk.c1
          have hTd := Lib.hid (fun q => hTc.drawn (hdn q))
          have hOd := Lib.hid (fun q => hog.drawn (hdn q))
          have hce : (code != code) = false := bne_self_eq_false code
          have hne : (now' != now') = false := bne_self_eq_false now'
          clear hew heg how hog hTc hdn hT hpar x0 x1 hx1 h5 hdl
          go_upto_region 34 with fail
          go_big_quiet ((first | (go_at_call 33; exact quiet_drawn (KE _)) | (go_at_call 34; exact quiet_same (KN _)) | (go_at_call 35; exact quiet_drawn (KS _))))
          have hT1 := hTd.out nq
          have hO1 := hOd.out nq
          have hsz1 : Hid (wi.heap.size ≤ (wx.drewN nq).heap.size) := Lib.hid hsc
          clear KE KN KS y1 hTd hOd hce hne
          go_upto_region 37 with fail
          refine wp_world ?_
          intro wy hwy
          rw [← hwy] at hT1 hO1 hsz1
          clear hwy
          have he' : Hid ((evs.map erow).length = evs.length) := Lib.hid (List.length_map _)
          generalize hel' : evs.length = me at *
          replace hel' := Lib.hid hel'
          go_loopw [20] (fun s20 wr => ∃ (q : Nat) (rs : List (List Value)), q ≤ me ∧ s20 = .int .i64 q ∧ rs.length = me ∧ Own wr wi.heap.size 84 3 rs (.slice Ag me cg) ∧ Twb w wr M w2.heap.size M v v2 ds' now' ds' now' ∧ wi.heap.size ≤ wr.heap.size) (fun s20 _ => me - (intOf s20).toNat)
          case atStart => exact ⟨0, evs.map erow, by omega, rfl, he'.out, hO1, hT1, hsz1.out⟩
          case round =>
            clear hT1 hO1 hsz1
            obtain ⟨q, rs, hq, rfl, hrs, hO, hT, hsq⟩ := hrel
            obtain ⟨wz, rfl⟩ : ∃ x : World, x = wr := ⟨_, rfl⟩
            by_cases hqm : q = me
            · subst hqm
              go_upto_region 41 with fail
              go_loopw [21, 16] (fun s21 s16 wr => ∃ (q' : Nat) (rs : List (List Value)), q' ≤ 20 ∧ s21 = .int .i64 q' ∧ rs.length = q + q' ∧ Own wr wi.heap.size 84 3 rs s16 ∧ Twb w wr M w2.heap.size M v v2 ds' now' ds' now' ∧ wi.heap.size ≤ wr.heap.size) (fun s21 _ _ => 20 - (intOf s21).toNat)
              case atStart => exact ⟨0, rs, by omega, rfl, hrs, hO, hT, hsq⟩
              case round =>
                clear hO hT hrs hsq
                obtain ⟨p, rs, hp20, rfl, hrs, hO, hT, hsz⟩ := hrel
                obtain ⟨wq, rfl⟩ : ∃ x : World, x = wr := ⟨_, rfl⟩
                by_cases hpe : p = 20
                · subst hpe
                  clear hO hrs rs
                  go_wp2
                  go_roundw
                  case rel => exact ⟨j + 1, ds', now', by omega, by omega, by go_num, hT, hpc, hdc⟩
                  case measure => simp [intOf]; omega
                · have hplt : p < 20 := by omega
                  replace hrs := Lib.hid hrs
                  go_wp2_with (at_builtin; refine wpList_push el70 rfl _ _ rfl rfl (hO.alloc _) [.int .i64 0, .int .i64 (-2), .bool false] wq.heap.size 84 rfl (heap_alloc_at _ _) rfl (by simp [Value.oneCell']) (by rw [hrs.out]; omega) (by rw [size_al]; omega) ?_; intro v' w5 ho5 hb5 hs5 _ _)
                  go_roundw
                  case rel => exact ⟨p + 1, _, by omega, by go_num, by rw [List.length_append, hrs.out]; rfl, ho5, hT.above hN (((below_al (Below.refl _ _) _).mono hsz).trans hb5), by have := size_al wq (.cells #[.int .i64 0, .int .i64 (-2), .bool false] 84); omega⟩
                  case measure => simp [intOf]; omega
            · have hqlt : q < me := by omega
              obtain ⟨g, u0, u1, u2, rfl, p1, p2, p3, p4, p5, p6, p7, p8, p9⟩ := hO.row3 hrs hqlt
              go_wp2
              go_roundw
              case rel => exact ⟨q + 1, _, by omega, by go_num, by rw [List.length_set]; exact hrs, p9 _ _ _, hT.above hN ((((Below.refl _ _).setCell (p := ⟨g, q * 3, none⟩) p1 _).setCell (p := ⟨g, q * 3 + 1, none⟩) p1 _).setCell (p := ⟨g, q * 3 + 2, none⟩) p1 _), by simp only [size_set]; exact hsq⟩
              case measure => simp [intOf]; omega
      · have hlt : k < n := by omega
        obtain ⟨g1, u1, rfl, p1, p2, p3, p4, _, p6⟩ := hO1.row1 hr1 hlt
        obtain ⟨g2, u2, rfl, q1, q2, q3, q4, _, q6⟩ := hO2.row1 hr2 hlt
        have e1 := hxp g1 rfl
        have e2 := hxq g2 rfl
        have hw1 : w1.heap.size ≤ w2.heap.size := by omega
        clear hkn
        go_wp2
        go_roundw
        case rel => exact ⟨k + 1, r1.set k [.int .i64 (-1)], r2.set k [.int .i64 0], by omega, by go_num, by rw [List.length_set]; exact hr1, by rw [List.length_set]; exact hr2, (p6 _).keep fun g hg => Below.heap_setCell _ _ _ g (by have e : g1 = g := Option.some.inj hg; show g ≠ g2; omega), by
            have hO3 : Own (wi.setCell ⟨g1, k, none⟩ (.int .i64 (-1))) w1.heap.size 3 1 r2 (.slice (some ⟨g2, 0, none⟩) n cq) := hO2.keep fun g hg => Below.heap_setCell _ _ _ g (by have e : g2 = g := Option.some.inj hg; show g ≠ g1; omega)
            obtain ⟨g3, u3, e3, _, _, _, _, _, q7⟩ := hO3.row1 hr2 hlt
            cases e3
            exact q7 _, (hT.set (p := ⟨g1, k, none⟩) e1.1 (by show g1 < _; omega) _).set (p := ⟨g2, k, none⟩) (by show _ ≤ g2; omega) (by show g2 < _; omega) _⟩
        case measure => simp [intOf]; omega
  · have K1 := open_no ps qs Ap Aq cp cq w2 hpi2 hqi hok
    have K2 := fun W' (hb : Below w2.heap.size w2 W') => ropen_no ps qs A B a b W' (Ints.below hp2 hb) (Ints.below hq2 hb) hok
    clear hok hpl hql hp hq hq1 hp2 hq2 hpi hqi hpi2 hb1 hb2 hbx hby hxp hxq
    go_wp2_with (first
      | (go_at_call 25; (with_reducible refine (K1).mono ?_); rintro e w3 ⟨rfl, hb3⟩)
      | (go_at_call 26; (with_reducible refine (K2 _ hb3).mono ?_); rintro e w4 ⟨rfl, hb4⟩))
    go_ret
    exact ⟨rfl, (G2.trans (hb3.mono G2.size)).trans (hb4.mono (Nat.le_trans G2.size hb3.size))⟩
end Go.Proofs.Ytgnhddnhcfmipaa
