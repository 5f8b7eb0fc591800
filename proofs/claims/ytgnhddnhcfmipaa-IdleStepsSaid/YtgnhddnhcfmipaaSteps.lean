/- IdleSteps, walked. -/
import Derived.Test.YtgnhddnhcfmipaaStp1
import Derived.Deep.CutBlock
namespace Go.Proofs.Ytgnhddnhcfmipaa
open Go.RowKit Go.BigFrame

theorem tmod_bd (z : Int) : -1000 < z.tmod 1000 ∧ z.tmod 1000 < 1000 := by
  rcases Int.le_total 0 z with h | h
  · rw [Int.tmod_eq_emod_of_nonneg h]; omega
  · obtain ⟨y, rfl⟩ : ∃ y, z = -y := ⟨-z, by omega⟩
    rw [Int.neg_tmod, Int.tmod_eq_emod_of_nonneg (by omega)]; omega
set_option maxHeartbeats 16000000 in
set_option maxRecDepth 100000 in
theorem steps_walk (ps qs : List Int) (l : List (Int × Int)) (st : List Int) (A B C E : Option Addr) (a b c e : Nat) (w : World) (hp : Ints w A ps) (hq : Ints w B qs) (ht : Trs w C l) (hs : Ints w E st) :
    Calls Try.prog 8 #[.slice A ps.length a, .slice B qs.length b, .slice C l.length c, .slice E st.length e] w fun e w' => e = .returned (.bool true) ∧ Below w.heap.size w w' := by
  have htd := Lib.hid (fun (j : Nat) (hj : j < l.length) (W' : World) (hd : Below w.heap.size w W') => (ht.below hd).at_ hj)
  have hqd := Lib.hid (fun (j : Nat) (hj : j < qs.length) (W' : World) (hd : Below w.heap.size w W') => (Ints.below hq hd).at_ hj)
  have hsd := Lib.hid (fun (j : Nat) (hj : j < st.length) (W' : World) (hd : Below w.heap.size w W') => (Ints.below hs hd).at_ hj)
  have hle := ht.le
  have hls := Ints.le hs
  clear ht hs
  obtain ⟨m, hll⟩ : ∃ m, m = l.length := ⟨_, rfl⟩
  obtain ⟨ms, hms⟩ : ∃ m, m = st.length := ⟨_, rfl⟩
  rw [← hll] at hle ⊢
  rw [← hms] at hls ⊢
  replace hll := Lib.hid hll.symm
  replace hms := Lib.hid hms.symm
  have KA := awake_any w
  by_cases hok : openOk ps qs
  · have hn := hok.1
    have h5 := hok.2.1
    have K1 := fun W' (hb : Below w.heap.size w W') => open_yes ps qs A B a b W' (Ints.below hp hb) (Ints.below hq hb) hok
    have hinv := Inv.begin hok
    have hsn := sn_devs ps qs ps.length
    have hdl := devs_len ps qs ps.length
    have hqb : Hid (∀ i, i < ps.length → 0 ≤ qs.getD i 0 ∧ qs.getD i 0 ≤ 2147483647) := Lib.hid (fun i hi => (hok.2.2 i hi).2.2)
    generalize hD : devs ps qs ps.length = D at *
    have hnq := Lib.hid hn
    rw [← hn] at K1 ⊢
    obtain ⟨n, hnp⟩ : ∃ n, n = ps.length := ⟨_, rfl⟩
    rw [← hnp] at K1 h5 hdl hqb hnq ⊢
    clear hok hp hq hn hD hnp
    have tok := Lib.hid trivial
    go_enter Try.func8, Try.ntmps8
    go_upto_block 0 with (first
      | (go_at_call 36; (with_reducible refine (KA).mono ?_); rintro e w1 ⟨rfl, hb1⟩)
      | (go_at_call 25; clear tok; (with_reducible refine (K1 _ hb1).mono ?_); rintro e w3 ⟨v, rfl, hB3, hb3⟩; have hb13 : Below w.heap.size w w3 := hb1.trans (hb3.mono hb1.size))
      | (go_at_call 25; (with_reducible refine (K1 _ hb13).mono ?_); rintro e w4 ⟨v2, rfl, hB4, hb4⟩))
    clear KA K1
    have hS1 : Sg w w3 w3.heap.size w1.heap.size v D 0 := ⟨hB3, hB3.lt, fun g hg => (hB3.own.lt g hg).2, hb1.size, Nat.le_refl _, hb13⟩
    have hS2 : Sg w w4 w4.heap.size w3.heap.size v2 D 0 := ⟨hB4, hB4.lt, fun g hg => (hB4.own.lt g hg).2, hb13.size, Nat.le_refl _, hb13.trans (hb4.mono hb13.size)⟩
    have hT : Bth w w4 w3.heap.size w1.heap.size v w4.heap.size w3.heap.size v2 D 0 D 0 := ⟨hS1.below hb4, hS2, Nat.le_refl _⟩
    clear hS1 hS2 hB3 hB4 hb13 hb1 hb3 hb4
    generalize w4.heap.size = M2 at *
    generalize w3.heap.size = b2 at *
    generalize w1.heap.size = b1 at *
    go_cut [13] from 52 to 98 (fun _ wc => ∃ ds : List Dv, Bth w wc b2 b1 v M2 b2 v2 ds 0 ds 0 ∧ Inv ps qs No No ds 0 ∧ SN ds 0 ∧ ds.length = n)
    case first =>
      go_upto_region 8 with fail
      go_loopw [13] (fun s13 wr => ∃ (j : Nat) (ds : List Dv), j ≤ m ∧ j ≤ 100 ∧ s13 = .int .i64 j ∧ Bth w wr b2 b1 v M2 b2 v2 ds 0 ds 0 ∧ Inv ps qs No No ds 0 ∧ SN ds 0 ∧ ds.length = n) (fun s13 _ => m - (intOf s13).toNat)
      case atStart => exact ⟨0, D, by omega, by omega, rfl, hT, hinv, hsn, hdl⟩
      case round =>
        clear hT hinv hsn hdl
        obtain ⟨j, ds, hj, hj1, rfl, hT, hinv, hsn, hdl⟩ := hrel
        obtain ⟨wi, rfl⟩ : ∃ x : World, x = wr := ⟨_, rfl⟩
        by_cases hend : j = m ∨ j = 100
        · clear htd hqd hsd
          rcases hend with rfl | rfl
          · go_wp2
            go_meet
            case rel => exact ⟨ds, hT, hinv, hsn, hdl⟩
          · have hor : (100 : Int) < (m : Int) ∨ ¬ (100 : Int) < (m : Int) := by omega
            rcases hor with q | q
            all_goals (
              go_wp2
              go_meet
              case rel => exact ⟨ds, hT, hinv, hsn, hdl⟩)
        · have hjm : j < m := by omega
          have hj100 : (j : Int) < 100 := by omega
          have hjl : j < l.length := by rw [hll.out]; exact hjm
          obtain ⟨bl, ol, rfl, _, x0, x1⟩ := htd.out j hjl wi hT.b
          have hx1 := Lib.hid (fun W' (hd : Below w.heap.size w W') => by
            obtain ⟨b', o', e, _, _, q⟩ := htd.out j hjl W' hd
            cases e
            exact q)
          generalize l[j] = tn at *
          obtain ⟨kd, N⟩ := tn
          simp only at x0 x1 hx1
          have hpar := hinv.par
          have h5' := hinv.len
          clear hend
          by_cases k1 : kd = 1
          · subst k1
            have K1 := bth_get1 hT hpar h5' N
            have K2 := fun wa hTa => bth_get2 (w := w) (W := wa) (M1 := b2) (b1 := b1) (v1 := v) (M2 := M2) (b2 := b2) (v2 := v2) (ds1 := (getd ds 0 N).1) (n1 := 0) (ds2 := ds) (n2 := 0) hTa hpar h5' N
            have e1 := Lib.hid (hinv.get N).1
            have e2 := Lib.hid (sn_get (Int.le_refl 0) hsn N)
            have e3 := Lib.hid (getd_par (now := 0) hpar N).2
            have tok := Lib.hid trivial
            generalize getd ds 0 N = R at *
            clear hT
            go_wp2_with (first
              | (go_at_call 28; clear tok; (with_reducible refine (K1).mono ?_); rintro e wa ⟨va, rfl, hTa⟩; have x1 := (hx1.out _ hTa.b))
              | (go_at_call 28; (with_reducible refine (K2 _ hTa).mono ?_); rintro e wb ⟨vb, rfl, hTb⟩))
            go_roundw
            case rel => exact ⟨j + 1, R.1, by omega, by omega, by go_num, hTb, e1.out, e2.out, e3.out.trans hdl⟩
            case measure => simp [intOf]; omega
          by_cases k2 : kd = 2
          · subst k2
            have K1 := bth_put1 hT N
            have K2 := fun wa hTa => bth_put2 (w := w) (W := wa) (M1 := b2) (b1 := b1) (v1 := v) (M2 := M2) (b2 := b2) (v2 := v2) (ds1 := (putd ds 0 N).1) (n1 := 0) (ds2 := ds) (n2 := 0) hTa N
            have e1 := Lib.hid (hinv.put N).1
            have e2 := Lib.hid (sn_put (Int.le_refl 0) hsn N)
            have e3 := Lib.hid (putd_len ds 0 N)
            have tok := Lib.hid trivial
            generalize putd ds 0 N = R at *
            clear hT k1
            go_wp2_with (first
              | (go_at_call 30; clear tok; (with_reducible refine (K1).mono ?_); rintro e wa ⟨rfl, hTa⟩; have x1 := (hx1.out _ hTa.b))
              | (go_at_call 30; (with_reducible refine (K2 _ hTa).mono ?_); rintro e wb ⟨rfl, hTb⟩))
            go_roundw
            case rel => exact ⟨j + 1, R.1, by omega, by omega, by go_num, hTb, e1.out, e2.out, e3.out.trans hdl⟩
            case measure => simp [intOf]; omega
          have z1 : (kd == 1) = false := beq_eq_false_iff_ne.2 k1
          have z2 : (kd == 2) = false := beq_eq_false_iff_ne.2 k2
          clear k1 k2 hx1
          go_wp2
          go_roundw
          case rel => exact ⟨j + 1, ds, by omega, by omega, by go_num, hT, hinv, hsn, hdl⟩
          case measure => simp [intOf]; omega
    obtain ⟨D2, hT, hinv, hsn, hdl⟩ := hcut
    obtain ⟨wi, rfl⟩ : ∃ x : World, x = wc := ⟨_, rfl⟩
    clear htd hll hle
    have hpar := hinv.par
    have h5' := hinv.len
    have ok0 : okTick 0 ∧ (0 : Int) ≤ 0 := by decide
    have K1 := bth_tick1 hT hpar h5' 0 ok0
    have e1 : Inv ps qs No No (tkk D2 0).1 0 := by
      have q := (hinv.tick 0).1
      rw [tickd_tkk ok0] at q
      exact q
    go_upto_block 3 with (go_at_call 32; (with_reducible refine (K1).mono ?_); rintro e wa ⟨va, rfl, hTa, hoa, _⟩)
    have hM := hT.hm
    replace hoa := hoa.mono hM.2
    clear hT K1 h5' ok0 hM
    go_cut [14, 15, 17, 18, 19] from 106 to 135 (fun s14 s15 _ _ _ wc => ∃ tm : Int, s14 = .int .i64 tm ∧ 0 ≤ tm ∧ tm ≤ 50000 ∧ Bth w wc b2 b1 v M2 b2 v2 (tkk D2 tm).1 tm D2 0 ∧ Inv ps qs No No (tkk D2 tm).1 tm ∧ Own wc M2 84 3 ((tkk D2 tm).2.map erow) s15)
    case first =>
      go_upto_region 22 with fail
      go_loopw [17, 14, 15] (fun s17 s14 s15 wr => ∃ (q : Nat) (tm : Int), q ≤ ms ∧ q ≤ 50 ∧ s17 = .int .i64 q ∧ s14 = .int .i64 tm ∧ 0 ≤ tm ∧ tm ≤ 1000 * q ∧ Bth w wr b2 b1 v M2 b2 v2 (tkk D2 tm).1 tm D2 0 ∧ Inv ps qs No No (tkk D2 tm).1 tm ∧ Own wr M2 84 3 ((tkk D2 tm).2.map erow) s15) (fun s17 _ _ _ => ms - (intOf s17).toNat)
      case atStart => exact ⟨0, 0, by omega, by omega, rfl, rfl, Int.le_refl _, by omega, hTa, e1, hoa⟩
      case round =>
        clear hTa e1 hoa
        obtain ⟨q, tm, hq, hq5, rfl, rfl, ht0, ht1, hT, hinv2, hO⟩ := hrel
        obtain ⟨wi, rfl⟩ : ∃ x : World, x = wr := ⟨_, rfl⟩
        by_cases hend : q = ms ∨ q = 50
        · clear hqd hsd
          rcases hend with rfl | rfl
          · go_wp2
            go_meet
            case rel => exact ⟨tm, rfl, ht0, by omega, hT, hinv2, hO⟩
          · have hor : (50 : Int) < (ms : Int) ∨ ¬ (50 : Int) < (ms : Int) := by omega
            rcases hor with q | q
            all_goals (
              go_wp2
              go_meet
              case rel => exact ⟨tm, rfl, ht0, by omega, hT, hinv2, hO⟩)
        · have hqm : q < ms := by omega
          have hq50 : (q : Int) < 50 := by omega
          have hql : q < st.length := by rw [hms.out]; exact hqm
          obtain ⟨bl, ol, rfl, _, x0⟩ := hsd.out q hql wi hT.b
          generalize st[q] = z at *
          clear hend hsd hqd
          have z1 := (tmod_bd z).1
          have z2 := (tmod_bd z).2
          go_upto_region 25 with fail
          obtain ⟨tn, htn⟩ : ∃ tn : Int, tn = tm + z.tmod 1000 % 1000 := ⟨_, rfl⟩
          rw [← htn]
          have hu : okTick tn ∧ tm ≤ tn := ⟨⟨by omega, by omega⟩, by omega⟩
          have htb : tn ≤ 1000 * (q + 1) := by omega
          have K1 := bth_tick1 hT (tkk_par hpar tm).1 (by rw [(tkk_par hpar tm).2]; omega) tn hu
          have e1 : Inv ps qs No No (tkk D2 tn).1 tn := by
            have q := (hinv2.tick tn).1
            rw [tickd_tkk hu] at q
            have e := tkk_split hu.2 _ D2 rfl hpar
            rw [e]
            exact q
          have hsp := Lib.hid (tkk_split hu.2 _ D2 rfl hpar)
          have l1 := Lib.hid (tkk_ev D2 tm)
          have l2 := Lib.hid (tkk_ev (tkk D2 tm).1 tn)
          have l3 := Lib.hid (tkk_par hpar tm).2
          have hMs := hT.hm.2
          have ht0' : 0 ≤ tn := hu.1.1
          replace htn := Lib.hid htn
          clear hu x0 z1 z2 hT hinv2
          go_upto_region 28 with (go_at_call 32; (with_reducible refine (K1).mono ?_); rintro e wa ⟨va, rfl, hTa, hoa, hka⟩)
          have hO2 := hka.own hO (Nat.le_refl _)
          obtain ⟨Ax, cx, rfl, hsl, hnil⟩ := own_app hoa
          have hll2 : Hid (((tkk (tkk D2 tm).1 tn).2.map erow).length = (tkk (tkk D2 tm).1 tn).2.length) := Lib.hid (List.length_map _)
          have hll1 : Hid (((tkk D2 tm).2.map erow).length = (tkk D2 tm).2.length) := Lib.hid (List.length_map _)
          have hMa := hTa.hm.2
          clear K1 hka hO hoa
          go_wp2_with (at_builtin; refine wpList_app_any el70 rfl _ _ rfl rfl hO2 Ax cx _ rfl rfl hnil hsl (one_evs _) (by rw [hll1.out, hll2.out]; have := l1.out; have := l2.out; have := l3.out; omega) hMa ?_; intro v' wb ho' hb' hs' _ _)
          go_roundw
          case rel => exact ⟨q + 1, tn, by omega, by omega, by go_num, rfl, ht0', htb, by rw [hsp.out]; exact hTa.above hb', e1, by rw [hsp.out]; simp only; rw [List.map_append]; exact ho'⟩
          case measure => simp [intOf]; omega
    obtain ⟨tm, rfl, ht0, ht5, hT, hinv2, hO⟩ := hcut
    obtain ⟨wi, rfl⟩ : ∃ x : World, x = wc := ⟨_, rfl⟩
    clear hTa e1 hoa hsd hms hls hinv
    have hu : okTick tm ∧ (0 : Int) ≤ tm := ⟨⟨ht0, by omega⟩, ht0⟩
    have K1 := bth_tick2 hT hpar (by omega) tm hu
    have hlR := (tkk_par hpar tm).2.trans hdl
    have hpR := (tkk_par hpar tm).1
    have hsR : SN (tkk D2 tm).1 tm := sn_tk ht0 _ _ (hsn.mono ht0)
    have hmx := tkk_ev D2 tm
    rw [hdl] at hmx
    generalize tkk D2 tm = R at *
    obtain ⟨As, cs, rfl, _⟩ := own_evs hO
    obtain ⟨me, hme⟩ : ∃ me, me = R.2.length := ⟨_, rfl⟩
    rw [← hme] at hO hmx ⊢
    replace hme := Lib.hid hme.symm
    clear hpar hdl hu hT hsn
    go_upto_block 5 with (go_at_call 32; (with_reducible refine (K1).mono ?_); rintro e wb ⟨vo, rfl, hT, ho1, hkb⟩; obtain ⟨Ao, co, rfl, _⟩ := own_evs ho1; rw [hme.out] at ho1 ⊢)
    have hO1 := hkb.own hO (Nat.le_refl _)
    clear hO K1 hkb
    go_cut [21] from 151 to 165 (fun _ wc => Drawn wb wc)
    case first =>
      have hd1 := Lib.hid (fun (k : Nat) (hk : k < R.2.length) (W' : World) (hd : Drawn wb W') => (own_evs' (hO1.drawn hd)).at_ hk)
      have hd2 := Lib.hid (fun (k : Nat) (hk : k < R.2.length) (W' : World) (hd : Drawn wb W') => (own_evs' (ho1.drawn hd)).at_ hk)
      clear hT hO1 ho1 hqd
      go_upto_region 33 with fail
      go_loopw [21] (fun s21 wr => ∃ q : Nat, q ≤ me ∧ s21 = .int .i64 q ∧ Drawn wb wr) (fun s21 _ => me - (intOf s21).toNat)
      case atStart => exact ⟨0, by omega, rfl, Drawn.refl _⟩
      case round =>
        obtain ⟨q, hq, rfl, hd⟩ := hrel
        obtain ⟨wz, rfl⟩ : ∃ x : World, x = wr := ⟨_, rfl⟩
        by_cases hqm : q = me
        · subst hqm
          clear hd1 hd2
          go_wp2
          go_meet
          case rel => exact hd
        · have hqlt : q < me := by omega
          obtain ⟨g1, o1, rfl, _, x0, x1, x2⟩ := hd1.out q (by rw [hme.out]; exact hqlt) wz hd
          obtain ⟨g2, o2, rfl, _, y0, y1, y2⟩ := hd2.out q (by rw [hme.out]; exact hqlt) wz hd
          have EE := fun W => eq_ev W (R.2[q]'(by rw [hme.out]; exact hqlt))
          generalize R.2[q]'(by rw [hme.out]; exact hqlt) = x at *
          clear hd1 hd2 hqm
          go_upto_region 35 with fail
          go_big_quiet (fail)
          go_wp2
          go_roundw
          case rel => exact ⟨q + 1, by omega, by go_num, hd.drewN _⟩
          case measure => simp [intOf]; omega
    have hT1 := hT.drawn hcut
    obtain ⟨wi, rfl⟩ : ∃ x : World, x = wc := ⟨_, rfl⟩
    clear hT hcut hO1 ho1 hme hmx
    have hqn := hqb.out
    go_upto_block 7 with fail
    go_cut [23, 24] from 166 to 193 (fun s23 _ wc => s23 = .int .i64 (sumTo (fun i => qs.getD i 0) n) ∧ Drawn wi wc)
    case first =>
      have hTd := Lib.hid (fun W' (hd : Drawn wi W') => hT1.drawn hd)
      have hsb := Lib.hid (fun k (hk : k ≤ n) => sumTo_bd (f := fun i => qs.getD i 0) (b := 2147483647) k (fun i hi => hqb.out i (by omega)))
      have hss := Lib.hid (fun k => show sumTo (fun i => qs.getD i 0) (k + 1) = sumTo (fun i => qs.getD i 0) k + qs.getD k 0 from rfl)
      clear hT1 hqn
      go_upto_region 40 with fail
      go_loopw [24, 23] (fun s24 s23 wr => ∃ k : Nat, k ≤ n ∧ s24 = .int .i64 k ∧ s23 = .int .i64 (sumTo (fun i => qs.getD i 0) k) ∧ Drawn wi wr) (fun s24 _ _ => n - (intOf s24).toNat)
      case atStart => exact ⟨0, by omega, rfl, rfl, Drawn.refl _⟩
      case round =>
        obtain ⟨k, hk, rfl, rfl, hd⟩ := hrel
        obtain ⟨wz, rfl⟩ : ∃ x : World, x = wr := ⟨_, rfl⟩
        by_cases hkn : k = n
        · subst hkn
          generalize sumTo (fun i => qs.getD i 0) k = S at *
          clear hTd hsb hss
          go_wp2
          go_meet
          case rel => exact ⟨rfl, hd⟩
        · have hlt : k < n := by omega
          have hkq : k < qs.length := by rw [← hnq.out]; exact hlt
          have hs1 := hsb.out k hk
          have hqk := hqb.out k hlt
          have hc := Lib.hid (fun W' (hd : Drawn wi W') => hqd.out k hkq W' (hTd.out _ hd).b)
          obtain ⟨bq, oq, rfl, _, _⟩ := hc.out wz hd
          have hc2 := Lib.hid (fun W' (hd : Drawn wi W') => by
            obtain ⟨b', o', e, _, q⟩ := hc.out W' hd
            cases e
            have e2 : qs.getD k 0 = qs[k] := getI hkq
            rw [← e2] at q
            exact q)
          have hsk := Lib.hid (hss.out k)
          generalize sumTo (fun i => qs.getD i 0) k = S at *
          generalize qs.getD k 0 = z at *
          have K1 := fun W' hd => usesb_any (hTd.out W' hd).s1.bk (k : Int)
          have K2 := fun W' hd => usesb_any (hTd.out W' hd).s2.bk (k : Int)
          have K3 := fun W' hd => awakeb_any (hTd.out W' hd).s1.bk (k : Int)
          have K4 := fun W' hd => awakeb_any (hTd.out W' hd).s2.bk (k : Int)
          generalize usesAt R.1 (k : Int) = U at *
          generalize awakeAt R.1 (k : Int) = V at *
          have hs2 : S ≤ 2147483647 * 512 := by have := hs1.2; omega
          have hs3 := hs1.1
          have hq1 := hqk.1
          have hq2 := hqk.2
          have hUU : (U != U) = false := bne_self_eq_false U
          have hVV : (V != V) = false := bne_self_eq_false V
          have tok1 := Lib.hid trivial
          have tok2 := Lib.hid trivial
          clear hsb hss hqb hs1 hqk hkn hc
          go_wp2_with (first
            | (go_at_call 38; clear tok1; (with_reducible refine (K1 _ hd).mono ?_); rintro e wa ⟨rfl, hd1⟩; replace hd1 := hd.trans hd1)
            | (go_at_call 38; (with_reducible refine (K2 _ hd1).mono ?_); rintro e wb ⟨rfl, hd2⟩; replace hd2 := hd1.trans hd2; have x0 := hc2.out _ hd2)
            | (go_at_call 37; clear tok2; (with_reducible refine (K3 _ hd2).mono ?_); rintro e wb2 ⟨rfl, rfl⟩)
            | (go_at_call 37; (with_reducible refine (K4 _ hd2).mono ?_); rintro e wb3 ⟨rfl, rfl⟩))
          go_roundw
          case rel => exact ⟨k + 1, by omega, by go_num, by rw [hsk.out], hd2⟩
          case measure => simp [intOf]; omega
    obtain ⟨rfl, hd⟩ := hcut
    have hT := hT1.drawn hd
    obtain ⟨wi, rfl⟩ : ∃ x : World, x = wc := ⟨_, rfl⟩
    clear hT1 hd
    generalize hS0 : sumTo (fun i => qs.getD i 0) n = S at *
    replace hS0 := Lib.hid hS0
    go_upto_block 9 with fail
    go_cut [22, 25, 26, 27] from 194 to 209 (fun s22 _ _ _ wc => ∃ (u : Int) (ds : List Dv), s22 = .int .i64 u ∧ Bth w wc b2 b1 v M2 b2 v2 ds tm R.1 tm ∧ Inv ps qs No No ds tm ∧ SN ds tm ∧ ds.length = n ∧ Idle ds)
    case first =>
      clear hqn
      go_upto_region 46 with fail
      go_loopw [25, 22] (fun s25 s22 wr => ∃ (k : Nat) (u : Int) (ds : List Dv), k ≤ n ∧ s25 = .int .i64 k ∧ s22 = .int .i64 u ∧ 0 ≤ u ∧ u ≤ 65535 * k ∧ Bth w wr b2 b1 v M2 b2 v2 ds tm R.1 tm ∧ Inv ps qs No No ds tm ∧ SN ds tm ∧ ds.length = n ∧ ∀ (i : Nat) (x : Dv), i < k → ds[i]? = some x → x.t = 0) (fun s25 _ _ => n - (intOf s25).toNat)
      case atStart => exact ⟨0, 0, R.1, by omega, rfl, rfl, Int.le_refl _, by omega, hT, hinv2, hsR, hlR, fun i x h => by omega⟩
      case round =>
        clear hT hinv2 hsR hpR hqd
        obtain ⟨k, u, ds, hk, rfl, rfl, hu0, hu1, hT, hinv, hsn, hdl, hid⟩ := hrel
        obtain ⟨wz, rfl⟩ : ∃ x : World, x = wr := ⟨_, rfl⟩
        by_cases hkn : k = n
        · subst hkn
          clear hqb
          have hid2 : Idle ds := fun i x hx => hid i x (by rw [← hdl]; exact (List.getElem?_eq_some_iff.1 hx).1) hx
          go_wp2
          go_meet
          case rel => exact ⟨u, ds, rfl, hT, hinv, hsn, hdl, hid2⟩
        · have hlt : k < n := by omega
          obtain ⟨g, mm, c', hv⟩ : ∃ g mm c', v = .slice (some ⟨g, 0, none⟩) mm c' := by
            obtain ⟨g, c', hv, _⟩ := hT.s1.bk.dev (i := k) (by omega)
            exact ⟨g, _, c', hv⟩
          replace hv := Lib.hid hv
          go_upto_block 10 with fail
          go_cut [22, 26, 27] from 200 to 209 (fun s22 _ _ wc => ∃ (u' : Int) (ds' : List Dv), s22 = .int .i64 u' ∧ 0 ≤ u' ∧ u' ≤ 65535 * (k + 1) ∧ Bth w wc b2 b1 v M2 b2 v2 ds' tm R.1 tm ∧ Inv ps qs No No ds' tm ∧ SN ds' tm ∧ ds'.length = n ∧ ∀ (i : Nat) (x : Dv), i < k + 1 → ds'[i]? = some x → x.t = 0)
          case first =>
            have hlK := Lib.hid (show k < ds.length by omega)
            go_upto_region 48 with fail
            go_loopw [22] (fun s22 wr => ∃ (u' : Int) (ds' : List Dv) (x : Dv), s22 = .int .i64 u' ∧ 0 ≤ u' ∧ ds'[k]? = some x ∧ 0 ≤ x.t ∧ u' + x.t ≤ 65535 * (k + 1) ∧ Bth w wr b2 b1 v M2 b2 v2 ds' tm R.1 tm ∧ Inv ps qs No No ds' tm ∧ SN ds' tm ∧ ds'.length = n ∧ ∀ (i : Nat) (x : Dv), i < k → ds'[i]? = some x → x.t = 0) (fun _ wr => tkOf g k wr)
            case atStart =>
              have hx := List.getElem?_eq_getElem hlK.out
              have hbx := (hinv.bd k _ hx).1
              exact ⟨u, ds, _, rfl, hu0, hx, hbx.1, by omega, hT, hinv, hsn, hdl, hid⟩
            case round =>
              clear hT hinv hsn hdl hid hlK hu0 hu1
              obtain ⟨u', ds', x, rfl, hu0, hx, hxt, hub, hT, hinv, hsn, hdl, hid⟩ := hrel
              obtain ⟨wq, rfl⟩ : ∃ x : World, x = wr := ⟨_, rfl⟩
              have K1 := bth_put1 hT (k : Int)
              have hmeas : Hid (tkOf g k wq = x.t.toNat) := Lib.hid (by
                have q := hT.s1.bk
                rw [hv.out] at q
                exact tkOf_eq q hx)
              have e1 := Lib.hid (hinv.put (k : Int)).1
              have e2 := Lib.hid (sn_put ht0 hsn (k : Int))
              have e3 := Lib.hid (putd_len ds' tm (k : Int))
              rcases putd_t hinv hx with ⟨h0, hp⟩ | ⟨hpos, y, hp, hyt⟩
              · rw [hp] at K1 e1 e2 e3
                clear hT hqb hmeas
                go_wp2_with (go_at_call 30; (with_reducible refine (K1).mono ?_); rintro e wa ⟨rfl, hTa⟩)
                go_meet
                case rel => exact ⟨u', ds', rfl, hu0, by omega, hTa, e1.out, e2.out, hdl, fun i z hi hz => by
                  by_cases e : i = k
                  · subst e; rw [hx] at hz; cases hz; exact h0
                  · exact hid i z (by omega) hz⟩
              · rw [hp] at K1 e1 e2 e3
                have hb1 : u' + 1 ≤ 65535 * (k + 1) := by omega
                have hxk := (List.getElem?_eq_some_iff.1 hx).1
                clear hT hqb
                replace hmeas := hmeas
                go_wp2_with (go_at_call 30; (with_reducible refine (K1).mono ?_); rintro e wa ⟨rfl, hTa⟩)
                go_roundw
                case rel => exact ⟨u' + 1, ds'.set k y, y, by go_num, by omega, List.getElem?_set_self hxk, by omega, by omega, hTa, e1.out, e2.out, e3.out.trans hdl, fun i z hi hz => by
                  rw [List.getElem?_set_ne (by omega)] at hz
                  exact hid i z hi hz⟩
                case measure =>
                  have q := hTa.s1.bk
                  rw [hv.out] at q
                  rw [tkOf_eq q (List.getElem?_set_self hxk), hmeas.out]
                  omega
          obtain ⟨u', ds', rfl, hu0', hu1', hT', hinv', hsn', hdl', hid'⟩ := hcut
          clear hT hinv hsn hdl hid hv
          go_wp2
          go_roundw
          case rel => exact ⟨k + 1, u', ds', by omega, by go_num, rfl, hu0', by omega, hT', hinv', hsn', hdl', hid'⟩
          case measure => simp [intOf]; omega
    obtain ⟨u, ds, rfl, hT, hinv, hsn, hdl, hidle⟩ := hcut
    obtain ⟨wi, rfl⟩ : ∃ x : World, x = wc := ⟨_, rfl⟩
    clear hinv2 hsR hpR hlR
    have hsum := sumTo_bd (f := fun i => qs.getD i 0) (b := 2147483647) n hqb.out
    rw [hS0.out] at hsum
    by_cases hbig : 1073741824 < S
    · have e0 := hT.b
      clear hT hsum hqn hqd
      go_wp2
      go_ret
      exact ⟨rfl, e0⟩
    by_cases hbig2 : 1000 < u
    · have e0 := hT.b
      clear hT hsum hqn hqd
      go_wp2
      go_ret
      exact ⟨rfl, e0⟩
    have hS1 := hsum.1
    have hu : okTick (tm + S) ∧ tm ≤ tm + S := ⟨⟨by omega, by omega⟩, by omega⟩
    have K1 := bth_tick1 hT hinv.par (by omega) (tm + S) hu
    have hsl := all_sleep hu.1 (awk ds + 1) ds tm (Nat.lt_succ_self _) hinv hu.2 (hsn.soon hinv) hidle (by rw [hdl, hS0.out]; exact Int.le_refl _)
    have hl2 := (tkk_par hinv.par (tm + S)).2.trans hdl
    have hsl2 : ∀ (i : Nat) (x : Dv), (tkk ds (tm + S)).1[i]? = some x → x.a = false := hsl
    replace hsl2 := Lib.hid hsl2
    generalize tkk ds (tm + S) = Q at *
    have hsb : tm + S ≤ 2147483647 := by omega
    clear hT hsum hqn hqd hsl hu hinv hsn hidle hqb
    go_upto_region 55 with (go_at_call 32; (with_reducible refine (K1).mono ?_); rintro e wb ⟨vo, rfl, hT, _, _⟩)
    go_loopw [28] (fun s28 wr => ∃ k : Nat, k ≤ n ∧ s28 = .int .i64 k ∧ wr = wb) (fun s28 _ => n - (intOf s28).toNat)
    case atStart => exact ⟨0, by omega, rfl, rfl⟩
    case round =>
      clear K1
      obtain ⟨k, hk, rfl, rfl⟩ := hrel
      by_cases hkn : k = n
      · subst hkn
        have e0 := hT.b
        clear hT
        go_wp2
        go_ret
        exact ⟨rfl, e0⟩
      · have hlt : k < n := by omega
        have K := awakeb_any hT.s1.bk (k : Int)
        have ea : awakeAt Q.1 (k : Int) = false := by
          have hkl : k < Q.1.length := by rw [hl2]; exact hlt
          unfold awakeAt
          rw [if_pos (inb_nat.2 hkl), getD_at hkl]
          exact hsl2.out k _ (List.getElem?_eq_getElem hkl)
        rw [ea] at K
        replace hT := Lib.hid hT
        clear ea hkn
        go_wp2_with (go_at_call 37; (with_reducible refine (K).mono ?_); rintro e wq ⟨rfl, rfl⟩)
        go_roundw
        case rel => exact ⟨k + 1, by omega, by go_num, by first | trivial | rfl⟩
        case measure => simp [intOf]; omega
  · have K1 := fun W' (hb : Below w.heap.size w W') => open_no ps qs A B a b W' (Ints.below hp hb) (Ints.below hq hb) hok
    clear hok hp hq htd hqd hsd
    have tok := Lib.hid trivial
    go_enter Try.func8, Try.ntmps8
    go_wp2_with (first
      | (go_at_call 36; (with_reducible refine (KA).mono ?_); rintro e w1 ⟨rfl, hb1⟩)
      | (go_at_call 25; clear tok; (with_reducible refine (K1 _ hb1).mono ?_); rintro e w3 ⟨rfl, hb3⟩; have hb13 : Below w.heap.size w w3 := hb1.trans (hb3.mono hb1.size))
      | (go_at_call 25; (with_reducible refine (K1 _ hb13).mono ?_); rintro e w4 ⟨rfl, hb4⟩))
    go_ret
    exact ⟨rfl, hb13.trans (hb4.mono hb13.size)⟩
end Go.Proofs.Ytgnhddnhcfmipaa
