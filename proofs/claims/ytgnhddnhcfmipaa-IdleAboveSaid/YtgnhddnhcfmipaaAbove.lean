/- IdleAbove, walked. -/
import Derived.Test.YtgnhddnhcfmipaaSng
import Derived.Deep.CutBlock
namespace Go.Proofs.Ytgnhddnhcfmipaa
open Go.RowKit Go.BigFrame

set_option maxHeartbeats 16000000 in
set_option maxRecDepth 100000 in
theorem above_walk (ps qs : List Int) (l : List (Int × Int)) (A B C : Option Addr) (a b c : Nat) (w : World) (hp : Ints w A ps) (hq : Ints w B qs) (ht : Trs w C l) :
    Calls Try.prog 7 #[.slice A ps.length a, .slice B qs.length b, .slice C l.length c] w fun e w' => e = .returned (.bool true) ∧ Below w.heap.size w w' := by
  have htd := Lib.hid (fun (j : Nat) (hj : j < l.length) (W' : World) (hd : Below w.heap.size w W') => (ht.below hd).at_ hj)
  have hpd := Lib.hid (fun (j : Nat) (hj : j < ps.length) (W' : World) (hd : Below w.heap.size w W') => (Ints.below hp hd).at_ hj)
  have hle := ht.le
  clear ht
  obtain ⟨m, hll⟩ : ∃ m, m = l.length := ⟨_, rfl⟩
  rw [← hll] at hle ⊢
  replace hll := Lib.hid hll.symm
  have KA := awake_any w
  by_cases hok : openOk ps qs
  · have hn := hok.1
    have h5 := hok.2.1
    have K1 := fun W' (hb : Below w.heap.size w W') => open_yes ps qs A B a b W' (Ints.below hp hb) (Ints.below hq hb) hok
    have hinv := Inv.begin hok
    have hdl := devs_len ps qs ps.length
    have hrep := rep_brow ps qs ps.length
    generalize hD : devs ps qs ps.length = D at *
    rw [← hn] at K1 ⊢
    obtain ⟨n, hnp⟩ : ∃ n, n = ps.length := ⟨_, rfl⟩
    rw [← hnp] at K1 h5 hdl hrep ⊢
    replace hnp := Lib.hid hnp
    replace hrep := Lib.hid hrep
    clear hok hp hq hn hD
    go_enter Try.func7, Try.ntmps7
    go_upto_region 7 with (first
      | (go_at_call 36; (with_reducible refine (KA).mono ?_); rintro e w1 ⟨rfl, hb1⟩)
      | (go_at_call 25; (with_reducible refine (K1 _ hb1).mono ?_); rintro e w3 ⟨v, rfl, hB3, hb3⟩))
    clear KA K1
    have hb13 : Below w.heap.size w w3 := hb1.trans (hb3.mono hb1.size)
    have hS3 : Sg w w3 w3.heap.size w1.heap.size v D 0 := ⟨hB3, hB3.lt, fun g hg => (hB3.own.lt g hg).2, hb1.size, Nat.le_refl _, hb13⟩
    clear hB3 hb3 hb1 hb13
    go_upto_region 10 with (refine wpList_made1 (z := .bool false) Try.underlying54 ub4 rfl rfl _ _ rfl n rfl rfl (by omega) (by unfold maxLen; omega) ?_; intro w4 hO4 hb4)
    have hS4 := hS3.below hb4
    rw [hrep.out] at hO4
    clear hS3 hb4 hrep
    generalize w3.heap.size = M at *
    generalize w1.heap.size = bb at *
    go_loopw [12, 11] (fun s12 s11 wr => ∃ (j : Nat) (ds : List Dv) (now last : Int), j ≤ m ∧ j ≤ 200 ∧ s12 = .int .i64 j ∧ s11 = .int .i64 last ∧ last ≤ now ∧ Inv ps qs No No ds now ∧ ds.length = n ∧ Sg w wr M bb v ds now ∧ Own wr M 4 1 ((ds.map (·.a)).map brow) (.slice (some ⟨M, 0, none⟩) n n)) (fun s12 _ _ => m - (intOf s12).toNat)
    case atStart => exact ⟨0, D, 0, 0, by omega, by omega, rfl, rfl, Int.le_refl _, hinv, hdl, hS4, hO4⟩
    case round =>
      clear hinv hdl hS4 hO4
      obtain ⟨j, ds, now, last, hj, hj2, rfl, rfl, hln, hinv, hdl, hS, hO⟩ := hrel
      obtain ⟨wi, rfl⟩ : ∃ x : World, x = wr := ⟨_, rfl⟩
      by_cases hjm : j = m
      · subst hjm
        have e0 := hS.b
        clear hS hO htd hpd hinv
        go_wp2
        go_ret
        exact ⟨rfl, e0⟩
      by_cases hj200 : j = 200
      · subst hj200
        have e0 := hS.b
        clear hS hO htd hpd hinv
        go_wp2
        go_ret
        exact ⟨rfl, e0⟩
      have hjlt : j < m := by omega
      have hjl : j < l.length := by rw [hll.out]; exact hjlt
      have hj2' : (j : Int) < 200 := by omega
      obtain ⟨bl, ol, rfl, _, x0, x1⟩ := htd.out j hjl wi hS.b
      generalize l[j] = tn at *
      obtain ⟨kd, N⟩ := tn
      simp only at x0 x1
      have hMl : M < wi.heap.size := (hO.lt M rfl).2
      have hpar := hinv.par
      have h5' := hinv.len
      go_upto_block 2 with fail
      go_cut [13] from 48 to 83 (fun sg wc => ∃ (evs : List Ev) (ds' : List Dv) (now' : Int), evs.length ≤ 1000 ∧ Inv ps qs No No ds' now' ∧ ds'.length = n ∧ Sg w wc M bb v ds' now' ∧ Own wc M 4 1 ((ds.map (·.a)).map brow) (.slice (some ⟨M, 0, none⟩) n n) ∧ evOk evs (ds.map (·.a)) last ∧ evLast evs last ≤ now' ∧ evWas evs (ds.map (·.a)) = ds'.map (·.a) ∧ Own wc wi.heap.size 84 3 (evs.map erow) sg)
      case first =>
        clear htd hpd
        have nil1 : ∀ wq, Own wq wi.heap.size 84 3 (([] : List Ev).map erow) (.slice none 0 0) := fun wq => Own.nil _ _ _ _
        by_cases k1 : kd = 1
        · subst k1
          have K1 := sg_get hS hpar h5' N
          have e1 := Lib.hid (hinv.get N)
          have e2 := Lib.hid (getd_ev (now := now) hpar h5' N)
          have e3 := Lib.hid (getd_par (now := now) hpar N)
          replace hO := Lib.hid hO
          generalize getd ds now N = R at *
          clear hS nil1 hinv
          go_wp2_with (go_at_call 28; (with_reducible refine (K1).mono ?_); rintro e wb ⟨vb, rfl, hSb, hob, hkb⟩)
          go_meet
          case rel => exact ⟨R.2.1, R.1, now, e2.out, e1.out.1, e3.out.2.trans hdl, hSb, hkb.own hO.out (Nat.le_refl _), (e1.out.2.1 last hln).1, (e1.out.2.1 last hln).2, e1.out.2.2, hob⟩
        by_cases k2 : kd = 2
        · subst k2
          have K1 := sg_put hS N
          have e1 := Lib.hid (hinv.put N)
          have e3 := Lib.hid (putd_len ds now N)
          replace hO := Lib.hid hO
          generalize putd ds now N = R at *
          clear hS hinv k1
          go_wp2_with (go_at_call 30; (with_reducible refine (K1).mono ?_); rintro e wb ⟨rfl, hSb, hkb⟩)
          go_meet
          case rel => exact ⟨[], R.1, now, by simp, e1.out.1, e3.out.trans hdl, hSb, hkb.own hO.out (Nat.le_refl _), trivial, hln, e1.out.2.symm, nil1 _⟩
        by_cases k3 : kd = 3
        · subst k3
          have K1 := sg_tick hS hpar h5' N
          have e1 := Lib.hid (hinv.tick N)
          have e2 := Lib.hid (tickd_ev (now := now) h5' N)
          have e3 := Lib.hid (tickd_par (now := now) hpar N)
          replace hO := Lib.hid hO
          generalize tickd ds now N = R at *
          clear hS nil1 hinv k1 k2
          go_wp2_with (go_at_call 32; (with_reducible refine (K1).mono ?_); rintro e wb ⟨vb, rfl, hSb, hob, hkb⟩)
          go_meet
          case rel => exact ⟨R.2.2.1, R.1, R.2.1, e2.out, e1.out.1, e3.out.2.trans hdl, hSb, hkb.own hO.out (Nat.le_refl _), (e1.out.2.2.1 last hln).1, (e1.out.2.2.1 last hln).2, e1.out.2.2.2, hob⟩
        have z1 : (kd == 1) = false := beq_eq_false_iff_ne.2 k1
        have z2 : (kd == 2) = false := beq_eq_false_iff_ne.2 k2
        have z3 : (kd == 3) = false := beq_eq_false_iff_ne.2 k3
        clear k1 k2 k3
        go_wp2
        go_meet
        case rel => exact ⟨[], ds, now, by simp, hinv, hdl, hS, hO, trivial, hln, rfl, nil1 _⟩
      obtain ⟨evs, ds', now', hel, hinv', hdl', hS1, hO1, hev, hlast, hwas, hog⟩ := hcut
      obtain ⟨wx, rfl⟩ : ∃ x : World, x = wc := ⟨_, rfl⟩
      clear hinv hS hO x0 x1 hpar h5'
      have hlen0 : (ds.map (·.a)).length = n := by rw [List.length_map]; exact hdl
      generalize ds.map (·.a) = was0 at *
      obtain ⟨Ag, cg, rfl, _⟩ := own_evs hog
      obtain ⟨me, hme⟩ : ∃ me, me = evs.length := ⟨_, rfl⟩
      rw [← hme] at hog hel ⊢
      replace hme := Lib.hid hme.symm
      go_upto_region 21 with fail
      go_loopw [14, 11] (fun s14 s11 wr => ∃ (q : Nat) (was : List Bool) (la : Int), q ≤ me ∧ s14 = .int .i64 q ∧ s11 = .int .i64 la ∧ was.length = n ∧ evOk (evs.drop q) was la ∧ evLast (evs.drop q) la ≤ now' ∧ evWas (evs.drop q) was = ds'.map (·.a) ∧ Sg w wr M bb v ds' now' ∧ Own wr M 4 1 (was.map brow) (.slice (some ⟨M, 0, none⟩) n n) ∧ Own wr wi.heap.size 84 3 (evs.map erow) (.slice Ag me cg)) (fun s14 _ _ => me - (intOf s14).toNat)
      case atStart => exact ⟨0, was0, last, by omega, rfl, rfl, hlen0, hev, hlast, hwas, hS1, hO1, hog⟩
      case round =>
        clear hS1 hO1 hog hev hlast hwas hlen0
        obtain ⟨q, was, la, hq, rfl, rfl, hwl, hev, hlast, hwas, hS, hO, hE⟩ := hrel
        obtain ⟨wq, rfl⟩ : ∃ x : World, x = wr := ⟨_, rfl⟩
        by_cases hqm : q = me
        · subst hqm
          have hdr : evs.drop q = [] := List.drop_eq_nil_of_le (by rw [hme.out]; exact Nat.le_refl _)
          rw [hdr] at hlast hwas
          have hla : la ≤ now' := hlast
          have hwe : was = ds'.map (·.a) := hwas
          subst hwe
          clear hev hlast hwas hdr hE hwl
          have hSd := Lib.hid (fun W' (hd : Drawn wq W') => hS.drawn hd)
          have hOd := Lib.hid (fun W' (hd : Drawn wq W') => hO.drawn hd)
          replace hla := Lib.hid hla
          replace hinv' := Lib.hid hinv'
          replace hnp := Lib.hid (show n = ps.length from hnp.out)
          clear hS hO
          go_upto_region 29 with fail
          go_loopw [16] (fun s16 wr => ∃ k : Nat, k ≤ n ∧ s16 = .int .i64 k ∧ Drawn wq wr) (fun s16 _ => n - (intOf s16).toNat)
          case atStart => exact ⟨0, by omega, rfl, Drawn.refl _⟩
          case round =>
            obtain ⟨k, hk, rfl, hd⟩ := hrel
            obtain ⟨wz, rfl⟩ : ∃ x : World, x = wr := ⟨_, rfl⟩
            by_cases hkn : k = n
            · subst hkn
              have hSe := hSd.out _ hd
              have hOe := hOd.out _ hd
              clear hpd htd hSd hOd
              go_wp2
              go_roundw
              case rel => exact ⟨j + 1, ds', now', la, by omega, by omega, by go_num, rfl, hla.out, hinv'.out, hdl', hSe, hOe⟩
              case measure => simp [intOf]; omega
            · have hlt : k < n := by omega
              have hkl : k < ds'.length := by omega
              have hS := hSd.out _ hd
              have hO := hOd.out _ hd
              obtain ⟨bp, op, rfl, _, p0⟩ := hpd.out k (by rw [← hnp.out]; exact hlt) wz hS.b
              have hx : ds'[k]? = some ds'[k] := List.getElem?_eq_getElem hkl
              have hfx := (hinv'.out.fx k _ hx).1
              have e2 : ps.getD k 0 = ps[k]'(by rw [← hnp.out]; exact hlt) := getI _
              rw [e2] at hfx
              rw [← hfx] at p0
              obtain ⟨g, eg, _, _, b0, _, _⟩ := bools_at hO (by rw [List.length_map]; exact hdl') hlt
              cases eg
              have hmk : (ds'.map (·.a))[k]'(by rw [List.length_map]; exact hkl) = ds'[k].a := List.getElem_map _
              rw [hmk] at b0
              have K1 := fun m => (awakeb_any (hS.drawn ((Drawn.refl wz).drewN m)).bk (k : Int)).mono fun _ _ (h : _ ∧ _) => (⟨h.1, h.2.symm⟩ : _ ∧ _)
              have K2 := fun m => usesb_any (hS.drawn ((Drawn.refl wz).drewN m)).bk (k : Int)
              have ea : awakeAt ds' (k : Int) = ds'[k].a := by unfold awakeAt; rw [if_pos (inb_nat.2 hkl), getD_at hkl]
              have eu : usesAt ds' (k : Int) = ds'[k].uses := by unfold usesAt; rw [if_pos (inb_nat.2 hkl), getD_at hkl]
              rw [ea] at K1
              rw [eu] at K2
              have hab : Hid (0 < ds'[k].uses → ds'[k].a = true) := Lib.hid (hinv'.out.above hx)
              have hup : Hid (ds'[k].a = true → 0 ≤ ds'[k].p → ∃ pn : Nat, ds'[k].p = (pn : Int) ∧ pn < n ∧ wz.cell? ⟨M, pn, none⟩ = some (.bool true)) := Lib.hid (fun h1 h2 => by
                obtain ⟨y, hy, hya⟩ := hinv'.out.up k _ hx h1 h2
                have hyl := (List.getElem?_eq_some_iff.1 hy).1
                obtain ⟨g', eg', _, _, b1, _, _⟩ := bools_at hO (by rw [List.length_map]; exact hdl') (k := ds'[k].p.toNat) (by omega)
                cases eg'
                have e3 : (ds'.map (·.a))[ds'[k].p.toNat]'(by rw [List.length_map]; exact hyl) = true := by
                  rw [List.getElem_map]
                  rw [List.getElem?_eq_getElem hyl] at hy
                  rw [Option.some.inj hy]
                  exact hya
                rw [e3] at b1
                exact ⟨ds'[k].p.toNat, by omega, by omega, b1⟩)
              generalize ds'[k] = x at *
              clear hSd hOd hS hO hx hfx e2 hmk ea eu hkl hpd htd hinv' hkn
              cases hxa : x.a
              · rw [hxa] at b0 K1 hab
                have hu : ¬ 0 < x.uses := fun q => by cases hab.out q
                clear hab hup
                generalize x.uses = U at *
                go_upto_region 31 with fail
                go_big_quiet ((first | (go_at_call 37; exact quiet_same (K1 _)) | (go_at_call 38; exact quiet_drawn (K2 _))))
                go_wp2
                go_roundw
                case rel => exact ⟨k + 1, by omega, by go_num, hd.drewN _⟩
                case measure => simp [intOf]; omega
              · rw [hxa] at b0 K1
                by_cases hp0 : 0 ≤ x.p
                · obtain ⟨pn, hpn, hpl, b1⟩ := hup.out hxa hp0
                  rw [hpn] at p0
                  have hp1 : (pn : Int) < (n : Int) := by omega
                  clear hab hup hp0 hpn
                  generalize x.uses = U at *
                  by_cases hu : 0 < U
                  all_goals (
                    go_upto_region 31 with fail
                    go_big_quiet ((first | (go_at_call 37; exact quiet_same (K1 _)) | (go_at_call 38; exact quiet_drawn (K2 _))))
                    go_wp2
                    go_roundw
                    case rel => exact ⟨k + 1, by omega, by go_num, hd.drewN _⟩
                    case measure => simp [intOf]; omega)
                · clear hab hup
                  generalize x.uses = U at *
                  generalize x.p = P at *
                  by_cases hu : 0 < U
                  all_goals (
                    go_upto_region 31 with fail
                    go_big_quiet ((first | (go_at_call 37; exact quiet_same (K1 _)) | (go_at_call 38; exact quiet_drawn (K2 _))))
                    go_wp2
                    go_roundw
                    case rel => exact ⟨k + 1, by omega, by go_num, hd.drewN _⟩
                    case measure => simp [intOf]; omega)
        · have hqlt : q < me := by omega
          have hql : q < evs.length := by rw [hme.out]; exact hqlt
          obtain ⟨be, oe, rfl, _, x0, x1, x2⟩ := (own_evs' hE).at_ hql
          rw [List.drop_eq_getElem_cons hql] at hev hlast hwas
          generalize evs[q] = x at *
          obtain ⟨⟨d0, d1, d2, d3⟩, hev⟩ := hev
          have hlast' : evLast (evs.drop (q + 1)) x.t ≤ now' := hlast
          have hwas' : evWas (evs.drop (q + 1)) (was.set x.d.toNat x.a) = ds'.map (·.a) := hwas
          obtain ⟨dn, hdn⟩ : ∃ dn : Nat, x.d = (dn : Int) := ⟨x.d.toNat, by omega⟩
          have hdl2 : dn < n := by omega
          rw [hdn, Int.toNat_natCast] at hev hwas' d2
          rw [hdn] at x1
          have hk1 := Lib.hid (And.intro hev (And.intro hlast' hwas'))
          have hwl' : (was.set dn x.a).length = n := by rw [List.length_set]; exact hwl
          replace hwl' := Lib.hid hwl'
          replace hwl := Lib.hid hwl
          replace d2 := Lib.hid d2
          clear hev hlast hwas hlast' hwas' d0 d1 hdn hpd htd
          obtain ⟨xt, xd, xa⟩ := x
          simp only at x0 x1 x2 d3 hk1 hwl' d2
          go_upto_region 24 with (refine wpList_store_row rfl 84 _ _ rfl wq.heap.size #[.int .i64 xt, .int .i64 dn, .bool xa] rfl rfl 84 _ (heap_alloc_at _ _) (by kernel_rfl) (by kernel_rfl) (by kernel_rfl) ?_)
          rw [setRow_alloc _ _ _ _ _ rfl]
          simp only [Act.put]
          have hSA := hS.below (below_al (Below.refl wq.heap.size wq) (.cells #[.int .i64 xt, .int .i64 dn, .bool xa] 84))
          have hOA := hO.alloc (.cells #[.int .i64 xt, .int .i64 dn, .bool xa] 84)
          have hEA := hE.alloc (.cells #[.int .i64 xt, .int .i64 dn, .bool xa] 84)
          have hbx := heap_alloc_at wq (.cells #[.int .i64 xt, .int .i64 dn, .bool xa] 84)
          clear x0 x1 x2 hO hE hS
          generalize wq.alloc (.cells #[.int .i64 xt, .int .i64 dn, .bool xa] 84) = wA at *
          generalize wq.heap.size = NN at *
          obtain ⟨g, eg, _, _, b0, f0, hset⟩ := bools_at hOA hwl.out hdl2
          cases eg
          have hdn2 : dn < was.length := by rw [hwl.out]; exact hdl2
          have hne : (xa == was[dn]'hdn2) = false := beq_eq_false_iff_ne.2 (fun e => d2.out (by rw [List.getD_eq_getElem?_getD, List.getElem?_eq_getElem hdn2]; exact e.symm))
          generalize was[dn]'hdn2 = u at *
          have z0 := cell_of_row _ _ 0 _ 84 (0, 0) hbx
          have z1 := cell_of_row _ _ 1 _ 84 (0, 0) hbx
          have z2 := cell_of_row _ _ 2 _ 84 (0, 0) hbx
          have n1 : ¬ (dn : Int) < 0 := by omega
          have n2 : ¬ (n : Int) ≤ (dn : Int) := by omega
          have n3 : ¬ xt < la := by omega
          have n4 : (dn : Int) < (n : Int) := by omega
          have hOs := Lib.hid (hset xa)
          have hSs := Lib.hid (hSA.above (((Below.refl M wA).setCell (p := ⟨M, dn, none⟩) (Nat.le_refl _) (.bool xa))))
          have hEs : Own (wA.setCell ⟨M, dn, none⟩ (.bool xa)) wi.heap.size 84 3 (evs.map erow) (.slice (some ⟨be, oe, none⟩) me cg) := hEA.keep fun g' hg' => Below.heap_setCell wA _ _ g' (by have := (hEA.lt g' hg').1; show g' ≠ M; omega)
          replace hEs := Lib.hid hEs
          clear hset hbx d2 hSA hOA hEA d3 hdl2 hdn2
          go_big_quiet (fail)
          go_wp2
          go_roundw
          case rel => exact ⟨q + 1, was.set dn xa, xt, by omega, by go_num, rfl, hwl'.out, hk1.out.1, hk1.out.2.1, hk1.out.2.2, hSs.out.drawn ((Drawn.refl _).drewN nq), hOs.out.drawn ((Drawn.refl _).drewN nq), hEs.out.drawn ((Drawn.refl _).drewN nq)⟩
          case measure => simp [intOf]; omega
  · have K1 := fun W' (hb : Below w.heap.size w W') => open_no ps qs A B a b W' (Ints.below hp hb) (Ints.below hq hb) hok
    clear hok hp hq htd hpd
    go_enter Try.func7, Try.ntmps7
    go_wp2_with (first
      | (go_at_call 36; (with_reducible refine (KA).mono ?_); rintro e w1 ⟨rfl, hb1⟩)
      | (go_at_call 25; (with_reducible refine (K1 _ hb1).mono ?_); rintro e w3 ⟨rfl, hb3⟩))
    go_ret
    exact ⟨rfl, hb1.trans (hb3.mono hb1.size)⟩
end Go.Proofs.Ytgnhddnhcfmipaa
