/- Idle: Tick of a book, walked. -/
import Derived.Test.YtgnhddnhcfmipaaTick
namespace Go.Proofs.Ytgnhddnhcfmipaa
open Go.RowKit Go.BigFrame

def okTick (n : Int) : Prop := 0 ≤ n ∧ n ≤ 2147483647
instance (n : Int) : Decidable (okTick n) := by unfold okTick; infer_instance
theorem isTick_yes {n : Int} (h : okTick n) : isTick n = true := by unfold okTick at h; unfold isTick; simp; omega
theorem isTick_no {n : Int} (h : ¬ okTick n) : isTick n = false := by unfold okTick at h; unfold isTick; simp; omega
def tickd (ds : List Dv) (now : Int) (up : Int) : List Dv × Int × List Ev × Int :=
  if okTick up ∧ now ≤ up then ((tk (awk ds + 1) ds up).1, up, (tk (awk ds + 1) ds up).2, 0) else (ds, now, [], 1)
theorem tick_out {W : World} {B bb : Nat} {v : Value} {ds : List Dv} {now : Int} (h : Bp W B bb v ds now) (up : Int) (hu : ¬ (okTick up ∧ now ≤ up)) :
    Calls Try.prog 32 #[.pointer (some ⟨bb, 0, none⟩), .int .i64 up] W fun e w' => e = .returned (.tuple #[.slice none 0 0, .int .i64 1]) ∧ w' = W := by
  have c1 := h.c1
  have KT := tick_any up
  by_cases ht : okTick up
  · have h2 : ¬ now ≤ up := fun q => hu ⟨ht, q⟩
    have h3 : up < now := by omega
    have hd := isTick_yes ht
    rw [hd] at KT
    clear h ht hu h2 hd
    go_enter Try.func32, Try.ntmps32
    go_wp2_with (go_at_call 41; (with_reducible refine (KT _).mono ?_); rintro e w1 ⟨rfl, rfl⟩)
    go_ret2
    exact ⟨rfl, rfl⟩
  · have hd := isTick_no ht
    rw [hd] at KT
    clear h ht hu hd
    go_enter Try.func32, Try.ntmps32
    go_wp2_with (go_at_call 41; (with_reducible refine (KT _).mono ?_); rintro e w1 ⟨rfl, rfl⟩)
    go_ret2
    exact ⟨rfl, rfl⟩
set_option maxHeartbeats 8000000 in
set_option maxRecDepth 100000 in
theorem tick_in {W : World} {B bb g c : Nat} {ds : List Dv} {now : Int} (h : Bp W B bb (.slice (some ⟨g, 0, none⟩) ds.length c) ds now) (hp : Par ds) (hl : ds.length ≤ 512) (up : Int) (hu : okTick up ∧ now ≤ up) :
    Calls Try.prog 32 #[.pointer (some ⟨bb, 0, none⟩), .int .i64 up] W fun e w' => ∃ vo, e = .returned (.tuple #[vo, .int .i64 0]) ∧ Bp w' B bb (.slice (some ⟨g, 0, none⟩) ds.length c) (tk (awk ds + 1) ds up).1 up ∧ Own w' W.heap.size 84 3 ((tk (awk ds + 1) ds up).2.map erow) vo ∧
      Fr W.heap.size (fun b => b = g ∨ b = bb) W w' := by
  have c1 := h.c1
  have KT := tick_any up
  have hd := isTick_yes hu.1
  rw [hd] at KT
  have hnu : ¬ up < now := by omega
  have hgb : g ≠ bb := fun e => h.ne (by rw [e]; rfl)
  have hgl : g < W.heap.size := (h.own.lt g rfl).2
  have hbl := h.lt
  generalize hR : tk (awk ds + 1) ds up = R
  have hR' := Lib.hid hR
  generalize hn : ds.length = n at *
  have hn' := Lib.hid hn
  clear hd hR hn
  go_enter Try.func32, Try.ntmps32
  go_upto_region 6 with (go_at_call 41; (with_reducible refine (KT _).mono ?_); rintro e w1 ⟨rfl, rfl⟩)
  clear KT
  have hF0 : Fr W.heap.size (fun b => b = g ∨ b = bb) W W := Fr.refl _ _ _
  have ho0 : Own W W.heap.size 84 3 (([] : List Ev).map erow) (.slice none 0 0) := Own.nil _ _ _ _
  have hds0 : ∃ (f : Nat) (ds' : List Dv) (nw : Int) (ev : List Ev), Bp W B bb (.slice (some ⟨g, 0, none⟩) n c) ds' nw ∧ ds'.length = n ∧ Par ds' ∧ awk ds' < f ∧ ev.length + f ≤ 600 ∧ R = ((tk f ds' up).1, ev ++ (tk f ds' up).2) ∧ Own W W.heap.size 84 3 (ev.map erow) (.slice none 0 0) :=
    ⟨awk ds + 1, ds, now, [], h, hn'.out, hp, Nat.lt_succ_self _, by have := awk_le ds; rw [hn'.out] at this; simp; omega, by rw [hR'.out, List.nil_append], ho0⟩
  clear h hp hn' hR' ho0 c1
  go_loopw [6] (fun s6 wr => ∃ (f : Nat) (ds' : List Dv) (nw : Int) (ev : List Ev), Bp wr B bb (.slice (some ⟨g, 0, none⟩) n c) ds' nw ∧ ds'.length = n ∧ Par ds' ∧ awk ds' < f ∧ ev.length + f ≤ 600 ∧ R = ((tk f ds' up).1, ev ++ (tk f ds' up).2) ∧ Own wr W.heap.size 84 3 (ev.map erow) s6 ∧ Fr W.heap.size (fun b => b = g ∨ b = bb) W wr) (fun _ wr => lft g n wr)
  case atStart =>
    obtain ⟨f, ds', nw, ev, h1, h2, h3, h4, h5, h6, h7⟩ := hds0
    exact ⟨f, ds', nw, ev, h1, h2, h3, h4, h5, h6, h7, hF0⟩
  case round =>
    clear hds0 hF0
    obtain ⟨f, ds', nw, ev, hB, hlen, hp, hf, hE, hRk, ho, hF⟩ := hrel
    obtain ⟨wo, rfl⟩ : ∃ x : World, x = wr := ⟨_, rfl⟩
    obtain ⟨f, rfl⟩ : ∃ f', f = f' + 1 := ⟨f - 1, by omega⟩
    unfold tk at hRk
    simp only at hRk
    rw [hlen] at hRk
    have hsa := scn_at ds' n 0 (-1) up
    generalize hS : scn ds' n 0 (-1) up = S at *
    obtain ⟨sa, sd⟩ := S
    have hS' := Lib.hid hS
    replace hRk := Lib.hid hRk
    replace hsa := Lib.hid hsa
    have y0 := hB.c0
    clear hS
    have hcellD := Lib.hid (fun (k : Nat) (hk : k < n) (W' : World) (hd : Drawn wo W') => ((hB.drawn hd).dv (List.getElem?_eq_getElem (l := ds') (i := k) (by omega))))
    have hcell0 := Lib.hid (fun (W' : World) (hd : Drawn wo W') => (hB.drawn hd).c0)
    clear y0
    have y0 := hB.c0
    go_upto_region 8 with fail
    go_loopw [34, 7, 8] (fun s34 s7 s8 wr => ∃ (k : Nat) (a due : Int), k ≤ n ∧ s34 = .int .i64 k ∧ s7 = .int .i64 a ∧ s8 = .int .i64 due ∧ scn ds' (n - k) k a due = (sa, sd) ∧ Drawn wo wr) (fun s34 _ _ _ => n - (intOf s34).toNat)
    case atStart => exact ⟨0, -1, up, by omega, rfl, rfl, rfl, hS'.out, Drawn.refl _⟩
    case round =>
      clear y0
      obtain ⟨k, a, due, hk, rfl, rfl, rfl, hsc, hd⟩ := hrel
      obtain ⟨wi, rfl⟩ : ∃ x : World, x = wr := ⟨_, rfl⟩
      have y0 := hcell0.out _ hd
      by_cases hkn : k = n
      · subst hkn
        rw [Nat.sub_self] at hsc
        obtain ⟨rfl, rfl⟩ : a = sa ∧ due = sd := Prod.mk.inj hsc
        clear hsc hcellD hcell0
        have hBi := hB.drawn hd
        have hoi := ho.drawn hd
        have hFi := hF.drawn hd
        have hlw : Hid (lft g k wo = awk ds') := Lib.hid (by rw [← hlen]; exact lft_eq hB)
        have y1 := hBi.c1
        have z1 : wi.frozen? ⟨bb, 1, none⟩ = false := frozen_row hBi.hb 1
        rcases hsa.out with ha | ⟨j, _, hj, ha, hja⟩
        · have ha' : a = -1 := ha
          subst ha'
          have hRe : R = (ds', ev) := by
            have := hRk.out
            simp only [if_pos (show (-1 : Int) < 0 by decide), List.append_nil] at this
            exact this
          subst hRe
          clear hRk hsa ha hS'
          go_wp2
          go_ret2
          exact ⟨u6, rfl, hBi.now up, hoi.keep fun q hq => Below.heap_setCell wi _ _ q (fun e => by have e' : q = bb := e; have := (hoi.lt q hq).1; omega), hFi.set (p := ⟨bb, 1, none⟩) (fun _ => Or.inr rfl) _⟩
        · have ha' : a = (j : Int) := ha
          subst ha'
          have hjn : j < k := by omega
          have hjl : j < ds'.length := by omega
          have hx : ds'[j]? = some ds'[j] := List.getElem?_eq_getElem hjl
          rw [getD_of hx] at hja
          have hRe : Hid (R = ((tk f (fall ds' j due) up).1, (ev ++ [⟨due, j, false⟩]) ++ (tk f (fall ds' j due) up).2)) := Lib.hid (by
            have := hRk.out
            simp only [if_neg (show ¬ (j : Int) < 0 by omega), Int.toNat_natCast] at this
            rw [this, List.append_assoc]
            rfl)
          have hfp := hp j _ hx
          have hfa := fall_awk hx hja hp due
          have hfq := fall_par hx hp due
          have hfl := fall_len ds' j due
          obtain ⟨e0, e1, e2, e3, e4, e5, ef⟩ := hBi.dv hx
          have f4 := ef 4 (by decide)
          rw [hja] at e4
          have hfd : Hid (fall ds' j due = if 0 ≤ ds'[j].p then (ds'.set j { ds'[j] with a := false }).set ds'[j].p.toNat (if ({ (ds'.set j { ds'[j] with a := false }).getD ds'[j].p.toNat zd with k := wrap64 (((ds'.set j { ds'[j] with a := false }).getD ds'[j].p.toNat zd).k - 1) } : Dv).uses = 0 then ({ (ds'.set j { ds'[j] with a := false }).getD ds'[j].p.toNat zd with k := wrap64 (((ds'.set j { ds'[j] with a := false }).getD ds'[j].p.toNat zd).k - 1), s := due } : Dv) else { (ds'.set j { ds'[j] with a := false }).getD ds'[j].p.toNat zd with k := wrap64 (((ds'.set j { ds'[j] with a := false }).getD ds'[j].p.toNat zd).k - 1) }) else ds'.set j { ds'[j] with a := false }) := Lib.hid (by
            unfold fall
            simp only
            rw [getD_of hx])
          have hB1 := (hBi.now due).set' hx 4 (by decide) (.bool false) { ds'[j] with a := false } rfl
          generalize ds'[j] = x at *
          generalize fall ds' j due = dsF at *
          have hx1 : (ds'.set j { x with a := false })[j]? = some { x with a := false } := List.getElem?_set_self hjl
          have hAl : (ds'.set j { x with a := false }).length = ds'.length := List.length_set
          generalize ds'.set j { x with a := false } = dsA at *
          have hF1 := (hFi.set (p := ⟨bb, 1, none⟩) (fun _ => Or.inr rfl) (.int .i64 due)).set (p := ⟨g, j * 6 + 4, none⟩) (fun _ => Or.inl rfl) (.bool false)
          have ho1 : Own ((wi.setCell ⟨bb, 1, none⟩ (.int .i64 due)).setCell ⟨g, j * 6 + 4, none⟩ (.bool false)) W.heap.size 84 3 (ev.map erow) u6 := (hoi.keep fun q hq => Below.heap_setCell wi _ _ q (fun e => by have e' : q = bb := e; have := (hoi.lt q hq).1; omega)).keep fun q hq => Below.heap_setCell _ _ _ q (fun e => by have e' : q = g := e; have := (hoi.lt q hq).1; omega)
          have y0 := hBi.c0
          have hjk : ¬ (j : Int) < 0 := by omega
          clear hRk hsa ha hS' hja ef
          go_upto_region 19 with fail
          refine wp_world ?_
          intro wX hX
          rw [← hX] at hB1 hF1 ho1
          clear hX e0 e1 e2 e3 e4 e5 f4 y0 y1 z1 hoi hBi hFi hd
          have hXs : W.heap.size ≤ wX.heap.size := hF1.size
          have hle : Hid ((ev.map erow).length = ev.length) := Lib.hid (List.length_map _)
          go_upto_region 20 with (at_builtin; refine wpList_push el70 rfl _ _ rfl rfl (ho1.alloc _) (erow ⟨due, j, false⟩) wX.heap.size 84 rfl (heap_alloc_at _ _) rfl (by simp [erow, Value.oneCell']) (by rw [hle.out]; omega) (by rw [size_al]; omega) ?_; intro v' w3 ho3 hb3 hs3 hn3 hg3)
          have hF2 : Fr W.heap.size (fun b => b = g ∨ b = bb) W w3 := hF1.trans (Fr.of (((below_al (Below.refl _ _) _).mono hXs).trans hb3))
          have hB2 : Bp w3 B bb (.slice (some ⟨g, 0, none⟩) k c) dsA due := hB1.keep ((hb3.block _ hbl).trans (Below.heap_alloc _ _ _ (by omega))) (fun q hq => by
            have e : q = g := (Option.some.inj hq).symm
            subst e
            exact (hb3.block _ hgl).trans (Below.heap_alloc _ _ _ (by omega)))
          clear hg3 hn3 hs3 hb3 ho1 hB1 hF1
          have ho4 : Own w3 W.heap.size 84 3 ((ev ++ [(⟨due, (j : Int), false⟩ : Ev)]).map erow) v' := by rw [List.map_append]; exact ho3
          clear ho3
          obtain ⟨e0, _, _, _, _, _, _⟩ := hB2.dv hx1
          have e0' : w3.cell? ⟨g, j * 6, none⟩ = some (.int .i64 x.p) := e0
          clear e0
          have hEE : (ev ++ [(⟨due, j, false⟩ : Ev)]).length + f ≤ 600 := by rw [List.length_append]; simp; omega
          by_cases h0 : 0 ≤ x.p
          · have hfd' := hfd.out
            rw [if_pos h0] at hfd'
            obtain ⟨pn, hpn⟩ : ∃ pn : Nat, x.p = (pn : Int) := ⟨x.p.toNat, by omega⟩
            have hpt : x.p.toNat = pn := by omega
            rw [hpt] at hfd'
            have hpj : pn < j := by omega
            have hpl : pn < dsA.length := by omega
            have hy : dsA[pn]? = some dsA[pn] := List.getElem?_eq_getElem hpl
            rw [getD_of hy] at hfd'
            generalize dsA[pn] = y at *
            rw [hpn] at e0'
            have hpk : pn < k := by omega
            have y0 := hB2.c0
            obtain ⟨_, _, _, q3, _, _, qf⟩ := hB2.dv hy
            have qf3 := qf 3 (by decide)
            have hfd2 := Lib.hid hfd'
            clear qf hfd hfd' hpn hpt h0 hfp
            go_upto_region 21 with fail
            go_quiet (fail)
            go_upto_region 23 with fail
            refine wp_world ?_
            intro w4 hX
            have hB3 : Bp w4 B bb (.slice (some ⟨g, 0, none⟩) k c) (dsA.set pn { y with k := wrap64 (y.k - 1) }) due := by
              rw [hX]
              first
                | exact (hB2.drawn ((Drawn.refl w3).drewN _)).set' hy 3 (by decide) (.int .i64 (wrap64 (y.k - 1))) { y with k := wrap64 (y.k - 1) } rfl
                | exact (hB2.set' hy 3 (by decide) (.int .i64 (wrap64 (y.k - 1))) { y with k := wrap64 (y.k - 1) } rfl).drawn ((Drawn.refl _).drewN _)
            have hF3 : Fr W.heap.size (fun b => b = g ∨ b = bb) W w4 := by
              rw [hX]
              first
                | exact (hF2.drewN _).set (p := ⟨g, pn * 6 + 3, none⟩) (fun _ => Or.inl rfl) _
                | exact (hF2.set (p := ⟨g, pn * 6 + 3, none⟩) (fun _ => Or.inl rfl) _).drewN _
            have ho5 : Own w4 W.heap.size 84 3 ((ev ++ [(⟨due, (j : Int), false⟩ : Ev)]).map erow) v' := by
              rw [hX]
              first
                | exact (ho4.drawn ((Drawn.refl w3).drewN _)).keep fun q hq => Below.heap_setCell _ _ _ q (fun e => by have e' : q = g := e; have := (ho4.lt q hq).1; omega)
                | exact (ho4.keep fun q hq => Below.heap_setCell _ _ _ q (fun e => by have e' : q = g := e; have := (ho4.lt q hq).1; omega)).drawn ((Drawn.refl _).drewN _)
            clear hX y0 q3 qf3 e0' hB2 hF2 ho4
            have hy3 : (dsA.set pn { y with k := wrap64 (y.k - 1) })[pn]? = some { y with k := wrap64 (y.k - 1) } := List.getElem?_set_self hpl
            obtain ⟨_, _, u2, u3, _, u5, uf⟩ := hB3.dv hy3
            have uf5 := uf 5 (by decide)
            clear uf
            have KU := uses_any g (pn * 6) y.t (wrap64 (y.k - 1)) w4 u2 u3
            by_cases hu0 : ({ y with k := wrap64 (y.k - 1) } : Dv).uses = 0
            · have hfd3 := hfd2.out
              rw [if_pos hu0] at hfd3
              subst hfd3
              have hu' : wrap64 (y.t + wrap64 (y.k - 1)) = 0 := hu0
              rw [hu'] at KU
              clear hfd2 hu0 hu'
              have hmk : ∀ W', Drawn w4 W' → Bp (W'.setCell ⟨g, pn * 6 + 5, none⟩ (.int .i64 due)) B bb (.slice (some ⟨g, 0, none⟩) k c) (dsA.set pn { y with k := wrap64 (y.k - 1), s := due }) due := fun W' hd => by
                have q := (hB3.drawn hd).set' hy3 5 (by decide) (.int .i64 due) { y with k := wrap64 (y.k - 1), s := due } rfl
                rw [List.set_set] at q
                exact q
              replace hmk := Lib.hid hmk
              go_wp2_with (go_at_call 53; (with_reducible refine (KU).mono ?_); rintro e w5 ⟨rfl, hd5⟩; have u5' := (hd5.cell ⟨g, pn * 6 + 5, none⟩).trans u5; have uf5' := ((hB3.drawn hd5).dv hy3).2.2.2.2.2.2 5 (by decide))
              go_roundw
              case rel => exact ⟨f, _, due, ev ++ [⟨due, j, false⟩], hmk.out _ hd5, by rw [hfl]; exact hlen, hfq, by omega, hEE, hRe.out, (ho5.drawn hd5).keep fun q hq => Below.heap_setCell _ _ _ q (fun e => by have e' : q = g := e; have := (ho5.lt q hq).1; omega), (hF3.drawn hd5).set (p := ⟨g, pn * 6 + 5, none⟩) (fun _ => Or.inl rfl) _⟩
              case measure =>
                have q := lft_eq (hmk.out _ hd5)
                rw [hfl, hlen] at q
                rw [q, hlw.out]; omega
            · have hfd3 := hfd2.out
              rw [if_neg hu0] at hfd3
              subst hfd3
              have hu' : ¬ wrap64 (y.t + wrap64 (y.k - 1)) = 0 := hu0
              generalize wrap64 (y.t + wrap64 (y.k - 1)) = U at *
              clear hfd2 hu0
              go_wp2_with (go_at_call 53; (with_reducible refine (KU).mono ?_); rintro e w5 ⟨rfl, hd5⟩)
              go_roundw
              case rel => exact ⟨f, _, due, ev ++ [⟨due, j, false⟩], hB3.drawn hd5, by rw [hfl]; exact hlen, hfq, by omega, hEE, hRe.out, ho5.drawn hd5, hF3.drawn hd5⟩
              case measure =>
                have q := lft_eq (hB3.drawn hd5)
                rw [hfl, hlen] at q
                rw [q, hlw.out]; omega
          · have hfd' := hfd.out
            rw [if_neg h0] at hfd'
            subst hfd'
            have hd0 : ¬ (0 : Int) ≤ x.p := h0
            have hlw2 : Hid (lft g k w3 + 1 = awk ds') := Lib.hid (by
              have q := lft_eq hB2
              rw [hfl, hlen] at q
              rw [q]; exact hfa)
            clear hfd
            go_wp2
            go_roundw
            case rel => exact ⟨f, dsF, due, ev ++ [⟨due, j, false⟩], hB2, by rw [hfl]; exact hlen, hfq, by omega, hEE, hRe.out, ho4, hF2⟩
            case measure => rw [hlw.out]; have := hlw2.out; omega
      have hlt : k < n := by omega
      obtain ⟨e0, e1, e2, e3, e4, e5, ef⟩ := hcellD.out k hlt wi hd
      have hgd : ds'.getD k zd = ds'[k]'(by omega) := getD_of (List.getElem?_eq_getElem (by omega))
      have hst : Hid ((if dueBy (ds'[k]'(by omega)) due = true then scn ds' (n - (k + 1)) (k + 1) k (wrap64 ((ds'[k]'(by omega)).s + (ds'[k]'(by omega)).d)) else scn ds' (n - (k + 1)) (k + 1) a due) = (sa, sd)) := Lib.hid (by
        rw [← hsc, show n - k = (n - (k + 1)) + 1 by omega]
        conv => rhs; unfold scn
        rw [hgd])
      clear hsc hgd e0 ef
      generalize (ds'[k]'(by omega)) = x at *
      have KU := fun m => uses_any g (k * 6) x.t x.k (wi.drewN m) e2 e3
      have KU0 := uses_any g (k * 6) x.t x.k wi e2 e3
      cases ha : x.a
      · rw [ha] at e4
        have hdb : dueBy x due = false := by unfold dueBy; rw [ha]; rfl
        rw [hdb] at hst
        go_upto_region 11 with fail
        go_quiet ((go_at_call 53; exact quiet_drawn (KU _)))
        go_wp2
        go_roundw
        case rel => exact ⟨k + 1, a, due, by omega, by go_num, rfl, rfl, hst.out, hd.drewN _⟩
        case measure => simp [intOf]; omega
      · rw [ha] at e4
        by_cases hu : x.uses = 0
        · have hu' : wrap64 (x.t + x.k) = 0 := hu
          rw [hu'] at KU
          by_cases hle : wrap64 (x.s + x.d) ≤ due
          · have hdb : dueBy x due = true := by unfold dueBy; rw [ha, decide_eq_true hu, decide_eq_true hle]; rfl
            rw [hdb] at hst
            go_upto_region 11 with fail
            go_quiet ((go_at_call 53; exact quiet_drawn (KU _)))
            go_upto_region 12 with fail
            go_quiet (fail)
            go_wp2
            go_roundw
            case rel => exact ⟨k + 1, k, wrap64 (x.s + x.d), by omega, by go_num, rfl, rfl, hst.out, hd.drewN _⟩
            case measure => simp [intOf]; omega
          · have hdb : dueBy x due = false := by unfold dueBy; rw [ha, decide_eq_true hu, decide_eq_false hle]; rfl
            rw [hdb] at hst
            go_upto_region 11 with fail
            go_quiet ((go_at_call 53; exact quiet_drawn (KU _)))
            go_wp2
            go_roundw
            case rel => exact ⟨k + 1, a, due, by omega, by go_num, rfl, rfl, hst.out, hd.drewN _⟩
            case measure => simp [intOf]; omega
        · have hu' : ¬ wrap64 (x.t + x.k) = 0 := hu
          have hdb : dueBy x due = false := by unfold dueBy; rw [ha, decide_eq_false hu]; rfl
          rw [hdb] at hst
          generalize wrap64 (x.t + x.k) = U at *
          have hU0 : (U == 0) = false := beq_eq_false_iff_ne.2 hu'
          go_upto_region 11 with fail
          go_quiet ((go_at_call 53; exact quiet_drawn (KU _)))
          go_wp2
          go_roundw
          case rel => exact ⟨k + 1, a, due, by omega, by go_num, rfl, rfl, hst.out, hd.drewN _⟩
          case measure => simp [intOf]; omega
end Go.Proofs.Ytgnhddnhcfmipaa
