/- Idle: Tick of the reference's book, walked. -/
import Derived.Test.YtgnhddnhcfmipaaRwk
import Derived.Test.YtgnhddnhcfmipaaTick2
namespace Go.Proofs.Ytgnhddnhcfmipaa
open Go.RowKit Go.BigFrame

set_option maxRecDepth 100000 in
theorem rtick_out {W : World} {H B bb : Nat} {v vo : Value} {ds : List Dv} {now : Int} {ev : List Ev} (h : Rk W H B bb v vo ds now ev) (up : Int) (hu : ¬ (okTick up ∧ now ≤ up)) :
    Calls Try.prog 31 #[.pointer (some ⟨bb, 0, none⟩), .int .i64 up] W fun e w' => e = .returned (.tuple #[.slice none 0 0, .int .i64 1]) ∧ w' = W := by
  have c1 := h.c1
  have KT := rtick_any up
  by_cases ht : okTick up
  · have h2 : ¬ now ≤ up := fun q => hu ⟨ht, q⟩
    have h3 : up < now := by omega
    have hd := isTick_yes ht
    rw [hd] at KT
    clear h ht hu h2 hd
    go_enter Try.func31, Try.ntmps31
    go_wp2_with (go_at_call 12; (with_reducible refine (KT _).mono ?_); rintro e w1 ⟨rfl, rfl⟩)
    go_ret2
    exact ⟨rfl, rfl⟩
  · have hd := isTick_no ht
    rw [hd] at KT
    clear h ht hu hd
    go_enter Try.func31, Try.ntmps31
    go_wp2_with (go_at_call 12; (with_reducible refine (KT _).mono ?_); rintro e w1 ⟨rfl, rfl⟩)
    go_ret2
    exact ⟨rfl, rfl⟩
def Dv.key (x : Dv) : Int := wrap64 (x.s + x.d)
/-- the place found so far, and when it is due -/
def Kpt (ds : List Dv) (n : Nat) (up a due : Int) : Prop := (a = -1 ∧ due = up) ∨ ∃ (j : Nat) (x : Dv), a = (j : Int) ∧ j < n ∧ ds[j]? = some x ∧ due = x.key ∧ due ≤ up
theorem lft_own {W : World} {B T n g c : Nat} {A : Option Addr} {ds : List Dv} (h : Own W B T 6 (ds.map drow) (.slice A n c)) (hn : ds.length = n) (hg : 0 < n → A = some ⟨g, 0, none⟩) : lft g n W = awk ds := by
  rcases Nat.eq_zero_or_pos n with h0 | h0
  · subst h0
    have : ds = [] := List.length_eq_zero_iff.1 hn
    subst this
    rfl
  · obtain rfl := hg h0
    subst hn
    unfold lft awk
    have e : ds = (List.range ds.length).map (fun i => ds.getD i zd) := by
      apply List.ext_getElem?
      intro i
      rw [List.getElem?_map]
      rcases Nat.lt_or_ge i ds.length with q | q
      · rw [List.getElem?_range q, List.getElem?_eq_getElem q]
        simp [List.getD_eq_getElem?_getD, List.getElem?_eq_getElem q]
      · rw [List.getElem?_eq_none q, List.getElem?_eq_none (by simpa using q)]; rfl
    have e2 : ds.countP (·.a) = ((List.range ds.length).map (fun i => ds.getD i zd)).countP (·.a) := by rw [← e]
    rw [e2, List.countP_map]
    apply List.countP_congr
    intro i hi
    have hil := List.mem_range.1 hi
    have hx : ds[i]? = some ds[i] := List.getElem?_eq_getElem hil
    obtain ⟨g', c', e3, _, _, _, _, _, _, hd, _, _⟩ := own_dv h hx
    obtain ⟨e4, _, _⟩ := Value.slice.inj e3
    cases e4
    rw [hd]
    simp only [Function.comp, getD_of hx]
set_option maxHeartbeats 16000000 in
set_option maxRecDepth 100000 in
theorem rtick_in {W : World} {H B bb : Nat} {v : Value} {ds : List Dv} {now : Int} (h : Rk W H B bb v (.slice none 0 0) ds now []) (hp : Par ds) (hl : ds.length ≤ 512) (up : Int) (hu : okTick up ∧ now ≤ up) :
    Calls Try.prog 31 #[.pointer (some ⟨bb, 0, none⟩), .int .i64 up] W fun e w' => ∃ vo, e = .returned (.tuple #[vo, .int .i64 0]) ∧ Rk w' H B bb v (.slice none 0 0) (tk (awk ds + 1) ds up).1 up [] ∧ Own w' H 120 3 ((tk (awk ds + 1) ds up).2.map erow) vo ∧
      Fr H (fun b => v.ownBlock = some b ∨ b = bb) W w' := by
  obtain ⟨A, c, rfl, _⟩ := h.form
  obtain ⟨g, hgA⟩ : ∃ g, 0 < ds.length → A = some ⟨g, 0, none⟩ := by
    rcases Nat.eq_zero_or_pos ds.length with q | q
    · exact ⟨0, fun q' => by omega⟩
    · obtain ⟨g', c', e, _⟩ := own_dv h.own (List.getElem?_eq_getElem q)
      exact ⟨g', fun _ => (Value.slice.inj e).1⟩
  have c1 := h.c1
  have lb := h.lb
  have KT := rtick_any up
  have hd := isTick_yes hu.1
  rw [hd] at KT
  have hnu : ¬ up < now := by omega
  generalize hR : tk (awk ds + 1) ds up = R
  have hR' := Lib.hid hR
  generalize hn : ds.length = n at *
  have hn' := Lib.hid hn
  replace hgA := Lib.hid hgA
  clear hd hR hn
  go_enter Try.func31, Try.ntmps31
  go_upto_region 3 with (go_at_call 12; (with_reducible refine (KT _).mono ?_); rintro e w1 ⟨rfl, rfl⟩)
  clear KT
  have hds0 : ∃ (f : Nat) (ds' : List Dv) (nw : Int) (ev : List Ev) (vo : Value), Rk W H B bb (.slice A n c) vo ds' nw ev ∧ ds'.length = n ∧ Par ds' ∧ awk ds' < f ∧ ev.length + f ≤ 600 ∧ R = ((tk f ds' up).1, ev ++ (tk f ds' up).2) ∧ Fr H (fun b => (Value.slice A n c).ownBlock = some b ∨ b = bb) W W :=
    ⟨awk ds + 1, ds, now, [], _, h, hn'.out, hp, Nat.lt_succ_self _, by have := awk_le ds; rw [hn'.out] at this; simp; omega, by rw [hR'.out, List.nil_append], Fr.refl _ _ _⟩
  clear h hp hn' hR' c1
  go_loopw [6] (fun s6 wr => ∃ (f : Nat) (ds' : List Dv) (nw : Int) (ev : List Ev) (vo : Value), Rk wr H B bb (.slice A n c) vo ds' nw ev ∧ ds'.length = n ∧ Par ds' ∧ awk ds' < f ∧ ev.length + f ≤ 600 ∧ R = ((tk f ds' up).1, ev ++ (tk f ds' up).2) ∧ Fr H (fun b => (Value.slice A n c).ownBlock = some b ∨ b = bb) W wr) (fun _ wr => lft g n wr)
  case atStart => exact hds0
  case round =>
    clear hds0
    obtain ⟨f, ds', nw, ev, vo, hB, hlen, hp, hf, hE, hRk, hF⟩ := hrel
    obtain ⟨wo, rfl⟩ : ∃ x : World, x = wr := ⟨_, rfl⟩
    obtain ⟨f, rfl⟩ : ∃ f', f = f' + 1 := ⟨f - 1, by omega⟩
    unfold tk at hRk
    simp only at hRk
    rw [hlen] at hRk
    have hsa := scn_at ds' n 0 (-1) up
    generalize hS : scn ds' n 0 (-1) up = S at *
    obtain ⟨sa, sd⟩ := S
    have hS' := Lib.hid hS
    replace hRk := Lib.hid hRk
    replace hsa := Lib.hid hsa
    clear hS
    have hBd := Lib.hid (fun (W' : World) (hd : Below wo.heap.size wo W') => hB.below hd)
    have hcell0 := Lib.hid (fun (W' : World) (hd : Below wo.heap.size wo W') => (hB.below hd).c0)
    have hlen' := Lib.hid hlen
    have y0 := hB.c0
    go_upto_region 5 with fail
    go_loopw [7, 6] (fun s7 s6 wr => ∃ (k : Nat) (a due : Int), k ≤ n ∧ s7 = .int .i64 k ∧ s6 = .int .i64 a ∧ scn ds' (n - k) k a due = (sa, sd) ∧ Kpt ds' n up a due ∧ Below wo.heap.size wo wr) (fun s7 _ _ => n - (intOf s7).toNat)
    case atStart => exact ⟨0, -1, up, by omega, rfl, rfl, hS'.out, Or.inl ⟨rfl, rfl⟩, Below.refl _ _⟩
    case round =>
      clear y0 hlen
      obtain ⟨k, a, due, hk, rfl, rfl, hsc, hkp, hd⟩ := hrel
      obtain ⟨wi, rfl⟩ : ∃ x : World, x = wr := ⟨_, rfl⟩
      have y0 := hcell0.out _ hd
      by_cases hkn : k = n
      · subst hkn
        rw [Nat.sub_self] at hsc
        obtain ⟨rfl, rfl⟩ : a = sa ∧ due = sd := Prod.mk.inj hsc
        clear hsc hcell0
        have hBi := hBd.out _ hd
        have hFi : Fr H (fun b => (Value.slice A k c).ownBlock = some b ∨ b = bb) W wi := hF.trans (Fr.of (hd.mono hB.lh))
        have hlw : Hid (lft g k wo = awk ds') := Lib.hid (lft_own hB.own hlen'.out hgA.out)
        have y1 := hBi.c1
        have z1 := hBi.fz 1
        rcases hsa.out with ha | ⟨j, _, hj, ha, hja⟩
        · have ha' : a = -1 := ha
          subst ha'
          have hRe : R = (ds', ev) := by
            have := hRk.out
            simp only [if_pos (show (-1 : Int) < 0 by decide), List.append_nil] at this
            exact this
          subst hRe
          have hN := hBi.now up
          have KT := told_any hN
          have hT := hN.took
          have hFN := (hFi.set (p := ⟨bb, 1, none⟩) (fun _ => Or.inr rfl) (.int .i64 up)).set (p := ⟨bb, 2, none⟩) (fun _ => Or.inr rfl) (.slice none 0 0)
          clear hRk hsa ha hS' hkp
          go_wp2_with (go_at_call 49; (with_reducible refine (KT).mono ?_); rintro e w6 ⟨rfl, rfl⟩)
          go_ret2
          exact ⟨vo, rfl, hT.1, hT.2, hFN⟩
        · have ha' : a = (j : Int) := ha
          subst ha'
          have hjn : j < k := by omega
          have hjl : j < ds'.length := by rw [hlen'.out]; exact hjn
          have hx : ds'[j]? = some ds'[j] := List.getElem?_eq_getElem hjl
          rw [getD_of hx] at hja
          have hkey : due = ds'[j].key := by
            rcases hkp with ⟨q, _⟩ | ⟨j', x', q1, q2, q3, q4, _⟩
            · omega
            · have : j' = j := by omega
              subst this
              rw [hx] at q3
              cases q3
              exact q4
          subst hkey
          have hRe : Hid (R = ((tk f (fall ds' j ds'[j].key) up).1, (ev ++ [⟨ds'[j].key, j, false⟩]) ++ (tk f (fall ds' j ds'[j].key) up).2)) := Lib.hid (by
            have := hRk.out
            simp only [if_neg (show ¬ (j : Int) < 0 by omega), Int.toNat_natCast] at this
            rw [this, List.append_assoc]
            rfl)
          have hfp := hp j _ hx
          have hfa := fall_awk hx hja hp ds'[j].key
          have hfq := fall_par hx hp ds'[j].key
          have hfl := fall_len ds' j ds'[j].key
          obtain rfl := hgA.out (by omega)
          obtain ⟨e0, e1, e2, e3, e4, e5, ef⟩ := hBi.dv hx
          have f4 := ef 4 (by decide)
          rw [hja] at e4
          have hfd : Hid (fall ds' j ds'[j].key = if 0 ≤ ds'[j].p then (ds'.set j { ds'[j] with a := false }).set ds'[j].p.toNat (if ({ (ds'.set j { ds'[j] with a := false }).getD ds'[j].p.toNat zd with k := wrap64 (((ds'.set j { ds'[j] with a := false }).getD ds'[j].p.toNat zd).k - 1) } : Dv).uses = 0 then ({ (ds'.set j { ds'[j] with a := false }).getD ds'[j].p.toNat zd with k := wrap64 (((ds'.set j { ds'[j] with a := false }).getD ds'[j].p.toNat zd).k - 1), s := ds'[j].key } : Dv) else { (ds'.set j { ds'[j] with a := false }).getD ds'[j].p.toNat zd with k := wrap64 (((ds'.set j { ds'[j] with a := false }).getD ds'[j].p.toNat zd).k - 1) }) else ds'.set j { ds'[j] with a := false }) := Lib.hid (by
            unfold fall
            simp only
            rw [getD_of hx])
          have hB1 := (hBi.now ds'[j].key).set hx 4 (by decide) (.bool false) { ds'[j] with a := false } rfl
          have hkd : Hid (wrap64 (ds'[j].s + ds'[j].d) = ds'[j].key) := Lib.hid rfl
          generalize hdue : ds'[j].key = due at *
          generalize ds'[j] = x at *
          generalize fall ds' j due = dsF at *
          have hx1 : (ds'.set j { x with a := false })[j]? = some { x with a := false } := List.getElem?_set_self hjl
          have hAl : (ds'.set j { x with a := false }).length = ds'.length := List.length_set
          have hAl' : (ds'.set j { x with a := false }).length = k := hAl.trans hlen'.out
          have hlF : dsF.length = k := hfl.trans hlen'.out
          generalize ds'.set j { x with a := false } = dsA at *
          have hF1 := (hFi.set (p := ⟨bb, 1, none⟩) (fun _ => Or.inr rfl) (.int .i64 due)).set (p := ⟨g, j * 6 + 4, none⟩) (fun _ => Or.inl rfl) (.bool false)
          have y0 := hBi.c0
          have hjk : ¬ (j : Int) < 0 := by omega
          have hw : ∀ n, IntKind.i64.wrap n = wrap64 n := IntWalk.i64_left
          clear hRk hsa ha hS' hja ef hAl hfl hdue hkp
          go_upto_region 13 with fail
          go_region
          all_goals go_upto_region 15 with fail
          refine wp_world ?_
          intro wX hX
          have hB2 : Rk wX H B bb (.slice (some ⟨g, 0, none⟩) k c) vo dsA due ev := by
            rw [hX, hkd.out]
            first
              | exact hB1
              | exact hB1.drawn ((Drawn.refl _).drew)
          have hF2 : Fr H (fun b => (Value.slice (some ⟨g, 0, none⟩) k c).ownBlock = some b ∨ b = bb) W wX := by
            rw [hX, hkd.out]
            first
              | exact hF1
              | exact hF1.drawn ((Drawn.refl _).drew)
          clear hX e0 e1 e2 e3 e4 e5 f4 y0 y1 z1 hFi hBi hd hB1 hF1 hkd
          have y1 := hB2.c1
          have y2 := hB2.c2
          have ho := hB2.o
          have lh := hB2.lh
          have hbbs : bb < wX.heap.size := hB2.lt
          have hle : Hid ((ev.map erow).length = ev.length) := Lib.hid (List.length_map _)
          have hhb := Lib.hid hB2.hb
          go_region_law (first
            | (refine step_push_at el69 rfl (.tmp 123) (.tmp 130) rfl rfl ((ho.drawn ((Drawn.refl _).drew)).alloc _) (erow ⟨due, j, false⟩) wX.heap.size 120 rfl (heap_alloc_at wX _) rfl (by simp [erow, Value.oneCell']) (by rw [hle.out]; omega) ?hb (fun v' w3 ho3 hb3 hg3 hat3 => ?_); (case hb => (have q := size_al wX (.cells (erow ⟨due, j, false⟩).toArray 120); (show _ ≤ (wX.alloc (.cells (erow ⟨due, j, false⟩).toArray 120)).heap.size); omega)); obtain ⟨g3, cap3, rfl, hg3a, hg3b⟩ := own_form ho3; rw [hle.out] at ho3; have z3 := (hb3.block bb lb).trans ((Below.heap_alloc wX _ _ hbbs).trans hhb.out); have y3 := cell_of_row _ _ 2 _ 79 (0, 0) z3; have yf := frozen_row z3 2; clear z3))
          all_goals (
            have hEE : (ev ++ [(⟨due, j, false⟩ : Ev)]).length + f ≤ 600 := by rw [List.length_append]; simp; omega
            have hB3 := hB2.tell (below_al (Below.refl _ _) _).drew ⟨due, j, false⟩ ho3 hb3
            have hF3 := (hF2.trans (Fr.of (((below_al (Below.refl wX.heap.size wX) (.cells (erow ⟨due, j, false⟩).toArray 120)).drew.mono lh).trans hb3))).set (p := ⟨bb, 2, none⟩) (fun _ => Or.inr rfl) (.slice (some ⟨g3, 0, none⟩) (ev.length + 1) cap3)
            clear ho lh hle hhb hbbs y1 y2 y3 yf hg3 hat3 hg3a hg3b ho3 hb3
            go_upto_region 16 with fail
            refine wp_world ?_
            intro wY hY
            rw [← hY] at hB3 hF3
            clear hY hB2 hF2
            have y0 := hB3.c0
            obtain ⟨e0, _, _, _, _, _, _⟩ := hB3.dv hx1
            have e0' : wY.cell? ⟨g, j * 6, none⟩ = some (.int .i64 x.p) := e0
            clear e0
            by_cases h0 : 0 ≤ x.p
            · have hfd' := hfd.out
              rw [if_pos h0] at hfd'
              obtain ⟨pn, hpn⟩ : ∃ pn : Nat, x.p = (pn : Int) := ⟨x.p.toNat, by omega⟩
              have hpt : x.p.toNat = pn := by omega
              rw [hpt] at hfd'
              have hpj : pn < j := by omega
              have hpl : pn < dsA.length := by omega
              have hy : dsA[pn]? = some dsA[pn] := List.getElem?_eq_getElem hpl
              rw [getD_of hy] at hfd'
              generalize dsA[pn] = y at *
              rw [hpn] at e0'
              have hpk : pn < k := by omega
              obtain ⟨_, _, _, q3, _, _, qf⟩ := hB3.dv hy
              have qf3 := qf 3 (by decide)
              have hB4 := hB3.set hy 3 (by decide) (.int .i64 (wrap64 (y.k - 1))) { y with k := wrap64 (y.k - 1) } rfl
              have hF4 := hF3.set (p := ⟨g, pn * 6 + 3, none⟩) (fun _ => Or.inl rfl) (.int .i64 (wrap64 (y.k - 1)))
              have hfd2 := Lib.hid hfd'
              have hy3 : (dsA.set pn { y with k := wrap64 (y.k - 1) })[pn]? = some { y with k := wrap64 (y.k - 1) } := List.getElem?_set_self hpl
              clear qf hfd hfd' hpn hpt h0 hfp
              go_upto_region 19 with fail
              refine wp_world ?_
              intro w4 hX
              rw [← hX] at hB4 hF4
              clear hX y0 q3 qf3 e0' hB3 hF3
              have y0 := hB4.c0
              have y1 := hB4.c1
              obtain ⟨_, _, _, _, _, u5, uf⟩ := hB4.dv hy3
              have uf5 := uf 5 (by decide)
              clear uf
              have KU := ruses_in hB4 hy3
              by_cases hu0 : ({ y with k := wrap64 (y.k - 1) } : Dv).uses = 0
              · have hfd3 := hfd2.out
                rw [if_pos hu0] at hfd3
                subst hfd3
                rw [hu0] at KU
                clear hfd2 hu0
                have hmk : ∀ W', Drawn w4 W' → Rk (W'.setCell ⟨g, pn * 6 + 5, none⟩ (.int .i64 due)) H B bb (.slice (some ⟨g, 0, none⟩) k c) (.slice (some ⟨g3, 0, none⟩) (ev.length + 1) cap3) (dsA.set pn { y with k := wrap64 (y.k - 1), s := due }) due (ev ++ [⟨due, j, false⟩]) := fun W' hd => by
                  have q := (hB4.drawn hd).set hy3 5 (by decide) (.int .i64 due) { y with k := wrap64 (y.k - 1), s := due } rfl
                  rw [List.set_set] at q
                  exact q
                replace hmk := Lib.hid hmk
                go_upto_region 20 with (go_at_call 52; (with_reducible refine (KU).mono ?_); rintro e w5 ⟨rfl, hd5⟩; have u5' := (hd5.cell ⟨g, pn * 6 + 5, none⟩).trans u5; have uf5' := ((hB4.drawn hd5).dv hy3).2.2.2.2.2.2 5 (by decide); have y0' := (hB4.drawn hd5).c0; have y1' := (hB4.drawn hd5).c1)
                go_region
                all_goals go_wp2
                all_goals go_roundw
                case rel => exact ⟨f, _, due, ev ++ [⟨due, j, false⟩], _, (hmk.out _ hd5).drawn (Drawn.refl _).drew, hlF, hfq, by omega, hEE, hRe.out, ((hF4.drawn hd5).set (p := ⟨g, pn * 6 + 5, none⟩) (fun _ => Or.inl rfl) _).drawn (Drawn.refl _).drew⟩
                case measure =>
                  have q := lft_own ((hmk.out _ hd5).drawn (Drawn.refl _).drew).own hlF (fun _ => rfl)
                  rw [q, hlw.out]; omega
              · have hfd3 := hfd2.out
                rw [if_neg hu0] at hfd3
                subst hfd3
                generalize ({ y with k := wrap64 (y.k - 1) } : Dv).uses = U at *
                clear hfd2
                go_wp2_with (go_at_call 52; (with_reducible refine (KU).mono ?_); rintro e w5 ⟨rfl, hd5⟩)
                go_roundw
                case rel => exact ⟨f, _, due, ev ++ [⟨due, j, false⟩], _, hB4.drawn hd5, hlF, hfq, by omega, hEE, hRe.out, hF4.drawn hd5⟩
                case measure =>
                  have q := lft_own (hB4.drawn hd5).own hlF (fun _ => rfl)
                  rw [q, hlw.out]; omega
            · have hfd' := hfd.out
              rw [if_neg h0] at hfd'
              subst hfd'
              have hd0 : ¬ (0 : Int) ≤ x.p := h0
              have hlw2 : Hid (lft g k wY + 1 = awk ds') := Lib.hid (by
                have q := lft_own hB3.own hlF (fun _ => rfl)
                rw [q]; exact hfa)
              clear hfd
              go_wp2
              go_roundw
              case rel => exact ⟨f, dsF, due, ev ++ [⟨due, j, false⟩], _, hB3, hlF, hfq, by omega, hEE, hRe.out, hF3⟩
              case measure => rw [hlw.out]; have := hlw2.out; omega)
      have hlt : k < n := by omega
      have hkl : k < ds'.length := by rw [hlen'.out]; exact hlt
      obtain rfl := hgA.out (by omega)
      have hBi := hBd.out _ hd
      have hx : ds'[k]? = some ds'[k] := List.getElem?_eq_getElem hkl
      obtain ⟨e0, e1, e2, e3, e4, e5, _⟩ := hBi.dv hx
      have hst : Hid ((if dueBy ds'[k] due = true then scn ds' (n - (k + 1)) (k + 1) k (wrap64 (ds'[k].s + ds'[k].d)) else scn ds' (n - (k + 1)) (k + 1) a due) = (sa, sd)) := Lib.hid (by
        rw [← hsc, show n - k = (n - (k + 1)) + 1 by omega]
        conv => rhs; unfold scn
        rw [getD_of hx])
      clear hsc
      have hrow := Lib.hid hx
      generalize ds'[k] = x at *
      go_upto_region 8 with (refine wpList_store_row rfl 115 _ _ rfl wi.heap.size #[.int .i64 x.p, .int .i64 x.d, .int .i64 x.t, .int .i64 x.k, .bool x.a, .int .i64 x.s] rfl rfl 115 _ (heap_alloc_at _ _) (by kernel_rfl) (by kernel_rfl) (by kernel_rfl) ?_)
      rw [setRow_alloc _ _ _ _ _ rfl]
      simp only [Act.put]
      have hd2 : Below wo.heap.size wo (wi.alloc (.cells #[.int .i64 x.p, .int .i64 x.d, .int .i64 x.t, .int .i64 x.k, .bool x.a, .int .i64 x.s] 115)) := hd.alloc hd.size _
      have hbx := heap_alloc_at wi (.cells #[.int .i64 x.p, .int .i64 x.d, .int .i64 x.t, .int .i64 x.k, .bool x.a, .int .i64 x.s] 115)
      generalize wi.alloc (.cells #[.int .i64 x.p, .int .i64 x.d, .int .i64 x.t, .int .i64 x.k, .bool x.a, .int .i64 x.s] 115) = wA at *
      generalize wi.heap.size = N at *
      have hBA := hBd.out _ hd2
      have d1 := cell_of_row _ _ 1 _ 115 (0, 0) hbx
      have d4 := cell_of_row _ _ 4 _ 115 (0, 0) hbx
      have d5 := cell_of_row _ _ 5 _ 115 (0, 0) hbx
      have KU := fun m => ruses_in (hBA.drawn ((Drawn.refl wA).drewN m)) hrow.out
      clear y0 e0 e1 e2 e3 e4 e5 hbx hcell0 hBi hB hF hE hRk hsa hS' hp
      have y0 := hBA.c0
      have hw : ∀ n, IntKind.i64.wrap n = wrap64 n := IntWalk.i64_left
      have hmono := hd2
      cases ha : x.a
      · rw [ha] at d4
        have hdb : dueBy x due = false := by unfold dueBy; rw [ha]; rfl
        rw [hdb] at hst
        go_big_quiet ((go_at_call 52; exact quiet_drawn (KU _)))
        clear hw
        go_wp2
        go_roundw
        case rel => exact ⟨k + 1, a, due, by omega, by go_num, rfl, hst.out, hkp, below_drewN' hd2 _⟩
        case measure => simp [intOf]; omega
      · rw [ha] at d4
        by_cases hux : x.uses = 0
        · rw [hux] at KU
          by_cases hup : x.key ≤ up
          · have hup' : wrap64 (x.s + x.d) ≤ up := hup
            rcases hkp with ⟨rfl, rfl⟩ | ⟨j, z, rfl, hj, hz, rfl, hzu⟩
            · have hdb : dueBy x due = true := by unfold dueBy; rw [ha, decide_eq_true hux, decide_eq_true hup']; rfl
              rw [hdb] at hst
              go_big_quiet ((go_at_call 52; exact quiet_drawn (KU _)))
              clear hw
              go_wp2
              go_roundw
              case rel => exact ⟨k + 1, k, wrap64 (x.s + x.d), by omega, by go_num, rfl, hst.out, Or.inr ⟨k, x, rfl, hlt, hrow.out, rfl, hup⟩, below_drewN' hd2 _⟩
              case measure => simp [intOf]; omega
            · obtain ⟨_, g1, _, _, _, g5, _⟩ := hBA.dv hz
              have hj0 : ¬ (j : Int) < 0 := by omega
              by_cases hle : wrap64 (x.s + x.d) ≤ wrap64 (z.s + z.d)
              · have hdb : dueBy x z.key = true := by unfold dueBy Dv.key; rw [ha, decide_eq_true hux, decide_eq_true hle]; rfl
                rw [hdb] at hst
                go_big_quiet ((go_at_call 52; exact quiet_drawn (KU _)))
                clear hw
                go_wp2
                go_roundw
                case rel => exact ⟨k + 1, k, wrap64 (x.s + x.d), by omega, by go_num, rfl, hst.out, Or.inr ⟨k, x, rfl, hlt, hrow.out, rfl, hup⟩, below_drewN' hd2 _⟩
                case measure => simp [intOf]; omega
              · have hdb : dueBy x z.key = false := by unfold dueBy Dv.key; rw [ha, decide_eq_true hux, decide_eq_false hle]; rfl
                rw [hdb] at hst
                go_big_quiet ((go_at_call 52; exact quiet_drawn (KU _)))
                clear hw
                go_wp2
                go_roundw
                case rel => exact ⟨k + 1, j, z.key, by omega, by go_num, rfl, hst.out, Or.inr ⟨j, z, rfl, hj, hz, rfl, hzu⟩, below_drewN' hd2 _⟩
                case measure => simp [intOf]; omega
          · have hup' : ¬ wrap64 (x.s + x.d) ≤ up := hup
            have hnd : ¬ wrap64 (x.s + x.d) ≤ due := by
              rcases hkp with ⟨_, rfl⟩ | ⟨j, z, _, _, _, rfl, hzu⟩
              · exact hup'
              · omega
            have hdb : dueBy x due = false := by unfold dueBy; rw [ha, decide_eq_true hux, decide_eq_false hnd]; rfl
            rw [hdb] at hst
            clear hup hnd
            go_big_quiet ((go_at_call 52; exact quiet_drawn (KU _)))
            clear hw
            go_wp2
            go_roundw
            case rel => exact ⟨k + 1, a, due, by omega, by go_num, rfl, hst.out, hkp, below_drewN' hd2 _⟩
            case measure => simp [intOf]; omega
        · have hdb : dueBy x due = false := by unfold dueBy; rw [ha, decide_eq_false hux]; rfl
          rw [hdb] at hst
          generalize x.uses = U at *
          have hU0 : (U == 0) = false := beq_eq_false_iff_ne.2 hux
          go_big_quiet ((go_at_call 52; exact quiet_drawn (KU _)))
          clear hw
          go_wp2
          go_roundw
          case rel => exact ⟨k + 1, a, due, by omega, by go_num, rfl, hst.out, hkp, below_drewN' hd2 _⟩
          case measure => simp [intOf]; omega
end Go.Proofs.Ytgnhddnhcfmipaa
