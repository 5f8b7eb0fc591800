/- NetPassive, walked. -/
import Derived.Test.YtfmjmjppkdaanaaShf
namespace Go.Proofs.Ytfmjmjppkdaanaa
open Go.RowKit Go.BigFrame flt Ieee

theorem Pn.take {w : World} {A : Option Addr} {l : List Part} (h : Pn w A l) (n : Nat) : Pn w A (l.take n) := by
  refine ⟨by have := h.1; rw [List.length_take]; omega, fun k hk => ?_⟩
  have hkl : k < l.length := by rw [List.length_take] at hk; omega
  rw [List.getElem_take]
  exact h.2 k hkl
theorem boxed_push {wi w3 : World} {b0 : Nat} {x o : Obj} (hbox : wi.heap[b0]? = some x) (hlt : b0 + 1 ≤ wi.heap.size) (hb3 : Below (b0 + 1) ((wi.alloc o).drew) w3) : w3.heap[b0]? = some x :=
  (hb3.block b0 (Nat.lt_succ_self _)).trans ((Below.heap_alloc wi o b0 hlt).trans hbox)
theorem own_form {w : World} {base : Nat} {e : TypeId} {size : Nat} {xs : List (List Value)} {r : List Value} {v : Value} (h : Own w base e size (xs ++ [r]) v) : ∃ g c, v = .slice (some ⟨g, 0, none⟩) (xs.length + 1) c ∧ base ≤ g ∧ g < w.heap.size := by
  obtain ⟨g, c, e, _, h2, _⟩ := h.form (by rw [List.length_append]; simp)
  rw [List.length_append] at e
  exact ⟨g, c, e, (h.lt g (by rw [e]; rfl)).1, (h.lt g (by rw [e]; rfl)).2⟩
def arow : List Value := [.int .u8 1, .float .f64 4617315517961601024, .slice none 0 0]
theorem bld_ahead (w : World) : Bld (w.alloc (.cells #[.int .u8 1, .float .f64 4617315517961601024, .slice none 0 0] 47)) w.heap.size [ahead] (.slice (some ⟨w.heap.size, 0, none⟩) 1 1) [arow] :=
  ⟨Own.lit (w := w) (base := w.heap.size) (e := 47) (size := 3) (xs := [arow]) #[.int .u8 1, .float .f64 4617315517961601024, .slice none 0 0] 1 rfl rfl (by simp [arow]) (Nat.le_refl _) (by decide),
    Prts.push (l := []) (rs := []) (Prts.nil _ _) ⟨none, 0, rfl, Sl.nil _ _ _ _, Nat.le_refl _⟩⟩
set_option maxHeartbeats 4000000 in
theorem passive_bad (l : List Part) (A : Option Addr) (c : Nat) (y : Int) (w : World) (h : Pcs w A l) (hL : Little l) (he : ¬ (Good l ∧ isRate (cls y.toNat) = true)) :
    Calls Try.prog 5 #[.slice A l.length c, .int .u64 y] w fun e w' => e = .returned (.bool true) ∧ Below w.heap.size w w' := by
  have hP0 := Lib.hid (fun W (hW : Below w.heap.size w W) => parts_any l A c W (h.below hW) hL)
  have hf := fun W => from_run y W
  have K24 := fun A' c' W hp => eachk_bad l A' c' y.toNat W hp he
  have hn : err l (cls y.toNat) = 290 ∨ err l (cls y.toNat) = 1 := by
    unfold err
    by_cases hg : Good l
    · rw [if_pos hg]
      cases hq : isRate (cls y.toNat)
      · exact Or.inr rfl
      · exact absurd ⟨hg, hq⟩ he
    · rw [if_neg hg]; exact Or.inl rfl
  have hlen := h.1
  clear h he
  generalize err l (cls y.toNat) = E at *
  rcases hn with rfl | rfl
  all_goals (
    go_enter Try.func5, Try.ntmps5
    go_wp2_with (first
      | (go_at_call 23; (with_reducible refine (awake_any _).mono ?_); rintro e w1 ⟨rfl, hb⟩)
      | (go_at_call 20; (with_reducible refine (hP0.out _ hb).mono ?_); rintro e w1 ⟨g, cap, gs, rfl, hcap, hP, hb1⟩; replace hb := hb.trans (hb1.mono hb.size); clear hb1)
      | (go_at_call 24; (with_reducible refine (K24 _ _ _ hP.pn).mono ?_); rintro e w3 ⟨rfl, hb1⟩; replace hb := hb.trans (hb1.mono hb.size); clear hb1))
    go_ret
    exact ⟨rfl, hb⟩)
set_option maxHeartbeats 8000000 in
set_option maxRecDepth 100000 in
theorem passive_good (l : List Part) (A : Option Addr) (c : Nat) (y : Int) (w : World) (h : Pcs w A l) (hL : Little l) (hg : Good l) (hr : isRate (cls y.toNat) = true) :
    Calls Try.prog 5 #[.slice A l.length c, .int .u64 y] w fun e w' => e = .returned (.bool true) ∧ Below w.heap.size w w' := by
  have hP0 := Lib.hid (fun W (hW : Below w.heap.size w W) => parts_any l A c W (h.below hW) hL)
  have hf := fun W => from_run y W
  have K24 := Lib.hid (fun A' c' W hp => eachk_good l A' c' y.toNat W hp hg hr)
  have K25 : Hid (∀ (k : Nat), k < l.length → ∀ A' c' W, Pn W A' (l.take (k + 1)) → Calls Try.prog 25 #[.slice A' (k + 1) c', .float .f64 y.toNat] W fun e w' => ∃ r s, e = .returned (.tuple #[.complex .f64 r s, .int .i64 0]) ∧ (cls r, cls s) = zat (zsn (cls y.toNat) l l.length) k ∧ Below W.heap.size W w') := Lib.hid (fun k hk A' c' W hp => by
    have q := z_good _ A' c' y.toNat W hp (good_take hg (by omega) (by omega)) hr
    have hl : (l.take (k + 1)).length = k + 1 := by rw [List.length_take]; omega
    rw [hl, Nat.add_sub_cancel, zsn_take l (k + 1) (k + 1) (Nat.le_refl _), zsn_get _ _ (Nat.lt_succ_self k)] at q
    unfold zat
    rw [zsn_get _ _ hk]
    exact q)
  have K25b : Hid (l.length ≤ 255 → ∀ A' c' W, Pn W A' (ahead :: l.map shift) → Calls Try.prog 25 #[.slice A' (l.length + 1) c', .float .f64 y.toNat] W fun e w' => ∃ r s, e = .returned (.tuple #[.complex .f64 r s, .int .i64 0]) ∧ (cls r, cls s) = zat (zsn (cls y.toNat) l l.length) (l.length - 1) ∧ Below W.heap.size W w') := Lib.hid (fun h255 A' c' W hp => by
    have q := z_good _ A' c' y.toNat W hp (good_shift hg h255) hr
    have e := lastz_shift (cls y.toNat) hg
    unfold lastz at e
    rw [e] at q
    have hl : (ahead :: l.map shift).length = l.length + 1 := by simp
    rw [hl] at q
    exact q)
  have hNG : Hid (∀ k, k < l.length → NG (zat (zsn (cls y.toNat) l l.length) k).1) := Lib.hid (fun k hk => by
    rw [← zat_get (by rw [zsn_len]; exact hk)]
    exact zsn_ng hg _ (Nat.le_refl _) _ (List.getElem_mem _))
  have hof := Lib.hid (fun k (hk : k < l.length) => good_of hg hk)
  have hzl := Lib.hid (zsn_len (cls y.toNat) l l.length)
  have hl1 := hg.1
  have hl2 := hg.2.1
  clear h hg hr
  generalize zsn (cls y.toNat) l l.length = zs at *
  go_enter Try.func5, Try.ntmps5
  go_upto_region 8 with (first
      | (go_at_call 23; (with_reducible refine (awake_any _).mono ?_); rintro e w1 ⟨rfl, hb⟩)
      | (go_at_call 20; (with_reducible refine (hP0.out _ hb).mono ?_); rintro e w1 ⟨g, cap, gs, rfl, hcap, hP, hb1⟩; replace hb := hb.trans (hb1.mono hb.size); clear hb1)
      | (go_at_call 24; (with_reducible refine (K24.out _ _ _ hP.pn).mono ?_); rintro e w3 ⟨v5, r5, rfl, e5, o5, hb1⟩; replace hP := hP.below hb1; replace hb := hb.trans (hb1.mono hb.size); clear hb1))
  obtain ⟨A5, c5, rfl, hcs5⟩ := Cs.of_own o5
  have hr5 : r5.length = l.length := by rw [← List.length_map (f := clsc), e5, hzl.out]
  rw [hr5]
  rw [e5] at hcs5
  obtain ⟨wo, rfl⟩ : ∃ x : World, x = w3 := ⟨_, rfl⟩
  have hcell : Hid (∀ (k : Nat) (W : World), k < l.length → Below wo.heap.size wo W → ∃ b o r s, A5 = some ⟨b, o, none⟩ ∧ W.cell? ⟨b, o + k, none⟩ = some (.complex .f64 r s) ∧ (cls r, cls s) = zat zs k) := Lib.hid (fun k W hk hW => by
    obtain ⟨b, o, r, s, e, hbl, c0, hc⟩ := hcs5.2 k (by rw [hzl.out]; exact hk)
    exact ⟨b, o, r, s, e, (hW.cell hbl).trans c0, by rw [hc]; exact zat_get _⟩)
  clear o5 e5 hr5 hcs5 hP0 K24
  go_wp2
  go_loopw [9] (fun v wr => ∃ (k : Nat), k ≤ l.length ∧ v = .int .i64 k ∧ Below wo.heap.size wo wr) (fun v _ => l.length - (intOf v).toNat)
  case atStart => exact ⟨0, by omega, rfl, Below.refl _ _⟩
  case round =>
    obtain ⟨k, hk, rfl, hd⟩ := hrel
    obtain ⟨wi, rfl⟩ : ∃ x : World, x = wr := ⟨_, rfl⟩
    by_cases hkl : k = l.length
    · subst hkl
      by_cases h256 : l.length = 256
      · go_wp2
        go_ret
        exact ⟨rfl, hb.trans (hd.mono hb.size)⟩
      have h255 : l.length ≤ 255 := by omega
      have hb256 : ((l.length : Int) == 256) = false := beq_eq_false_iff_ne.2 (by omega)
      go_upto_region 17 with fail
      have hB0 := bld_ahead wi
      have hd0 := below_al (Below.refl wi.heap.size wi) (.cells #[.int .u8 1, .float .f64 4617315517961601024, .slice none 0 0] 47)
      generalize wi.alloc _ = w2 at *
      generalize hv0 : Value.slice (some ⟨wi.heap.size, 0, none⟩) 1 1 = v0 at *
      clear hv0
      have hPL : Hid (∀ W, Below wi.heap.size wi W → Pn W (some ⟨g, 0, none⟩) l) := Lib.hid (fun W hW => (hP.pn.below hd).below hW)
      have hbW : Hid (Below w.heap.size w wi) := Lib.hid (hb.trans (hd.mono hb.size))
      have hcell2 : Hid (∀ (k : Nat) (W : World), k < l.length → Below wi.heap.size wi W → ∃ b o r s, A5 = some ⟨b, o, none⟩ ∧ W.cell? ⟨b, o + k, none⟩ = some (.complex .f64 r s) ∧ (cls r, cls s) = zat zs k) := Lib.hid (fun k W hk hW => hcell.out k W hk (hd.trans (hW.mono hd.size)))
      clear hP hcell hNG K25 hd hb
      obtain ⟨wL, rfl⟩ : ∃ x : World, x = wi := ⟨_, rfl⟩
      go_wp2
      go_loopw [12, 13] (fun s12 s13 wr => ∃ (k : Nat) (rs : List (List Value)), k ≤ l.length ∧ s13 = .int .i64 k ∧ Bld wr wL.heap.size (ahead :: (l.take k).map shift) s12 rs ∧ Below wL.heap.size wL wr) (fun _ v _ => l.length - (intOf v).toNat)
      case atStart => exact ⟨0, [arow], by omega, rfl, hB0, hd0⟩
      case round =>
        clear hB0 hd0
        obtain ⟨k, rs, hk, rfl, hB, hd⟩ := hrel
        obtain ⟨wo, rfl⟩ : ∃ x : World, x = wr := ⟨_, rfl⟩
        by_cases hkl : k = l.length
        · subst hkl
          rw [List.take_length] at hB
          obtain ⟨Am, cm, rfl, hpm⟩ := hB.pn
          have K := K25b.out h255 Am cm _ hpm
          have k1 : IntKind.i64.wrap ((l.length : Int) - 1) = ((l.length - 1 : Nat) : Int) := by rw [i64_in _ (by omega)]; omega
          have k2 : ((l.length : Int) - 1) = ((l.length - 1 : Nat) : Int) := by omega
          have hlm : (ahead :: l.map shift).length = l.length + 1 := by rw [List.length_cons, List.length_map]
          rw [hlm]
          clear hB hpm hlm
          go_upto_region 27 with (go_at_call 25; (with_reducible refine (K).mono ?_); rintro e w5 ⟨r1, s1, rfl, hz1, hb5⟩)
          have hd5 := hd.trans (hb5.mono hd.size)
          obtain ⟨b, o, r, q, rfl, c0, hc⟩ := hcell2.out (l.length - 1) w5 (by omega) hd5
          have hz := hz1.trans hc.symm
          have K26 := alike_any r1 s1 r q (Prod.mk.inj hz).1 (Prod.mk.inj hz).2
          clear hz hz1 hc K hb5
          have hm1 : l.length - 1 < l.length := by omega
          go_wp2_with (go_at_call 26; (with_reducible refine (K26 _).mono ?_); rintro e w9 ⟨rfl, rfl⟩)
          go_ret
          exact ⟨rfl, hbW.out.trans (hd5.mono hbW.out.size)⟩
        have hlt : k < l.length := by omega
        obtain ⟨b, o, Ai, ci, e, hbl, c0, c1, c2, hI, hci⟩ := (hPL.out _ hd).2 k hlt
        cases e
        have hofk := hof.out k hlt
        have htk : Hid (l.take (k + 1) = l.take k ++ [l[k]]) := Lib.hid (List.take_succ_eq_append_getElem hlt)
        generalize l[k] = p at *
        rw [Nat.zero_add] at c0 c1 c2
        have hbs : Hid (wL.heap.size ≤ wo.heap.size) := Lib.hid hd.size
        have hst : ∀ (p : Addr) (v : Nat) (W : World), (store p (.float .f64 v)).run Try.prog W = stored Try.prog W p (.float .f64 v) .plain := fun p v W => run_store Try.prog W p _ _ rfl
        go_upto_region 20 with fail
        go_region
        go_upto_region 21 with fail
        refine wp_world ?_
        intro w20 hX
        have hbox0 : w20.heap[wo.heap.size]? = some (.cells #[.int .u8 p.kind, .float .f64 p.x, .slice none 0 0] 47) := by rw [hX]; exact heap_alloc_at _ _
        have hd20 : Below wo.heap.size wo w20 := by rw [hX]; exact (below_al (Below.refl _ _) _).drew
        clear hX
        go_wp2
        go_loopw [15] (fun s15 wr => ∃ (j : Nat) (vj : Value), j ≤ p.of.length ∧ s15 = .int .i64 j ∧ wr.heap[wo.heap.size]? = some (.cells #[.int .u8 p.kind, .float .f64 p.x, vj] 47) ∧ Own wr (wo.heap.size + 1) 3 1 (((p.of.take j).map (· + 1)).map irow) vj ∧ Below wo.heap.size wo wr) (fun v _ => p.of.length - (intOf v).toNat)
        case atStart => exact ⟨0, .slice none 0 0, by omega, rfl, hbox0, Own.nil _ _ _ _, hd20⟩
        case round =>
          clear hbox0 hd20
          obtain ⟨j, vj, hj, rfl, hbox, hoj, hdj⟩ := hrel
          obtain ⟨wi, rfl⟩ : ∃ x : World, x = wr := ⟨_, rfl⟩
          have d0 := (hdj.cell hbl).trans c0
          have d1 := (hdj.cell hbl).trans c1
          have d2 := (hdj.cell hbl).trans c2
          have x0 : wi.cell? ⟨wo.heap.size, 0, none⟩ = some (.int .u8 p.kind) := cell_of_row _ _ 0 _ 47 (0, 0) hbox
          have x1 : wi.cell? ⟨wo.heap.size, 1, none⟩ = some (.float .f64 p.x) := cell_of_row _ _ 1 _ 47 (0, 0) hbox
          have x2 : wi.cell? ⟨wo.heap.size, 2, none⟩ = some vj := cell_of_row _ _ 2 _ 47 (0, 0) hbox
          have hIj := hI.below hdj
          by_cases hjl : j = p.of.length
          · subst hjl
            obtain ⟨Aj, cj, rfl, hsj⟩ := hoj.sl
            have hbj := hoj.lt
            rw [List.take_length] at hoj hsj hbj x2 hbox
            have hlj : ((p.of.map (· + 1)).map irow).length = p.of.length := by rw [List.length_map, List.length_map]
            rw [hlj] at hoj hsj hbj x2 hbox
            have hcj : p.of.length ≤ cj := by
              rcases Nat.eq_zero_or_pos p.of.length with z | z
              · omega
              · obtain ⟨g', c', e', _, _, h3⟩ := hoj.form (by omega)
                obtain ⟨_, _, rfl⟩ := Value.slice.inj e'
                omega
            have hpr : prt (fun b => wo.heap.size ≤ b) wi (shift p) [.int .u8 p.kind, .float .f64 p.x, .slice Aj p.of.length cj] := ⟨Aj, cj, by show _ = [_, _, Value.slice Aj (p.of.map (· + 1)).length cj]; rw [List.length_map]; rfl, hsj.mono fun b hb => Nat.le_of_succ_le (hbj b hb).1, by show (p.of.map (· + 1)).length ≤ cj; rw [List.length_map]; exact hcj⟩
            have hrl : Hid (rs.length = k + 1) := Lib.hid (by rw [hB.2.1, List.length_cons, List.length_map, List.length_take]; omega)
            have hkeep : Own wi wL.heap.size 47 3 rs u12 := hB.1.below hdj
            have hsz : Hid (wo.heap.size ≤ wi.heap.size) := Lib.hid hdj.size
            clear hoj hsj hIj hbj hbox
            go_wp2_with (at_builtin; refine wpList_push_at el41 rfl _ _ rfl rfl (hkeep.alloc _) [.int .u8 p.kind, .float .f64 p.x, .slice Aj p.of.length cj] wi.heap.size 47 rfl (heap_alloc_at _ _) rfl (by simp [Value.oneCell']) (by rw [hrl.out]; omega) (by rw [size_al]; have := hsz.out; have := hbs.out; omega) ?_; intro v' w3 ho3 hb3 hs3 hn3 hg3 hat3)
            go_roundw
            case rel => exact ⟨k + 1, rs ++ [[.int .u8 p.kind, .float .f64 p.x, .slice Aj p.of.length cj]], by omega, by go_num, by
              rw [htk.out, List.map_append]
              exact hB.push hdj hpr (below_al (Below.refl _ _) _) ho3 hg3 hat3, (hd.trans ((hdj.alloc hdj.size _).mono hbs.out)).trans hb3⟩
            case measure => simp [intOf]; omega
          have hjlt : j < p.of.length := by omega
          obtain ⟨bi, oi, e, hbi, di⟩ := hIj.at_ hjlt
          cases e
          have hx0 := (hofk.2 _ (List.getElem_mem hjlt)).1
          have hx1 := (hofk.2 _ (List.getElem_mem hjlt)).2
          have hjk : Hid (p.of.take (j + 1) = p.of.take j ++ [p.of[j]]) := Lib.hid (List.take_succ_eq_append_getElem hjlt)
          generalize p.of[j] = x at *
          have hwx : IntKind.i64.wrap (x + 1) = x + 1 := i64_in _ (by omega)
          have hlj : Hid ((((p.of.take j).map (· + 1)).map irow).length = j) := Lib.hid (by rw [List.length_map, List.length_map, List.length_take]; omega)
          have hj64 : j < 64 := by have := hofk.1; omega
          have hwlt : Hid (wo.heap.size + 1 ≤ wi.heap.size) := Lib.hid (heap_lt hbox)
          have hboxk := Lib.hid hbox
          have hwl : wo.heap.size < wi.heap.size := heap_lt hbox
          clear c0 c1 c2 hbox
          go_upto_region 24 with fail
          go_region_law (first
            | (refine step_push_at el45 rfl (.tmp 99) (.tmp 109) rfl rfl ((hoj.drawn ((Drawn.refl _).drew)).alloc _) (irow (x + 1)) wi.heap.size 3 rfl (heap_alloc_at wi _) rfl (by simp [irow, Value.oneCell']) (by rw [hlj.out]; omega) ?hb (fun v' w3 ho3 hb3 hg3 hat3 => ?_); (case hb => (have q := size_al wi (.cells (irow (x + 1)).toArray 3); have := hwlt.out; (show _ ≤ (wi.alloc (.cells (irow (x + 1)).toArray 3)).heap.size); omega)); have hbx := boxed_push hboxk.out hwlt.out hb3; obtain ⟨g3, cap3, rfl, hg3a, hg3b⟩ := own_form ho3; have y2 : w3.cell? ⟨wo.heap.size, 2, none⟩ = some vj := cell_of_row _ _ 2 _ 47 (0, 0) hbx; have yf : w3.frozen? ⟨wo.heap.size, 2, none⟩ = false := frozen_row hbx 2))
          all_goals go_wp2
          all_goals go_roundw
          all_goals first
            | exact ⟨j + 1, .slice (some ⟨g3, 0, none⟩) (j + 1) cap3, by omega, by go_num, heap_set hbx 2 _, by
                rw [hjk.out, List.map_append, List.map_append]
                rw [hlj.out] at ho3
                exact ho3.keep fun q hq => Below.heap_setCell w3 _ _ q (fun e => by have e2 : some g3 = some q := hq; have e3 := Option.some.inj e2; have e4 : q = wo.heap.size := e; omega),
                (hdj.trans (((below_al (Below.refl _ _) _).drew.mono (Nat.le_of_lt hwl)).trans (hb3.mono (Nat.le_succ _)))).setCell (Nat.le_refl _) _⟩
            | (simp [intOf]; omega)
    have hlt : k < l.length := by omega
    have hkc : k + 1 ≤ cap := by omega
    have K := K25.out k hlt _ cap _ ((hP.pn.below hd).take (k + 1))
    go_upto_region 12 with (go_at_call 25; (with_reducible refine (K).mono ?_); rintro e w5 ⟨r1, s1, rfl, hz1, hb5⟩)
    have hd5 := hd.trans (hb5.mono hd.size)
    obtain ⟨b, o, r, q, rfl, c0, hc⟩ := hcell.out k w5 hlt hd5
    have hz := hz1.trans hc.symm
    have K26 := alike_any r1 s1 r q (Prod.mk.inj hz).1 (Prod.mk.inj hz).2
    have hlt0 : (FloatKind.f64.format.order r1 0 == some .lt) = false := not_lt (by
      have := hNG.out k hlt
      rw [← hz1] at this
      exact this)
    clear hz hz1 hc K hb5
    go_wp2_with (go_at_call 26; (with_reducible refine (K26 _).mono ?_); rintro e w9 ⟨rfl, rfl⟩)
    go_roundw
    case rel => exact ⟨k + 1, by omega, by go_num, hd5⟩
    case measure => simp [intOf]; omega
theorem passive_walk (l : List Part) (A : Option Addr) (c : Nat) (y : Int) (w : World) (h : Pcs w A l) (hL : Little l) :
    Calls Try.prog 5 #[.slice A l.length c, .int .u64 y] w fun e w' => e = .returned (.bool true) ∧ Below w.heap.size w w' := by
  by_cases he : Good l ∧ isRate (cls y.toNat) = true
  · exact passive_good l A c y w h hL he.1 he.2
  · exact passive_bad l A c y w h hL he
end Go.Proofs.Ytfmjmjppkdaanaa
