/- Net: the reference's Each, walked. -/
import Derived.Test.YtfmjmjppkdaanaaEach
import Derived.Deep.CutRange
namespace Go.Proofs.Ytfmjmjppkdaanaa
open Go.RowKit Go.BigFrame flt Ieee

theorem wp_world {P : Program} {c : Code} {Q : Exit → Act → World → Prop} {a : Act} {W : World} (h : ∀ wX, wX = W → c.wp P Q a wX) : c.wp P Q a W := h _ rfl
theorem below_st {B g o : Nat} {w w' : World} (h : Below B w w') (hg : B ≤ g) (v : Value) : Below B w (w'.setCell ⟨g, o, none⟩ v) := h.setCell hg v
theorem heap_dn {w : World} {n g : Nat} {x : Option Obj} (h : w.heap[g]? = x) : (w.drewN n).heap[g]? = x := h
theorem el26 : Elt Try.prog 67 26 2 16 := Elt.of (z := .agg #[.float .f64 0, .float .f64 0]) Try.underlying67 (by kernel_rfl) rfl (by decide) (by decide)
set_option maxHeartbeats 4000000 in
set_option maxRecDepth 100000 in
theorem reach_any (l : List Part) (hg : Good l) (A : Option Addr) (c : Nat) (y : Nat) (w : World) (h : Pn w A l) :
    Calls Try.prog 42 #[.slice A l.length c, .float .f64 y] w fun e w' => ∃ (v : Value) (rs : List (Nat × Nat)), e = .returned v ∧ rs.map clsc = zsn (cls y) l l.length ∧ Own w' w.heap.size 26 2 (rs.map prow) v ∧ Below w.heap.size w w' := by
  have hlen := h.1
  have hG2 := hg.2.1
  have hst : ∀ (p : Addr) (v : Nat) (W : World), (store p (.float .f64 v)).run Try.prog W = stored Try.prog W p (.float .f64 v) .plain := fun p v W => run_store Try.prog W p _ _ rfl
  obtain ⟨FM, GM, hm, cm⟩ := veil (op := .mul) (Or.inr (Or.inr (Or.inl rfl))) 23
  obtain ⟨FQ, GQ, hq, cq⟩ := veil (op := .quo) (Or.inr (Or.inr (Or.inr rfl))) 23
  obtain ⟨FS, GS, hs, cs⟩ := veil (op := .sub) (Or.inr (Or.inl rfl)) 23
  obtain ⟨FA, GA, ha, cA⟩ := veil (op := .add) (Or.inl rfl) 23
  replace cm := Lib.hid cm
  replace cq := Lib.hid cq
  replace cs := Lib.hid cs
  replace cA := Lib.hid cA
  have hq1 := hq 4607182418800017408
  have hs0 := hs 0
  have z0 := Lib.hid (cls_nn nn_zero)
  have z1 := Lib.hid cls_one
  generalize hn : w.heap.size = n at *
  have hn' : Hid (w.heap.size = n) := Lib.hid hn
  have ho0 : Own w n 26 2 (([] : List (Nat × Nat)).map prow) (.slice none 0 0) := Own.nil _ _ _ _
  clear hn
  go_enter Try.func42, Try.ntmps42
  go_wp2
  go_loopw [5, 6] (fun s5 s6 wr => ∃ (k : Nat) (rs : List (Nat × Nat)), k ≤ l.length ∧ s6 = .int .i64 k ∧ rs.map clsc = zsn (cls y) l k ∧ Own wr n 26 2 (rs.map prow) s5 ∧ Below n w wr) (fun _ s6 _ => l.length - (intOf s6).toNat)
  case atStart => exact ⟨0, [], by omega, rfl, rfl, ho0, Below.refl _ _⟩
  case round =>
    obtain ⟨k, rs, hk, rfl, hrs, ho, hd⟩ := hrel
    obtain ⟨wo, rfl⟩ : ∃ wo : World, wo = wr := ⟨_, rfl⟩
    replace hrs := Lib.hid hrs
    by_cases hkl : k = l.length
    · subst hkl
      clear h
      go_wp2
      go_ret
      exact ⟨_, rs, rfl, hrs.out, ho, hd⟩
    have hlt : k < l.length := by omega
    have hrl : rs.length = k := by rw [← List.length_map (f := clsc), hrs.out, zsn_len]
    obtain ⟨Av, cv, rfl, hcs⟩ := Ps.of_own ho
    rw [hrs.out] at hcs
    rw [hrl] at ho
    have hgo := hg.of hlt
    have himp : ∀ (r s : Nat) (z : Cx), z = imp (cls y) (l[k]'hlt) (zsn (cls y) l k) → (cls r, cls s) = z → Hid ((rs ++ [(r, s)]).map clsc = zsn (cls y) l (k + 1)) := fun r s z e e2 => Lib.hid (zsn_one hlt e hrs.out e2)
    have hzl := zsn_len (cls y) l k
    generalize hzz : zsn (cls y) l k = zs at *
    obtain ⟨b, o, Ai, ci, rfl, hbl, c0, c1, c2, hI, hci⟩ := (h.below (hn'.out ▸ hd)).2 k hlt
    generalize hp : l[k] = p at *
    obtain ⟨kd, x, of⟩ := p
    simp only at c0 c1 c2 hI hci hgo himp
    rw [hrl]
    have hnw : n ≤ wo.heap.size := by have := hd.size; rw [hn'.out] at this; exact this
    have hbytes : Hid (((rs.map prow).length + 1) * 16 ≤ 140737488355328) := Lib.hid (by rw [List.length_map, hrl]; omega)
    have hbox : ∀ w1, Below wo.heap.size wo w1 → Own w1 n 26 2 (rs.map prow) (.slice Av k cv) := fun w1 hb => ho.below hb
    clear h hp hrs hzz hg ho
    replace hrl := Lib.hid hrl
    rcases hgo with (rfl | rfl | rfl) | ⟨rfl | rfl, h0, h64, hof⟩
    · have hz1 := fun r s => himp r s (cls x, some 0) rfl
      clear himp
      go_upto_region 32 with fail
      refine wp_world ?_
      intro wX hX
      have hbX : Below wo.heap.size wo wX := by rw [hX]; exact below_al (below_al (Below.refl _ _) _) _
      have hbx : wX.heap[wo.heap.size + 1]? = some (.cells #[.float .f64 x, .float .f64 0] 26) := by rw [hX]; exact heap_alloc_at' _ _ _ (by rw [size_al])
      clear hX
      have p0 : wX.cell? ⟨wo.heap.size + 1, 0, none⟩ = some (.float .f64 x) := cell_of_row _ _ 0 _ 26 (0, 0) hbx
      have p1 : wX.cell? ⟨wo.heap.size + 1, 1, none⟩ = some (.float .f64 0) := cell_of_row _ _ 1 _ 26 (0, 0) hbx
      have hl1 : Hid (wo.heap.size + 1 < wX.heap.size) := Lib.hid (heap_lt hbx)
      clear hbx
      go_wp2_with (at_builtin; refine wpList_push el26 rfl _ _ rfl rfl (hbox _ (below_al hbX _)) [.float .f64 x, .float .f64 0] wX.heap.size 26 rfl (heap_alloc_at _ _) rfl (by simp [Value.oneCell']) hbytes.out (by rw [size_al]; have := hl1.out; omega) ?_; intro v' w3 ho4 hb4 hs4 hn4 hg4; clear hs4 hn4 hg4)
      go_roundw
      case rel => exact ⟨k + 1, rs ++ [(x, 0)], by omega, by go_num, (hz1 _ _ (by rw [z0.out])).out, by rw [List.map_append]; exact ho4, hd.trans (((below_al hbX _).mono hnw).trans hb4)⟩
      case measure => simp [intOf]; omega
    · have hz1 := fun r s => himp r s (some 0, op2 .mul (cls y) (cls x)) rfl
      clear himp
      go_upto_region 32 with fail
      refine wp_world ?_
      intro wX hX
      have hbX : Below wo.heap.size wo wX := by rw [hX]; exact Below.setCell (below_drewN' (below_al (below_al (Below.refl _ _) _) _) _) (Nat.le_succ _) _
      obtain ⟨r, hr, hbx⟩ : ∃ r, cls r = op2 .mul (cls y) (cls x) ∧ wX.heap[wo.heap.size + 1]? = some (.cells #[.float .f64 0, .float .f64 r] 26) := ⟨_, cm.out y x _, by rw [hX]; exact heap_set (heap_dn (heap_alloc_at' _ _ _ (by rw [size_al]))) 1 _⟩
      replace hr := Lib.hid hr
      clear hX
      have p0 : wX.cell? ⟨wo.heap.size + 1, 0, none⟩ = some (.float .f64 0) := cell_of_row _ _ 0 _ 26 (0, 0) hbx
      have p1 : wX.cell? ⟨wo.heap.size + 1, 1, none⟩ = some (.float .f64 r) := cell_of_row _ _ 1 _ 26 (0, 0) hbx
      have hl1 : Hid (wo.heap.size + 1 < wX.heap.size) := Lib.hid (heap_lt hbx)
      clear hbx
      go_wp2_with (at_builtin; refine wpList_push el26 rfl _ _ rfl rfl (hbox _ (below_al hbX _)) [.float .f64 0, .float .f64 r] wX.heap.size 26 rfl (heap_alloc_at _ _) rfl (by simp [Value.oneCell']) hbytes.out (by rw [size_al]; have := hl1.out; omega) ?_; intro v' w3 ho4 hb4 hs4 hn4 hg4; clear hs4 hn4 hg4)
      go_roundw
      case rel => exact ⟨k + 1, rs ++ [(0, r)], by omega, by go_num, (hz1 _ _ (by rw [z0.out, hr.out])).out, by rw [List.map_append]; exact ho4, hd.trans (((below_al hbX _).mono hnw).trans hb4)⟩
      case measure => simp [intOf]; omega
    · have hz1 := fun r s => himp r s (some 0, op2 .sub (some 0) (op2 .quo (some one) (op2 .mul (cls y) (cls x)))) rfl
      clear himp
      go_upto_region 32 with fail
      refine wp_world ?_
      intro wX hX
      have hbX : Below wo.heap.size wo wX := by rw [hX]; exact Below.setCell (below_drewN' (below_al (below_al (Below.refl _ _) _) _) _) (Nat.le_succ _) _
      obtain ⟨r, hbx, hr⟩ : ∃ r, wX.heap[wo.heap.size + 1]? = some (.cells #[.float .f64 0, .float .f64 r] 26) ∧ cls r = op2 .sub (some 0) (op2 .quo (some one) (op2 .mul (cls y) (cls x))) := by
        rw [hX]
        refine ⟨_, heap_set (heap_dn (heap_alloc_at' _ _ _ (by rw [size_al]))) 1 _, ?_⟩
        rw [cs.out, cq.out, cm.out, z0.out, z1.out]
        rfl
      replace hr := Lib.hid hr
      clear hX
      have p0 : wX.cell? ⟨wo.heap.size + 1, 0, none⟩ = some (.float .f64 0) := cell_of_row _ _ 0 _ 26 (0, 0) hbx
      have p1 : wX.cell? ⟨wo.heap.size + 1, 1, none⟩ = some (.float .f64 r) := cell_of_row _ _ 1 _ 26 (0, 0) hbx
      have hl1 : Hid (wo.heap.size + 1 < wX.heap.size) := Lib.hid (heap_lt hbx)
      clear hbx
      go_wp2_with (at_builtin; refine wpList_push el26 rfl _ _ rfl rfl (hbox _ (below_al hbX _)) [.float .f64 0, .float .f64 r] wX.heap.size 26 rfl (heap_alloc_at _ _) rfl (by simp [Value.oneCell']) hbytes.out (by rw [size_al]; have := hl1.out; omega) ?_; intro v' w3 ho4 hb4 hs4 hn4 hg4; clear hs4 hn4 hg4)
      go_roundw
      case rel => exact ⟨k + 1, rs ++ [(0, r)], by omega, by go_num, (hz1 _ _ (by rw [z0.out, hr.out])).out, by rw [List.map_append]; exact ho4, hd.trans (((below_al hbX _).mono hnw).trans hb4)⟩
      case measure => simp [intOf]; omega
    · have hz1 := fun r s => himp r s (sumc id zs of) rfl
      clear himp
      have pick : ∀ j (h : j < of.length) (W : World), Below wo.heap.size wo W → ∃ bi oi bo oo r s, Ai = some ⟨bi, oi, none⟩ ∧ bi < wo.heap.size ∧ W.cell? ⟨bi, oi + j, none⟩ = some (.int .i64 of[j]) ∧ Av = some ⟨bo, oo, none⟩ ∧ bo < wo.heap.size ∧ W.cell? ⟨bo, oo + of[j].toNat * 2, none⟩ = some (.float .f64 r) ∧ W.cell? ⟨bo, oo + of[j].toNat * 2 + 1, none⟩ = some (.float .f64 s) ∧ (cls r, cls s) = pickc zs (of.getD j 0) := by
        intro j hj W hW
        obtain ⟨bi, oi, eb, hbi, d1⟩ := hI.at_ hj
        have hb := hof j hj
        obtain ⟨bo, oo, r, s, ea, hbo, d2, d3, hc⟩ := hcs.2 of[j].toNat (by omega)
        refine ⟨bi, oi, bo, oo, r, s, eb, hbi, (hW.cell hbi).trans d1, ea, hbo, (hW.cell hbo).trans d2, (hW.cell hbo).trans d3, ?_⟩
        rw [hc]
        unfold pickc
        rw [List.getD_eq_getElem?_getD, List.getD_eq_getElem?_getD, List.getElem?_eq_getElem hj]
        show _ = (zs[of[j].toNat]?).getD _
        rw [List.getElem?_eq_getElem (by omega)]
        rfl
      obtain ⟨bi, oi, bo, oo, r0, s0, rfl, hbi, d1, rfl, hbo, d2, d3, hc0⟩ := pick 0 h0 wo (Below.refl _ _)
      have hb0 := hof 0 h0
      rw [Nat.add_zero] at d1
      replace hc0 := Lib.hid hc0
      have hpick : Hid (∀ j (h : j < of.length) (W : World), Below wo.heap.size wo W → ∃ r s, W.cell? ⟨bi, oi + j, none⟩ = some (.int .i64 of[j]) ∧ W.cell? ⟨bo, oo + of[j].toNat * 2, none⟩ = some (.float .f64 r) ∧ W.cell? ⟨bo, oo + of[j].toNat * 2 + 1, none⟩ = some (.float .f64 s) ∧ (cls r, cls s) = pickc zs (of.getD j 0)) := Lib.hid (fun j hj W hW => by
        obtain ⟨b1, o1, b2, o2, r', s', eb, _, e1, ea, _, e2, e3, h⟩ := pick j hj W hW
        cases eb; cases ea
        exact ⟨r', s', e1, e2, e3, h⟩)
      replace hof := Lib.hid hof
      clear pick hI hcs
      generalize ey : of[0] = y0 at *
      replace ey := Lib.hid ey
      go_upto_region 18 with fail
      refine wp_world ?_
      intro wX hX
      have hbX : Below wo.heap.size wo wX := by rw [hX]; exact below_al (below_al (Below.refl _ _) _) _
      have hbx : wX.heap[wo.heap.size + 1]? = some (.cells #[.float .f64 r0, .float .f64 s0] 26) := by rw [hX]; exact heap_alloc_at' _ _ _ (by rw [size_al])
      have hpb : wX.heap[wo.heap.size]? = some (.cells #[.int .u8 4, .float .f64 x, .slice (some ⟨bi, oi, none⟩) of.length ci] 47) := by rw [hX]; exact heap_alloc (heap_alloc_at _ _)
      clear hX d1 d2 d3 c0 c1 c2
      go_wp2
      go_loopw [11] (fun s11 wr => ∃ (j : Nat) (r s : Nat), j < of.length ∧ s11 = .int .i64 ((j + 1 : Nat) : Int) ∧ wr.heap[wo.heap.size + 1]? = some (.cells #[.float .f64 r, .float .f64 s] 26) ∧ (cls r, cls s) = accn id zs of j ∧ Below (wo.heap.size + 1) wX wr) (fun s11 _ => of.length + 1 - (intOf s11).toNat)
      case atStart => exact ⟨0, r0, s0, h0, rfl, hbx, hc0.out, Below.refl _ _⟩
      case round =>
        obtain ⟨j, r, s, hj, rfl, hbi2, hcj, hdi⟩ := hrel
        replace hcj := Lib.hid hcj
        have hbI : Below wo.heap.size wo wr := hbX.trans (hdi.mono (Nat.le_succ _))
        have q2 : wr.cell? ⟨wo.heap.size, 2, none⟩ = some (.slice (some ⟨bi, oi, none⟩) of.length ci) := cell_of_row _ _ 2 _ 47 (0, 0) ((hdi.block _ (Nat.lt_succ_self _)).trans hpb)
        by_cases hjl : j + 1 = of.length
        · go_upto_region 32 with fail
          have p0 : wr.cell? ⟨wo.heap.size + 1, 0, none⟩ = some (.float .f64 r) := cell_of_row _ _ 0 _ 26 (0, 0) hbi2
          have p1 : wr.cell? ⟨wo.heap.size + 1, 1, none⟩ = some (.float .f64 s) := cell_of_row _ _ 1 _ 26 (0, 0) hbi2
          have hl1 : Hid (wo.heap.size + 1 < wr.heap.size) := Lib.hid (heap_lt hbi2)
          clear hbi2
          go_wp2_with (at_builtin; refine wpList_push el26 rfl _ _ rfl rfl (hbox _ (below_al hbI _)) [.float .f64 r, .float .f64 s] wr.heap.size 26 rfl (heap_alloc_at _ _) rfl (by simp [Value.oneCell']) hbytes.out (by rw [size_al]; have := hl1.out; omega) ?_; intro v' w3 ho4 hb4 hs4 hn4 hg4; clear hs4 hn4 hg4)
          go_roundw
          case rel => exact ⟨k + 1, rs ++ [(r, s)], by omega, by go_num, (hz1 _ _ (by rw [hcj.out]; unfold sumc; rw [← hjl]; rfl)).out, by rw [List.map_append]; exact ho4, hd.trans (((below_al hbI _).mono hnw).trans hb4)⟩
          case measure => simp [intOf]; omega
        have hjt : j + 1 < of.length := by omega
        obtain ⟨r3, s3, e1, e2, e3, hc3⟩ := hpick.out (j + 1) hjt wr hbI
        have hb3 := hof.out (j + 1) hjt
        generalize ey3 : of[j + 1] = y3 at *
        replace ey3 := Lib.hid ey3
        have p0 : wr.cell? ⟨wo.heap.size + 1, 0, none⟩ = some (.float .f64 r) := cell_of_row _ _ 0 _ 26 (0, 0) hbi2
        have p1 : wr.cell? ⟨wo.heap.size + 1, 1, none⟩ = some (.float .f64 s) := cell_of_row _ _ 1 _ 26 (0, 0) hbi2
        have f0 : wr.frozen? ⟨wo.heap.size + 1, 0, none⟩ = false := frozen_row hbi2 0
        go_upto_region 21 with fail
        go_cut [] from 58 to 90 (fun wx => ∃ r', wx.heap[wo.heap.size + 1]? = some (.cells #[.float .f64 r', .float .f64 s] 26) ∧ cls r' = op2 .add (cls r) (cls r3) ∧ Below (wo.heap.size + 1) wr wx)
        case first =>
          go_region
          all_goals go_wp2
          all_goals go_meet
          all_goals (case rel => exact ⟨_, heap_set (heap_dn hbi2) 0 _, cA.out _ _ _, below_st (below_drewN' (Below.refl _ _) _) (Nat.le_refl _) _⟩)
        case rest =>
          obtain ⟨r4, hbi4, hr4, hd4⟩ := hcut
          obtain ⟨wY, rfl⟩ : ∃ x : World, x = wc := ⟨_, rfl⟩
          replace hr4 := Lib.hid hr4
          have e1' := (hd4.cell (p := ⟨bi, oi + (j + 1), none⟩) (Nat.lt_succ_of_lt hbi)).trans e1
          have e2' := (hd4.cell (p := ⟨bo, oo + y3.toNat * 2, none⟩) (Nat.lt_succ_of_lt hbo)).trans e2
          have e3' := (hd4.cell (p := ⟨bo, oo + y3.toNat * 2 + 1, none⟩) (Nat.lt_succ_of_lt hbo)).trans e3
          have q2' := (hd4.cell (p := ⟨wo.heap.size, 2, none⟩) (Nat.lt_succ_self _)).trans q2
          have p0' : wY.cell? ⟨wo.heap.size + 1, 0, none⟩ = some (.float .f64 r4) := cell_of_row _ _ 0 _ 26 (0, 0) hbi4
          have p1' : wY.cell? ⟨wo.heap.size + 1, 1, none⟩ = some (.float .f64 s) := cell_of_row _ _ 1 _ 26 (0, 0) hbi4
          have f0' : wY.frozen? ⟨wo.heap.size + 1, 1, none⟩ = false := frozen_row hbi4 1
          have hdY := hdi.trans hd4
          clear e1 e2 e3 q2 p0 p1 f0 hbi2 hd4 hdi
          go_upto_region 22 with fail
          go_region
          all_goals go_wp2
          all_goals go_roundw
          case rel => exact ⟨j + 1, r4, _, hjt, by go_num, heap_set (heap_dn hbi4) 1 _, by (show _ = addc (accn id zs of j) (pickc zs (of.getD (j + 1) 0)); rw [← hcj.out, ← hc3, hr4.out, cA.out]; rfl), below_st (below_drewN' hdY _) (Nat.le_refl _) _⟩
          case measure => simp [intOf]; omega
    · have hz1 := fun r s => himp r s (turnc (sumc turnc zs of)) rfl
      clear himp
      have T := rturn_any
      have pick : ∀ j (h : j < of.length) (W : World), Below wo.heap.size wo W → ∃ bi oi bo oo r s, Ai = some ⟨bi, oi, none⟩ ∧ bi < wo.heap.size ∧ W.cell? ⟨bi, oi + j, none⟩ = some (.int .i64 of[j]) ∧ Av = some ⟨bo, oo, none⟩ ∧ bo < wo.heap.size ∧ W.cell? ⟨bo, oo + of[j].toNat * 2, none⟩ = some (.float .f64 r) ∧ W.cell? ⟨bo, oo + of[j].toNat * 2 + 1, none⟩ = some (.float .f64 s) ∧ (cls r, cls s) = pickc zs (of.getD j 0) := by
        intro j hj W hW
        obtain ⟨bi, oi, eb, hbi, d1⟩ := hI.at_ hj
        have hb := hof j hj
        obtain ⟨bo, oo, r, s, ea, hbo, d2, d3, hc⟩ := hcs.2 of[j].toNat (by omega)
        refine ⟨bi, oi, bo, oo, r, s, eb, hbi, (hW.cell hbi).trans d1, ea, hbo, (hW.cell hbo).trans d2, (hW.cell hbo).trans d3, ?_⟩
        rw [hc]
        unfold pickc
        rw [List.getD_eq_getElem?_getD, List.getD_eq_getElem?_getD, List.getElem?_eq_getElem hj]
        show _ = (zs[of[j].toNat]?).getD _
        rw [List.getElem?_eq_getElem (by omega)]
        rfl
      obtain ⟨bi, oi, bo, oo, r0, s0, rfl, hbi, d1, rfl, hbo, d2, d3, hc0⟩ := pick 0 h0 wo (Below.refl _ _)
      have hb0 := hof 0 h0
      rw [Nat.add_zero] at d1
      replace hc0 := Lib.hid hc0
      have hpick : Hid (∀ j (h : j < of.length) (W : World), Below wo.heap.size wo W → ∃ r s, W.cell? ⟨bi, oi + j, none⟩ = some (.int .i64 of[j]) ∧ W.cell? ⟨bo, oo + of[j].toNat * 2, none⟩ = some (.float .f64 r) ∧ W.cell? ⟨bo, oo + of[j].toNat * 2 + 1, none⟩ = some (.float .f64 s) ∧ (cls r, cls s) = pickc zs (of.getD j 0)) := Lib.hid (fun j hj W hW => by
        obtain ⟨b1, o1, b2, o2, r', s', eb, _, e1, ea, _, e2, e3, h⟩ := pick j hj W hW
        cases eb; cases ea
        exact ⟨r', s', e1, e2, e3, h⟩)
      replace hof := Lib.hid hof
      clear pick hI hcs
      generalize ey : of[0] = y0 at *
      replace ey := Lib.hid ey
      go_upto_region 24 with fail
      refine wp_world ?_
      intro wX hX
      have hbX : Below wo.heap.size wo wX := by rw [hX]; exact below_al (below_al (Below.refl _ _) _) _
      have hbx : wX.heap[wo.heap.size + 1]? = some (.cells #[.float .f64 0, .float .f64 0] 26) := by rw [hX]; exact heap_alloc_at' _ _ _ (by rw [size_al])
      have hpb : wX.heap[wo.heap.size]? = some (.cells #[.int .u8 5, .float .f64 x, .slice (some ⟨bi, oi, none⟩) of.length ci] 47) := by rw [hX]; exact heap_alloc (heap_alloc_at _ _)
      have q2 : wX.cell? ⟨wo.heap.size, 2, none⟩ = some (.slice (some ⟨bi, oi, none⟩) of.length ci) := cell_of_row _ _ 2 _ 47 (0, 0) hpb
      have d1' := (hbX.cell (p := ⟨bi, oi, none⟩) hbi).trans d1
      have d2' := (hbX.cell (p := ⟨bo, oo + y0.toNat * 2, none⟩) hbo).trans d2
      have d3' := (hbX.cell (p := ⟨bo, oo + y0.toNat * 2 + 1, none⟩) hbo).trans d3
      clear hX d1 d2 d3 c0 c1 c2
      go_upto_region 25 with (first | (go_at_call 17; (with_reducible refine (T _ _ _).mono ?_); rintro e w1 ⟨r1, s1, rfl, hr1, hb1⟩; replace hr1 := Lib.hid hr1; have r3 := (hb1.block (wo.heap.size + 1) (heap_lt hbx)).trans hbx) | (refine wpList_store_row rfl 26 _ _ rfl (wo.heap.size + 1) _ rfl rfl 26 _ r3 (by kernel_rfl) (by kernel_rfl) (by kernel_rfl) ?_))
      refine wp_world ?_
      intro wZ hZ
      have hsX : Hid (wo.heap.size + 1 < wX.heap.size) := Lib.hid (heap_lt hbx)
      have hbz : wZ.heap[wo.heap.size + 1]? = some (.cells #[.float .f64 r1, .float .f64 s1] 26) := by rw [hZ]; exact setRow_heap _ _ _ _ _ _ r3
      have hdZ : Below (wo.heap.size + 1) wX wZ := by rw [hZ]; exact below_setRow (hb1.mono (Nat.le_of_lt hsX.out)) (Nat.le_refl _) _
      have hcz : Hid ((cls r1, cls s1) = accn turnc zs of 0) := Lib.hid (by show _ = turnc (pickc zs (of.getD 0 0)); rw [← hc0.out, hr1.out.1, hr1.out.2]; rfl)
      clear hZ hbx r3 hb1 hr1 d1' d2' d3' q2
      go_wp2
      go_loopw [12] (fun s12 wr => ∃ (j : Nat) (r s : Nat), j < of.length ∧ s12 = .int .i64 ((j + 1 : Nat) : Int) ∧ wr.heap[wo.heap.size + 1]? = some (.cells #[.float .f64 r, .float .f64 s] 26) ∧ (cls r, cls s) = accn turnc zs of j ∧ Below (wo.heap.size + 1) wX wr) (fun s12 _ => of.length + 1 - (intOf s12).toNat)
      case atStart => exact ⟨0, r1, s1, h0, rfl, hbz, hcz.out, hdZ⟩
      case round =>
        clear hdZ hbz hcz
        obtain ⟨j, r, s, hj, rfl, hbi2, hcj, hdi⟩ := hrel
        replace hcj := Lib.hid hcj
        have hbI : Below wo.heap.size wo wr := hbX.trans (hdi.mono (Nat.le_succ _))
        have q2 : wr.cell? ⟨wo.heap.size, 2, none⟩ = some (.slice (some ⟨bi, oi, none⟩) of.length ci) := cell_of_row _ _ 2 _ 47 (0, 0) ((hdi.block _ (Nat.lt_succ_self _)).trans hpb)
        have p0 : wr.cell? ⟨wo.heap.size + 1, 0, none⟩ = some (.float .f64 r) := cell_of_row _ _ 0 _ 26 (0, 0) hbi2
        have p1 : wr.cell? ⟨wo.heap.size + 1, 1, none⟩ = some (.float .f64 s) := cell_of_row _ _ 1 _ 26 (0, 0) hbi2
        have hsr : Hid (wo.heap.size + 1 < wr.heap.size) := Lib.hid (heap_lt hbi2)
        by_cases hjl : j + 1 = of.length
        · go_upto_region 32 with (first | (go_at_call 17; (with_reducible refine (T _ _ _).mono ?_); rintro e w1 ⟨r2, s2, rfl, hr2, hb2⟩; replace hr2 := Lib.hid hr2; have r3 := (hb2.block (wo.heap.size + 1) (heap_lt hbi2)).trans hbi2) | (refine wpList_store_row rfl 26 _ _ rfl (wo.heap.size + 1) _ rfl rfl 26 _ r3 (by kernel_rfl) (by kernel_rfl) (by kernel_rfl) ?_))
          refine wp_world ?_
          intro wE hE
          have hbe : wE.heap[wo.heap.size + 1]? = some (.cells #[.float .f64 r2, .float .f64 s2] 26) := by rw [hE]; exact setRow_heap _ _ _ _ _ _ r3
          have hbE : Below wo.heap.size wo wE := by rw [hE]; exact below_setRow (hbI.trans (hb2.mono hbI.size)) (Nat.le_succ _) _
          clear hE r3 p0 p1
          have p0 : wE.cell? ⟨wo.heap.size + 1, 0, none⟩ = some (.float .f64 r2) := cell_of_row _ _ 0 _ 26 (0, 0) hbe
          have p1 : wE.cell? ⟨wo.heap.size + 1, 1, none⟩ = some (.float .f64 s2) := cell_of_row _ _ 1 _ 26 (0, 0) hbe
          have hl1 : Hid (wo.heap.size + 1 < wE.heap.size) := Lib.hid (heap_lt hbe)
          clear hbe
          go_wp2_with (at_builtin; refine wpList_push el26 rfl _ _ rfl rfl (hbox _ (below_al hbE _)) [.float .f64 r2, .float .f64 s2] wE.heap.size 26 rfl (heap_alloc_at _ _) rfl (by simp [Value.oneCell']) hbytes.out (by rw [size_al]; have := hl1.out; omega) ?_; intro v' w3 ho4 hb4 hs4 hn4 hg4; clear hs4 hn4 hg4)
          go_roundw
          case rel => exact ⟨k + 1, rs ++ [(r2, s2)], by omega, by go_num, (hz1 _ _ (by show _ = turnc (accn turnc zs of (of.length - 1)); rw [show of.length - 1 = j by omega, ← hcj.out, hr2.out.1, hr2.out.2]; rfl)).out, by rw [List.map_append]; exact ho4, hd.trans (((below_al hbE _).mono hnw).trans hb4)⟩
          case measure => simp [intOf]; omega
        have hjt : j + 1 < of.length := by omega
        obtain ⟨r3, s3, e1, e2, e3, hc3⟩ := hpick.out (j + 1) hjt wr hbI
        have hb3 := hof.out (j + 1) hjt
        generalize ey3 : of[j + 1] = y3 at *
        replace ey3 := Lib.hid ey3
        replace hc3 := Lib.hid hc3
        go_upto_region 29 with (go_at_call 17; (with_reducible refine (T _ _ _).mono ?_); rintro e w1 ⟨r2, s2, rfl, hr2, hb2⟩; replace hr2 := Lib.hid hr2)
        refine wp_world ?_
        intro wY hY
        have hbY : wY.heap[wo.heap.size + 1]? = some (.cells #[.float .f64 r, .float .f64 s] 26) := by rw [hY]; exact heap_alloc ((hb2.block _ hsr.out).trans hbi2)
        have hyb : wY.heap[w1.heap.size]? = some (.cells #[.float .f64 r2, .float .f64 s2] 26) := by rw [hY]; exact heap_alloc_at _ _
        have hdY : Below (wo.heap.size + 1) wr wY := by rw [hY]; exact (below_al hb2 _).mono (Nat.le_of_lt hsr.out)
        have hne : Hid (w1.heap.size ≠ wo.heap.size + 1) := Lib.hid (by have := hb2.size; have := hsr.out; omega)
        clear hY hb2 p0 p1 q2 e1 e2 e3 hbi2
        generalize w1.heap.size = my at *
        have p0 : wY.cell? ⟨wo.heap.size + 1, 0, none⟩ = some (.float .f64 r) := cell_of_row _ _ 0 _ 26 (0, 0) hbY
        have y0' : wY.cell? ⟨my, 0, none⟩ = some (.float .f64 r2) := cell_of_row _ _ 0 _ 26 (0, 0) hyb
        have f0 : wY.frozen? ⟨wo.heap.size + 1, 0, none⟩ = false := frozen_row hbY 0
        go_upto_region 30 with fail
        refine wp_world ?_
        intro wU hU
        obtain ⟨r4, hbU, hr4⟩ : ∃ r4, wU.heap[wo.heap.size + 1]? = some (.cells #[.float .f64 r4, .float .f64 s] 26) ∧ cls r4 = op2 .add (cls r) (cls r2) := by
          rw [hU]
          exact ⟨_, heap_set (heap_dn hbY) 0 _, cA.out _ _ _⟩
        have hyU : wU.heap[my]? = some (.cells #[.float .f64 r2, .float .f64 s2] 26) := by rw [hU]; exact heap_set_far (heap_dn hyb) hne.out _
        have hdU : Below (wo.heap.size + 1) wX wU := by rw [hU]; exact below_st (below_drewN' (hdi.trans hdY) _) (Nat.le_refl _) _
        replace hr4 := Lib.hid hr4
        clear hU p0 y0' f0 hbY hyb hdY hdi
        have p1 : wU.cell? ⟨wo.heap.size + 1, 1, none⟩ = some (.float .f64 s) := cell_of_row _ _ 1 _ 26 (0, 0) hbU
        have y1' : wU.cell? ⟨my, 1, none⟩ = some (.float .f64 s2) := cell_of_row _ _ 1 _ 26 (0, 0) hyU
        have f1 : wU.frozen? ⟨wo.heap.size + 1, 1, none⟩ = false := frozen_row hbU 1
        go_wp2
        go_roundw
        case rel => exact ⟨j + 1, r4, _, hjt, by go_num, heap_set (heap_dn hbU) 1 _, by (show _ = addc (accn turnc zs of j) (turnc (pickc zs (of.getD (j + 1) 0))); rw [← hcj.out, ← hc3.out, hr4.out, cA.out, hr2.out.1, hr2.out.2]; rfl), below_st (below_drewN' hdU _) (Nat.le_refl _) _⟩
        case measure => simp [intOf]; omega
end Go.Proofs.Ytfmjmjppkdaanaa
