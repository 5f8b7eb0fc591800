/- Heat: HeatRuns, walked. -/
import Derived.Test.YtdjdkhbagoideaaDoorRn6
import Derived.Test.YtdjdkhbagoideaaDoorRn7
import Derived.Test.YtdjdkhbagoideaaDoorOwn
import Derived.Test.YtdjdkhbagoideaaDoorAwk
import Derived.Test.YtdjdkhbagoideaaDoorMem2
namespace Go.Proofs.YtdjdkhbagoideaaDoor
open Go.RowKit Go.BigFrame flt Ieee

theorem runs_any (Z : Zn) (A A2 Am Aw : Option Addr) (c c2 cm cw n m : Nat) (r k a h s ow : Nat) (pv : Value) (mi : Int) (ws : List Nat) (W : World) (hT : Tps W A Z.tr) (hT2 : Tps W A2 Z.tr) (hn : Z.tr.length = n) (hw : Ws W Am ws) (hw2 : Ws W Aw ws) (hm : ws.length = m) :
    Calls Tryd.prog 21 #[.agg (zarr Z (.slice A n c)), .agg (zarr Z (.slice A2 n c2)), .agg #[.float .f64 r, .float .f64 k, .float .f64 a], .agg #[.float .f64 r, .float .f64 k, .float .f64 a], .agg (parr r k a h s ow pv mi), .slice Am m cm, .slice Aw m cw] W fun e w' => e = .returned (.bool true) ∧ Below W.heap.size W w' := by
  by_cases hE : runE (okZ Z) (okL r k a) (argE h s ws) = 0
  · have h1 : okZ Z = true ∧ okL r k a = true ∧ argE h s ws = true := by
      unfold runE at hE
      cases h1 : okZ Z <;> cases h2 : okL r k a <;> cases h3 : argE h s ws <;> rw [h1, h2, h3] at hE <;> first | exact ⟨rfl, rfl, rfl⟩ | simp at hE
    exact runs_yes Z A A2 Am Aw c c2 cm cw n m r k a h s ow pv mi ws W hT hT2 hn hw hw2 hm h1.1 h1.2.1 h1.2.2
  · exact runs_no Z A A2 Am Aw c c2 cm cw n m r k a h s ow pv mi ws W hT hT2 hn hw hw2 hm hE
/-- two floats of one class: equal, or both no numbers -/
theorem same_cls {x y : Nat} (h : cls x = cls y) : (FloatKind.f64.format.order x y == some .eq) = true ∨ ((FloatKind.f64.format.order x y == some .eq) = false ∧ (FloatKind.f64.format.order x x != some .eq) = true ∧ (FloatKind.f64.format.order y y != some .eq) = true) := by
  have e1 : FloatKind.f64.format.order x y = ord (cls x) (cls y) := order_cls x y
  have e2 : FloatKind.f64.format.order x x = ord (cls x) (cls x) := order_cls x x
  have e3 : FloatKind.f64.format.order y y = ord (cls y) (cls y) := order_cls y y
  rw [e1, e2, e3, h]
  cases hy : cls y with
  | none => right; exact ⟨rfl, rfl, rfl⟩
  | some z =>
    left
    obtain ⟨rfl, hn⟩ := cls_some hy
    rw [ord_some hn hn]
    rcases cmp_cases (key y) (key y) with ⟨h, e⟩ | ⟨h, e⟩ | ⟨h, e⟩
    · omega
    · rw [e]; rfl
    · omega
theorem elF : Elt Tryd.prog 50 23 1 8 := Elt.of (z := .float .f64 0) Tryd.underlying50 (by kernel_rfl) rfl (by decide) (by decide)
theorem one_ws (l : List Nat) : ∀ r ∈ l.map wrow, ∀ u ∈ r, u.oneCell' = true := by
  intro r hr u hu
  obtain ⟨x, _, rfl⟩ := List.mem_map.1 hr
  simp only [wrow, List.mem_singleton] at hu
  subst hu
  rfl
theorem parr_cells {X : World} {P r k a h s ow : Nat} {pv : Value} {mi : Int} (q : X.heap[P]? = some (.cells (parr r k a h s ow pv mi) 52)) :
    X.cell? ⟨P, 0, none⟩ = some (.float .f64 r) ∧ X.cell? ⟨P, 1, none⟩ = some (.float .f64 k) ∧ X.cell? ⟨P, 2, none⟩ = some (.float .f64 a) ∧ X.cell? ⟨P, 3, none⟩ = some (.float .f64 h) ∧ X.cell? ⟨P, 4, none⟩ = some (.float .f64 s) ∧ X.cell? ⟨P, 5, none⟩ = some (.float .f64 ow) ∧ X.cell? ⟨P, 6, none⟩ = some pv ∧ X.cell? ⟨P, 7, none⟩ = some (.int .i64 mi) := by
  refine ⟨?_, ?_, ?_, ?_, ?_, ?_, ?_, ?_⟩
  · rw [cell_of_row _ _ 0 _ 52 (0, 0) q]; rfl
  · rw [cell_of_row _ _ 1 _ 52 (0, 0) q]; rfl
  · rw [cell_of_row _ _ 2 _ 52 (0, 0) q]; rfl
  · rw [cell_of_row _ _ 3 _ 52 (0, 0) q]; rfl
  · rw [cell_of_row _ _ 4 _ 52 (0, 0) q]; rfl
  · rw [cell_of_row _ _ 5 _ 52 (0, 0) q]; rfl
  · rw [cell_of_row _ _ 6 _ 52 (0, 0) q]; rfl
  · rw [cell_of_row _ _ 7 _ 52 (0, 0) q]; rfl
theorem Has.below {w w' : World} (h : Has w) (d : Below w.heap.size w w') : Has w' := by
  obtain ⟨t, fr, h⟩ := h
  exact ⟨t, fr, (d.block 1 (heap_lt h)).trans h⟩
theorem rows7 {T : TypeId} {w : World} {P : Nat} {a b c d e f g : Value} (h : w.heap[P]? = some (.cells #[a, b, c, d, e, f, g] T)) :
    w.cell? ⟨P, 0, none⟩ = some a ∧ w.cell? ⟨P, 1, none⟩ = some b ∧ w.cell? ⟨P, 2, none⟩ = some c ∧ w.cell? ⟨P, 3, none⟩ = some d ∧ w.cell? ⟨P, 4, none⟩ = some e ∧ w.cell? ⟨P, 5, none⟩ = some f ∧ w.cell? ⟨P, 6, none⟩ = some g := by
  refine ⟨?_, ?_, ?_, ?_, ?_, ?_, ?_⟩
  · rw [cell_of_row _ _ 0 _ T (0, 0) h]; rfl
  · rw [cell_of_row _ _ 1 _ T (0, 0) h]; rfl
  · rw [cell_of_row _ _ 2 _ T (0, 0) h]; rfl
  · rw [cell_of_row _ _ 3 _ T (0, 0) h]; rfl
  · rw [cell_of_row _ _ 4 _ T (0, 0) h]; rfl
  · rw [cell_of_row _ _ 5 _ T (0, 0) h]; rfl
  · rw [cell_of_row _ _ 6 _ T (0, 0) h]; rfl
set_option maxHeartbeats 16000000 in
set_option maxRecDepth 100000 in
theorem heatRuns_walk (Z : Zn) (A Ap : Option Addr) (c cp n m : Nat) (r k a h s ow : Nat) (mi : Int) (ws : List Nat) (W : World) (hT : Tps W A Z.tr) (hn : Z.tr.length = n) (hr : n * 24 ≤ 140737488351232) (hw : Ws W Ap ws) (hm : ws.length = m) (hrw : m * 8 ≤ 140737488351232) (hpn : Ap = none → cp = 0) (hH : Has W) :
    Calls Tryd.prog 4 #[.agg (zarr Z (.slice A n c)), .agg (parr r k a h s ow (.slice Ap m cp) mi)] W fun e w' => e = .returned (.bool true) ∧ Below W.heap.size W w' := by
  have KN1 := fun (X : World) => next_any r k a h ow s X
  have KN2 := fun (X : World) => rnext_any r k a h ow s X
  have KS1 := fun (X : World) => settled_any r k a ow X
  have KS2 := fun (X : World) => rsettled_any r k a ow X
  generalize nextE (okL r k a) (okA h ow s) = E1 at *
  generalize nextE (okL r k a) (near ow) = E2 at *
  generalize nextZ (okL r k a) (okA h ow s) (flowc (cls r) (cls k) (cls a) (cls h) (cls ow) (cls s)) = F1 at *
  generalize nextZ (okL r k a) (near ow) (endc (cls r) (cls a) (cls ow)) = F2 at *
  have hb0 := below_al (below_al (Below.refl W.heap.size W) (.cells (zarr Z (.slice A n c)) 49)) (.cells (parr r k a h s ow (.slice Ap m cp) mi) 52)
  have hx0 : ((W.alloc (.cells (zarr Z (.slice A n c)) 49)).alloc (.cells (parr r k a h s ow (.slice Ap m cp) mi) 52)).heap[W.heap.size]? = some (.cells (zarr Z (.slice A n c)) 49) :=
    (Below.heap_alloc _ _ _ (by rw [size_al]; omega)).trans (heap_alloc_at W _)
  have hy0 : ((W.alloc (.cells (zarr Z (.slice A n c)) 49)).alloc (.cells (parr r k a h s ow (.slice Ap m cp) mi) 52)).heap[W.heap.size + 1]? = some (.cells (parr r k a h s ow (.slice Ap m cp) mi) 52) := by
    have := heap_alloc_at (W.alloc (.cells (zarr Z (.slice A n c)) 49)) (.cells (parr r k a h s ow (.slice Ap m cp) mi) 52)
    rwa [size_al] at this
  obtain ⟨zal, e1⟩ : ∃ q, Z.al = q := ⟨_, rfl⟩
  obtain ⟨ztg, e2⟩ : ∃ q, Z.tg = q := ⟨_, rfl⟩
  obtain ⟨zkp, e3⟩ : ∃ q, Z.kp = q := ⟨_, rfl⟩
  obtain ⟨zki, e4⟩ : ∃ q, Z.ki = q := ⟨_, rfl⟩
  obtain ⟨zcap, e5⟩ : ∃ q, Z.cap = q := ⟨_, rfl⟩
  obtain ⟨zmo, e6⟩ : ∃ q, Z.mo = q := ⟨_, rfl⟩
  have hZx : Hid (∀ v, zarr Z v = #[.float .f64 zal, .float .f64 ztg, .float .f64 zkp, .float .f64 zki, .float .f64 zcap, .int .i64 zmo, v]) := Lib.hid fun v => by subst e1 e2 e3 e4 e5 e6; rfl
  clear e1 e2 e3 e4 e5 e6
  have hZA : zarr Z (.slice A n c) = #[.float .f64 zal, .float .f64 ztg, .float .f64 zkp, .float .f64 zki, .float .f64 zcap, .int .i64 zmo, .slice A n c] := hZx.out _
  rw [hZA] at hb0 hx0 hy0 ⊢
  obtain ⟨PA, hPA⟩ : ∃ q, parr r k a h s ow (.slice Ap m cp) mi = q := ⟨_, rfl⟩
  rw [hPA] at hb0 hx0 hy0 ⊢
  replace hZA := Lib.hid hZA
  replace hPA := Lib.hid hPA
  go_enter Tryd.func4, Tryd.ntmps4
  go_upto_region 1 with fail
  generalize (W.alloc (.cells #[.float .f64 zal, .float .f64 ztg, .float .f64 zkp, .float .f64 zki, .float .f64 zcap, .int .i64 zmo, .slice A n c] 49)).alloc (.cells PA 52) = w0 at *
  obtain ⟨P1, hP1⟩ : ∃ P, W.heap.size + 1 = P := ⟨_, rfl⟩
  obtain ⟨P0, hP0⟩ : ∃ P, W.heap.size = P := ⟨_, rfl⟩
  rw [hP1] at hy0 ⊢
  rw [hP0] at hx0 ⊢
  clear hP1 hP0
  have hpc : Hid (∀ X : World, X.heap[P1]? = some (.cells PA 52) → X.cell? ⟨P1, 0, none⟩ = some (.float .f64 r) ∧ X.cell? ⟨P1, 1, none⟩ = some (.float .f64 k) ∧ X.cell? ⟨P1, 2, none⟩ = some (.float .f64 a) ∧ X.cell? ⟨P1, 3, none⟩ = some (.float .f64 h) ∧ X.cell? ⟨P1, 4, none⟩ = some (.float .f64 s) ∧ X.cell? ⟨P1, 5, none⟩ = some (.float .f64 ow) ∧ X.cell? ⟨P1, 6, none⟩ = some (.slice Ap m cp) ∧ X.cell? ⟨P1, 7, none⟩ = some (.int .i64 mi)) := Lib.hid fun X q => by
    rw [← hPA.out] at q; exact parr_cells q
  obtain ⟨y0, y1, y2, y3, y4, y5, y6, y7⟩ := hpc.out w0 hy0
  go_upto_region 2 with (refine wpList_store_row rfl 42 _ _ rfl w0.heap.size #[.float .f64 r, .float .f64 k, .float .f64 a] rfl rfl 42 _ (heap_alloc_at _ _) (by kernel_rfl) (by kernel_rfl) (by kernel_rfl) ?_)
  rw [setRow_alloc _ _ _ _ _ rfl]
  have hz1 := heap_alloc_at w0 (.cells #[.float .f64 r, .float .f64 k, .float .f64 a] 42)
  have h01 := below_al hb0 (.cells #[.float .f64 r, .float .f64 k, .float .f64 a] 42)
  have hb1 := below_al (Below.refl w0.heap.size w0) (.cells #[.float .f64 r, .float .f64 k, .float .f64 a] 42)
  have hx1 := (hb1.block _ (heap_lt hx0)).trans hx0
  have hy1 := (hb1.block _ (heap_lt hy0)).trans hy0
  obtain ⟨P2, hP2⟩ : ∃ P, w0.heap.size = P := ⟨_, rfl⟩
  rw [hP2] at hz1 ⊢
  clear hP2 y0 y1 y2 y3 y4 y5 y6 y7
  generalize w0.alloc (.cells #[.float .f64 r, .float .f64 k, .float .f64 a] 42) = w1 at *
  clear hx0 hy0 hb0 hb1
  obtain ⟨y0, y1, y2, y3, y4, y5, y6, y7⟩ := hpc.out w1 hy1
  go_upto_region 3 with (refine wpList_store_row rfl 53 _ _ rfl w1.heap.size #[.float .f64 r, .float .f64 k, .float .f64 a] rfl rfl 53 _ (heap_alloc_at _ _) (by kernel_rfl) (by kernel_rfl) (by kernel_rfl) ?_)
  rw [setRow_alloc _ _ _ _ _ rfl]
  have hu2 := heap_alloc_at w1 (.cells #[.float .f64 r, .float .f64 k, .float .f64 a] 53)
  have h02 := below_al h01 (.cells #[.float .f64 r, .float .f64 k, .float .f64 a] 53)
  have hb2 := below_al (Below.refl w1.heap.size w1) (.cells #[.float .f64 r, .float .f64 k, .float .f64 a] 53)
  have hx2 := (hb2.block _ (heap_lt hx1)).trans hx1
  have hy2 := (hb2.block _ (heap_lt hy1)).trans hy1
  have hz2 := (hb2.block _ (heap_lt hz1)).trans hz1
  obtain ⟨P3, hP3⟩ : ∃ P, w1.heap.size = P := ⟨_, rfl⟩
  rw [hP3] at hu2 ⊢
  clear hP3 y0 y1 y2 y3 y4 y5 y6 y7
  generalize w1.alloc (.cells #[.float .f64 r, .float .f64 k, .float .f64 a] 53) = w2 at *
  clear hx1 hy1 hz1 hb2 h01
  obtain ⟨y0, y1, y2, y3, y4, y5, y6, y7⟩ := hpc.out w2 hy2
  -- the lags' numbers
  go_upto_region 4 with (first
    | (refine wpList_load_row rfl 42 _ rfl P2 rfl 42 _ (0, 0) _ hz2 Tryd.underlying42 rfl (by kernel_rfl) ?_)
    | (go_at_call 10; (with_reducible refine (KN1 _).mono ?_); rintro e w3 ⟨z1, rfl, hc1, hb3⟩))
  have h03 := h02.trans (hb3.mono h02.size)
  have hx3 := (hb3.block _ (heap_lt hx2)).trans hx2
  have hy3 := (hb3.block _ (heap_lt hy2)).trans hy2
  have hz3 := (hb3.block _ (heap_lt hz2)).trans hz2
  have hu3 := (hb3.block _ (heap_lt hu2)).trans hu2
  clear y0 y1 y2 y3 y4 y5 y6 y7 hx2 hy2 hz2 hu2 h02 hb3
  obtain ⟨y0, y1, y2, y3, y4, y5, y6, y7⟩ := hpc.out w3 hy3
  go_upto_region 5 with (first
    | (refine wpList_load_row rfl 53 _ rfl P3 rfl 53 _ (0, 0) _ hu3 Tryd.underlying53 rfl (by kernel_rfl) ?_)
    | (go_at_call 15; (with_reducible refine (KN2 _).mono ?_); rintro e w4 ⟨z2, rfl, hc2, hb4⟩))
  have h04 := h03.trans (hb4.mono h03.size)
  have hx4 := (hb4.block _ (heap_lt hx3)).trans hx3
  have hy4 := (hb4.block _ (heap_lt hy3)).trans hy3
  have hz4 := (hb4.block _ (heap_lt hz3)).trans hz3
  have hu4 := (hb4.block _ (heap_lt hu3)).trans hu3
  clear y0 y1 y2 y3 y4 y5 y6 y7 hx3 hy3 hz3 hu3 h03 hb4
  obtain ⟨y0, y1, y2, y3, y4, y5, y6, y7⟩ := hpc.out w4 hy4
  go_upto_region 6 with (first
    | (refine wpList_load_row rfl 42 _ rfl P2 rfl 42 _ (0, 0) _ hz4 Tryd.underlying42 rfl (by kernel_rfl) ?_)
    | (go_at_call 16; (with_reducible refine (KS1 _).mono ?_); rintro e w5 ⟨z3, rfl, hc3, hb5⟩))
  have h05 := h04.trans (hb5.mono h04.size)
  have hx5 := (hb5.block _ (heap_lt hx4)).trans hx4
  have hy5 := (hb5.block _ (heap_lt hy4)).trans hy4
  have hz5 := (hb5.block _ (heap_lt hz4)).trans hz4
  have hu5 := (hb5.block _ (heap_lt hu4)).trans hu4
  clear y0 y1 y2 y3 y4 y5 y6 y7 hx4 hy4 hz4 hu4 h04 hb5
  obtain ⟨y0, y1, y2, y3, y4, y5, y6, y7⟩ := hpc.out w5 hy5
  go_upto_region 7 with (first
    | (refine wpList_load_row rfl 53 _ rfl P3 rfl 53 _ (0, 0) _ hu5 Tryd.underlying53 rfl (by kernel_rfl) ?_)
    | (go_at_call 17; (with_reducible refine (KS2 _).mono ?_); rintro e w6 ⟨z4, rfl, hc4, hb6⟩))
  have h06 := h05.trans (hb6.mono h05.size)
  have hx6 := (hb6.block _ (heap_lt hx5)).trans hx5
  have hy6 := (hb6.block _ (heap_lt hy5)).trans hy5
  have hz6 := (hb6.block _ (heap_lt hz5)).trans hz5
  have hu6 := (hb6.block _ (heap_lt hu5)).trans hu5
  clear y0 y1 y2 y3 y4 y5 y6 y7 hx5 hy5 hz5 hu5 h05 hb6 KN1 KN2 KS1 KS2
  obtain ⟨y0, y1, y2, y3, y4, y5, y6, y7⟩ := hpc.out w6 hy6
  have hH6 := hH.below h06
  have KR1 := fun j => reading_any mi (w6.drewN j) (hH6.drewN j)
  have KR2 := fun j => rreading_any mi (w6.drewN j)
  have KBt := fun j => bits_same (reads mi) (w6.drewN j)
  go_cut [118] from 69 to 119 (fun v wc => v = .bool false ∧ Drawn w6 wc)
  case first =>
    clear hx6 hz6 hu6 h06 hH6 hH hT hw hpc y0 y1 y2 y3 y4 y5 y6
    have n1 : (E1 != E1) = false := by simp
    have n2 : (E2 != E2) = false := by simp
    have q1 := same_cls (hc1.trans hc2.symm)
    have q2 := same_cls (hc3.trans hc4.symm)
    generalize reads mi = rd at *
    clear hc1 hc2 hc3 hc4
    rcases q1 with q1 | ⟨q1, q3, q4⟩ <;> rcases q2 with q2 | ⟨q2, q5, q6⟩
    all_goals go_big_quiet ((first | (go_at_call 11; exact quiet_drawn (KR1 _)) | (go_at_call 19; exact quiet_drawn (KR2 _)) | (go_at_call 18; exact quiet_same (KBt _))))
    all_goals go_wp2
    all_goals go_meet
    all_goals (case rel => exact ⟨rfl, _, rfl⟩)
  clear hc1 hc2 hc3 hc4 KR1 KR2 KBt y0 y1 y2 y3 y4 y5 y6 y7
  obtain ⟨rfl, hdc⟩ := hcut
  obtain ⟨w7, rfl⟩ : ∃ w : World, w = wc := ⟨_, rfl⟩
  have hb7 := hdc.below w6.heap.size
  have h07 := h06.trans (hb7.mono h06.size)
  have hx7 := (hb7.block _ (heap_lt hx6)).trans hx6
  have hy7 := (hb7.block _ (heap_lt hy6)).trans hy6
  have hz7 := (hb7.block _ (heap_lt hz6)).trans hz6
  have hu7 := (hb7.block _ (heap_lt hu6)).trans hu6
  clear hx6 hy6 hz6 hu6 h06 hb7 hdc hH6 hH
  -- the program's zone
  have hPx : Hid (PA = #[.float .f64 r, .float .f64 k, .float .f64 a, .float .f64 h, .float .f64 s, .float .f64 ow, .slice Ap m cp, .int .i64 mi]) := Lib.hid hPA.out.symm
  have KO : ∀ X, Below W.heap.size W X → Calls Tryd.prog 20 #[.agg #[.float .f64 zal, .float .f64 ztg, .float .f64 zkp, .float .f64 zki, .float .f64 zcap, .int .i64 zmo, .slice A n c]] X fun e w' => ∃ gv cv, e = .returned (.agg #[.float .f64 zal, .float .f64 ztg, .float .f64 zkp, .float .f64 zki, .float .f64 zcap, .int .i64 zmo, .slice (some ⟨gv, 0, none⟩) n cv]) ∧ Own w' X.heap.size 36 3 (Z.tr.map tprow ++ [markT]) (.slice (some ⟨gv, 0, none⟩) (n + 1) cv) ∧ Below X.heap.size X w' := fun X q => by
    have := own_any Z A c n X (hT.below q) hn hr
    rw [hZA.out] at this
    refine this.mono fun e w' ⟨gv, cv, e1, e2, e3⟩ => ⟨gv, cv, ?_, e2, e3⟩
    rw [e1, hZx.out]
  go_upto_region 10 with (first
    | (refine wpList_load_row rfl 49 _ rfl P0 rfl 49 _ (0, 0) _ hx7 Tryd.underlying49 rfl (by kernel_rfl) ?_)
    | (go_at_call 20; (with_reducible refine (KO _ h07).mono ?_); rintro e w8 ⟨gv, cv, rfl, hO8, hb8⟩)
    | (refine wpList_store_row rfl 34 _ _ rfl w8.heap.size #[.float .f64 zal, .float .f64 ztg, .float .f64 zkp, .float .f64 zki, .float .f64 zcap, .int .i64 zmo, .slice (some ⟨gv, 0, none⟩) n cv] rfl rfl 34 _ (heap_alloc_at _ _) (by kernel_rfl) (by kernel_rfl) (by kernel_rfl) ?_))
  rw [setRow_alloc _ _ _ _ _ rfl]
  have h08 := h07.trans (hb8.mono h07.size)
  have hb9 := below_al (Below.refl w8.heap.size w8) (.cells #[.float .f64 zal, .float .f64 ztg, .float .f64 zkp, .float .f64 zki, .float .f64 zcap, .int .i64 zmo, .slice (some ⟨gv, 0, none⟩) n cv] 34)
  have h09 := h08.trans (hb9.mono h08.size)
  have hx9 := (hb9.block _ (heap_lt ((hb8.block _ (heap_lt hx7)).trans hx7))).trans ((hb8.block _ (heap_lt hx7)).trans hx7)
  have hy9 := (hb9.block _ (heap_lt ((hb8.block _ (heap_lt hy7)).trans hy7))).trans ((hb8.block _ (heap_lt hy7)).trans hy7)
  have hz9 := (hb9.block _ (heap_lt ((hb8.block _ (heap_lt hz7)).trans hz7))).trans ((hb8.block _ (heap_lt hz7)).trans hz7)
  have hu9 := (hb9.block _ (heap_lt ((hb8.block _ (heap_lt hu7)).trans hu7))).trans ((hb8.block _ (heap_lt hu7)).trans hu7)
  have hv9 := heap_alloc_at w8 (.cells #[.float .f64 zal, .float .f64 ztg, .float .f64 zkp, .float .f64 zki, .float .f64 zcap, .int .i64 zmo, .slice (some ⟨gv, 0, none⟩) n cv] 34)
  have hO9 := hO8.below hb9
  obtain ⟨P4, hP4⟩ : ∃ P, w8.heap.size = P := ⟨_, rfl⟩
  rw [hP4] at hv9 ⊢
  clear hb9
  generalize w8.alloc (.cells #[.float .f64 zal, .float .f64 ztg, .float .f64 zkp, .float .f64 zki, .float .f64 zcap, .int .i64 zmo, .slice (some ⟨gv, 0, none⟩) n cv] 34) = w9 at *
  clear hx7 hy7 hz7 hu7 h07 hO8 hb8 h08 KO hP4
  generalize w7.heap.size = B9 at *
  obtain ⟨y0, y1, y2, y3, y4, y5, y6, y7⟩ := hpc.out w9 hy9
  -- the list of powers, with a mark
  have hw9 := hw.below h09
  have hwl : Hid ((ws.map wrow).length = m) := Lib.hid (by rw [List.length_map]; exact hm)
  have hle : Hid (m * 8 ≤ 140737488351232) := Lib.hid hrw
  replace hm := Lib.hid hm
  have hwl2 : Hid (m = (ws.map wrow).length) := Lib.hid hwl.out.symm
  clear hrw hw
  replace hO9 := Lib.hid hO9
  have hw9' := Lib.hid hw9
  have y6' : (w9.alloc (.cells #[] 23)).cell? ⟨P1, 6, none⟩ = some (.slice Ap m cp) := (World.cell?_of_block (a := ⟨P1, 6, none⟩) (Below.heap_alloc _ _ _ (heap_lt hy9))).trans y6
  go_upto_region 11 with (first
    | (at_builtin; refine wpList_app_any elF rfl _ _ rfl rfl (Own.lit (w := w9) (base := w9.heap.size) (e := 23) (size := 1) (xs := []) #[] 0 rfl rfl (by simp) (Nat.le_refl _) (by decide)) Ap cp m hwl2.out rfl hpn (Sl.alloc hw9 _) (one_ws ws) (by rw [hwl.out]; have := hle.out; simp; omega) (by rw [size_al]; omega) ?_; intro vp w10 ho10 hb10 hs10 _ _; rw [List.nil_append] at ho10)
    | (at_builtin; refine wpList_push_at elF rfl _ _ rfl rfl (ho10.alloc _) [.float .f64 4661901813979545600] w10.heap.size 23 rfl (heap_alloc_at _ _) rfl (by simp [Value.oneCell']) (by rw [hwl.out]; have := hle.out; omega) (by have := hb10.size; rw [size_al]; exact Nat.le_succ_of_le (Nat.le_trans (by rw [size_al]; exact Nat.le_succ _) hs10)) ?_; intro vm w11 ho11 hb11 hs11 _ hg11 hat11))
  have hb911 : Below w9.heap.size w9 w11 := ((below_al (Below.refl w9.heap.size w9) _).trans hb10).trans (((below_al (Below.refl w10.heap.size w10) _).mono (Nat.le_trans (by rw [size_al]; exact Nat.le_succ _) hs10)).trans hb11)
  have hml : (ws.map wrow ++ [[Value.float .f64 4661901813979545600]]).length = m + 1 := by rw [List.length_append, hwl.out]; rfl
  obtain ⟨gm, cm, hvm, hgm1, hgm2, hcm⟩ := ho11.form (by omega)
  rw [hml] at hvm hcm
  have hcm1 : (m : Int) ≤ (cm : Int) := by omega
  have hcm0 : (0 : Int) ≤ (m : Int) := by omega
  have hcm2 : (m : Int) < (m : Int) + 1 := by omega
  replace hcm := Lib.hid hcm
  subst hvm
  have hgB : Hid (w9.heap.size ≤ gm) := Lib.hid hgm1
  clear y0 y1 y2 y3 y4 y5 y6 y7 y6' hw9 ho10 hb10 hs10 hb11 hs11 hg11 hat11 hgm1
  have hS0 : Hid (∀ X : World, Below w9.heap.size w9 X → (X.cell? ⟨P4, 0, none⟩ = some (.float .f64 zal) ∧ X.cell? ⟨P4, 1, none⟩ = some (.float .f64 ztg) ∧ X.cell? ⟨P4, 2, none⟩ = some (.float .f64 zkp) ∧ X.cell? ⟨P4, 3, none⟩ = some (.float .f64 zki) ∧ X.cell? ⟨P4, 4, none⟩ = some (.float .f64 zcap) ∧ X.cell? ⟨P4, 5, none⟩ = some (.int .i64 zmo) ∧ X.cell? ⟨P4, 6, none⟩ = some (.slice (some ⟨gv, 0, none⟩) n cv)) ∧ (X.cell? ⟨P0, 0, none⟩ = some (.float .f64 zal) ∧ X.cell? ⟨P0, 1, none⟩ = some (.float .f64 ztg) ∧ X.cell? ⟨P0, 2, none⟩ = some (.float .f64 zkp) ∧ X.cell? ⟨P0, 3, none⟩ = some (.float .f64 zki) ∧ X.cell? ⟨P0, 4, none⟩ = some (.float .f64 zcap) ∧ X.cell? ⟨P0, 5, none⟩ = some (.int .i64 zmo) ∧ X.cell? ⟨P0, 6, none⟩ = some (.slice A n c)) ∧ (X.cell? ⟨P2, 0, none⟩ = some (.float .f64 r) ∧ X.cell? ⟨P2, 1, none⟩ = some (.float .f64 k) ∧ X.cell? ⟨P2, 2, none⟩ = some (.float .f64 a)) ∧ (X.cell? ⟨P3, 0, none⟩ = some (.float .f64 r) ∧ X.cell? ⟨P3, 1, none⟩ = some (.float .f64 k) ∧ X.cell? ⟨P3, 2, none⟩ = some (.float .f64 a)) ∧ (X.cell? ⟨P1, 0, none⟩ = some (.float .f64 r) ∧ X.cell? ⟨P1, 1, none⟩ = some (.float .f64 k) ∧ X.cell? ⟨P1, 2, none⟩ = some (.float .f64 a) ∧ X.cell? ⟨P1, 3, none⟩ = some (.float .f64 h) ∧ X.cell? ⟨P1, 4, none⟩ = some (.float .f64 s) ∧ X.cell? ⟨P1, 5, none⟩ = some (.float .f64 ow) ∧ X.cell? ⟨P1, 6, none⟩ = some (.slice Ap m cp) ∧ X.cell? ⟨P1, 7, none⟩ = some (.int .i64 mi))) := Lib.hid fun X q => by
    have a1 := (q.block _ (heap_lt hv9)).trans hv9
    have a2 := (q.block _ (heap_lt hx9)).trans hx9
    have a3 := (q.block _ (heap_lt hz9)).trans hz9
    have a4 := (q.block _ (heap_lt hu9)).trans hu9
    have a5 := hpc.out X ((q.block _ (heap_lt hy9)).trans hy9)
    refine ⟨rows7 a1, rows7 a2, ⟨?_, ?_, ?_⟩, ⟨?_, ?_, ?_⟩, a5⟩
    · rw [cell_of_row _ _ 0 _ 42 (0, 0) a3]; rfl
    · rw [cell_of_row _ _ 1 _ 42 (0, 0) a3]; rfl
    · rw [cell_of_row _ _ 2 _ 42 (0, 0) a3]; rfl
    · rw [cell_of_row _ _ 0 _ 53 (0, 0) a4]; rfl
    · rw [cell_of_row _ _ 1 _ 53 (0, 0) a4]; rfl
    · rw [cell_of_row _ _ 2 _ 53 (0, 0) a4]; rfl
  have hmk : Hid (∀ X : World, Below w11.heap.size w11 X → X.cell? ⟨gm, m, none⟩ = some (.float .f64 4661901813979545600)) := Lib.hid fun X q => by
    have := ((ho11.below q).cells hml (k := m) (by omega) (r := [Value.float .f64 4661901813979545600]) (by rw [List.getElem?_append_right (by rw [hwl.out]; omega), hwl.out, Nat.sub_self]; rfl) (f := 0) (u := .float .f64 4661901813979545600) rfl).1
    rwa [Nat.mul_one, Nat.add_zero] at this
  have KRn : ∀ (X : World) (us : List Nat) (Aw : Option Addr) (cw : Nat), Below W.heap.size W X → Own X B9 36 3 (Z.tr.map tprow ++ [markT]) (.slice (some ⟨gv, 0, none⟩) (n + 1) cv) → us.length = m → Ws X (some ⟨gm, 0, none⟩) us → Ws X Aw us →
      Calls Tryd.prog 21 #[.agg #[.float .f64 zal, .float .f64 ztg, .float .f64 zkp, .float .f64 zki, .float .f64 zcap, .int .i64 zmo, .slice (some ⟨gv, 0, none⟩) n cv], .agg #[.float .f64 zal, .float .f64 ztg, .float .f64 zkp, .float .f64 zki, .float .f64 zcap, .int .i64 zmo, .slice A n c], .agg #[.float .f64 r, .float .f64 k, .float .f64 a], .agg #[.float .f64 r, .float .f64 k, .float .f64 a], .agg #[.float .f64 r, .float .f64 k, .float .f64 a, .float .f64 h, .float .f64 s, .float .f64 ow, .slice Ap m cp, .int .i64 mi], .slice (some ⟨gm, 0, none⟩) m cm, .slice Aw m cw] X fun e w' => e = .returned (.bool true) ∧ Below X.heap.size X w' := fun X us Aw cw q1 q2 q3 q4 q5 => by
    have := runs_any Z (some ⟨gv, 0, none⟩) A (some ⟨gm, 0, none⟩) Aw cv c cm cw n m r k a h s ow (.slice Ap m cp) mi us X (own_tps q2) (hT.below q1) hn q4 q5 q3
    rwa [hZx.out, hZx.out] at this
  have KKp : ∀ X : World, Below w9.heap.size w9 X → Calls Tryd.prog 22 #[.agg #[.float .f64 zal, .float .f64 ztg, .float .f64 zkp, .float .f64 zki, .float .f64 zcap, .int .i64 zmo, .slice (some ⟨gv, 0, none⟩) n cv], .agg #[.float .f64 zal, .float .f64 ztg, .float .f64 zkp, .float .f64 zki, .float .f64 zcap, .int .i64 zmo, .slice A n c]] X fun e w' => e = .returned (.bool true) ∧ Below X.heap.size X w' := fun X q => by
    have := kept_any Z A c n B9 gv cv X (hT.below (h09.trans (q.mono h09.size))) hn hr (hO9.out.below q)
    rwa [hZx.out, hZx.out] at this
  have hwm : Hid (∀ X : World, Below w11.heap.size w11 X → Ws X (some ⟨gm, 0, none⟩) ws) := Lib.hid fun X q => by
    obtain ⟨A', c', e1, e2⟩ := (ho11.below q).sl
    simp only [Value.slice.injEq] at e1
    obtain ⟨rfl, -, -⟩ := e1
    have e3 := (e2.take m).mono (S' := fun _ => True) (fun _ _ => trivial)
    rw [List.take_append_of_le_length (by rw [hwl.out]; exact Nat.le_refl _), List.take_of_length_le (by rw [hwl.out]; exact Nat.le_refl _)] at e3
    exact e3
  replace ho11 := Lib.hid ho11
  have hb911' := Lib.hid hb911
  have hto9 : Hid (∀ X : World, Below w11.heap.size w11 X → Below w9.heap.size w9 X) := Lib.hid fun X q => hb911.trans (q.mono hb911.size)
  replace h09 := Lib.hid h09
  clear hx9 hy9 hz9 hu9 hv9 hb911
  go_cut [155] from 127 to 156 (fun v wc => v = .bool false ∧ Below w11.heap.size w11 wc)
  case first =>
    have hdr : Below w11.heap.size w11 w11.drew := (Below.refl _ _).drew
    have K21 := KRn w11.drew ws Ap cp (h09.out.trans ((hto9.out _ hdr).mono h09.out.size)) (hO9.out.below (hto9.out _ hdr)) hm.out (hwm.out _ hdr) (hw9'.out.below (hto9.out _ hdr))
    have hX : ∀ X : World, Below w11.heap.size w11 X → (X.cell? ⟨P4, 0, none⟩ = some (.float .f64 zal) ∧ X.cell? ⟨P4, 1, none⟩ = some (.float .f64 ztg) ∧ X.cell? ⟨P4, 2, none⟩ = some (.float .f64 zkp) ∧ X.cell? ⟨P4, 3, none⟩ = some (.float .f64 zki) ∧ X.cell? ⟨P4, 4, none⟩ = some (.float .f64 zcap) ∧ X.cell? ⟨P4, 5, none⟩ = some (.int .i64 zmo) ∧ X.cell? ⟨P4, 6, none⟩ = some (.slice (some ⟨gv, 0, none⟩) n cv)) ∧ (X.cell? ⟨P0, 0, none⟩ = some (.float .f64 zal) ∧ X.cell? ⟨P0, 1, none⟩ = some (.float .f64 ztg) ∧ X.cell? ⟨P0, 2, none⟩ = some (.float .f64 zkp) ∧ X.cell? ⟨P0, 3, none⟩ = some (.float .f64 zki) ∧ X.cell? ⟨P0, 4, none⟩ = some (.float .f64 zcap) ∧ X.cell? ⟨P0, 5, none⟩ = some (.int .i64 zmo) ∧ X.cell? ⟨P0, 6, none⟩ = some (.slice A n c)) ∧ (X.cell? ⟨P2, 0, none⟩ = some (.float .f64 r) ∧ X.cell? ⟨P2, 1, none⟩ = some (.float .f64 k) ∧ X.cell? ⟨P2, 2, none⟩ = some (.float .f64 a)) ∧ (X.cell? ⟨P3, 0, none⟩ = some (.float .f64 r) ∧ X.cell? ⟨P3, 1, none⟩ = some (.float .f64 k) ∧ X.cell? ⟨P3, 2, none⟩ = some (.float .f64 a)) ∧ (X.cell? ⟨P1, 0, none⟩ = some (.float .f64 r) ∧ X.cell? ⟨P1, 1, none⟩ = some (.float .f64 k) ∧ X.cell? ⟨P1, 2, none⟩ = some (.float .f64 a) ∧ X.cell? ⟨P1, 3, none⟩ = some (.float .f64 h) ∧ X.cell? ⟨P1, 4, none⟩ = some (.float .f64 s) ∧ X.cell? ⟨P1, 5, none⟩ = some (.float .f64 ow) ∧ X.cell? ⟨P1, 6, none⟩ = some (.slice Ap m cp) ∧ X.cell? ⟨P1, 7, none⟩ = some (.int .i64 mi)) ∧ X.cell? ⟨gm, m, none⟩ = some (.float .f64 4661901813979545600) := fun X q => by
      obtain ⟨b1, b2, b3, b4, b5⟩ := hS0.out X (hto9.out X q)
      exact ⟨b1, b2, b3, b4, b5, hmk.out X q⟩
    have hz0 := hX _ hdr
    have n1 : (FloatKind.f64.format.order 4661901813979545600 4661901813979545600 != some .eq) = false := by decide +kernel
    have KKq := fun (X : World) (q : Below w11.heap.size w11 X) => KKp X (hto9.out X q)
    clear ho11 hmk hwm hS0 KRn hml hT KKp
    go_region_held3 (fun X => (X.cell? ⟨P4, 0, none⟩ = some (.float .f64 zal) ∧ X.cell? ⟨P4, 1, none⟩ = some (.float .f64 ztg) ∧ X.cell? ⟨P4, 2, none⟩ = some (.float .f64 zkp) ∧ X.cell? ⟨P4, 3, none⟩ = some (.float .f64 zki) ∧ X.cell? ⟨P4, 4, none⟩ = some (.float .f64 zcap) ∧ X.cell? ⟨P4, 5, none⟩ = some (.int .i64 zmo) ∧ X.cell? ⟨P4, 6, none⟩ = some (.slice (some ⟨gv, 0, none⟩) n cv)) ∧ (X.cell? ⟨P0, 0, none⟩ = some (.float .f64 zal) ∧ X.cell? ⟨P0, 1, none⟩ = some (.float .f64 ztg) ∧ X.cell? ⟨P0, 2, none⟩ = some (.float .f64 zkp) ∧ X.cell? ⟨P0, 3, none⟩ = some (.float .f64 zki) ∧ X.cell? ⟨P0, 4, none⟩ = some (.float .f64 zcap) ∧ X.cell? ⟨P0, 5, none⟩ = some (.int .i64 zmo) ∧ X.cell? ⟨P0, 6, none⟩ = some (.slice A n c)) ∧ (X.cell? ⟨P2, 0, none⟩ = some (.float .f64 r) ∧ X.cell? ⟨P2, 1, none⟩ = some (.float .f64 k) ∧ X.cell? ⟨P2, 2, none⟩ = some (.float .f64 a)) ∧ (X.cell? ⟨P3, 0, none⟩ = some (.float .f64 r) ∧ X.cell? ⟨P3, 1, none⟩ = some (.float .f64 k) ∧ X.cell? ⟨P3, 2, none⟩ = some (.float .f64 a)) ∧ (X.cell? ⟨P1, 0, none⟩ = some (.float .f64 r) ∧ X.cell? ⟨P1, 1, none⟩ = some (.float .f64 k) ∧ X.cell? ⟨P1, 2, none⟩ = some (.float .f64 a) ∧ X.cell? ⟨P1, 3, none⟩ = some (.float .f64 h) ∧ X.cell? ⟨P1, 4, none⟩ = some (.float .f64 s) ∧ X.cell? ⟨P1, 5, none⟩ = some (.float .f64 ow) ∧ X.cell? ⟨P1, 6, none⟩ = some (.slice Ap m cp) ∧ X.cell? ⟨P1, 7, none⟩ = some (.int .i64 mi)) ∧ X.cell? ⟨gm, m, none⟩ = some (.float .f64 4661901813979545600))
      (first | (with_reducible exact hz0) | (refine hX _ ?_; with_reducible exact q1) | (refine hX _ ?_; with_reducible exact q2))
      (first
        | (go_at_call 21; (with_reducible refine (K21).mono ?_); rintro e w12 ⟨rfl, hb12⟩; have q1 : Below w11.heap.size w11 w12 := hdr.trans hb12; have KK12 := KKq _ q1)
        | (go_at_call 22; (with_reducible refine (KK12).mono ?_); rintro e w13 ⟨rfl, hb13⟩; have q2 : Below w11.heap.size w11 w13 := q1.trans (hb13.mono q1.size)))
    all_goals go_wp2
    all_goals go_meet
    all_goals (case rel => exact ⟨rfl, q2⟩)
  obtain ⟨rfl, hbv⟩ := hcut
  obtain ⟨w14, rfl⟩ : ∃ w : World, w = wc := ⟨_, rfl⟩
  have ho14 := Lib.hid (ho11.out.below hbv)
  have hb914 := Lib.hid (hto9.out _ hbv)
  have hgm14 : Hid (gm < w14.heap.size) := Lib.hid (Nat.lt_of_lt_of_le hgm2 hbv.size)
  clear hmk hwm ho11 hto9 hb911' hbv hgm2 KKp
  have hP1 : Hid (∀ X : World, Below w9.heap.size w9 X → X.cell? ⟨P1, 6, none⟩ = some (.slice Ap m cp)) := Lib.hid fun X q => (hS0.out X q).2.2.2.2.2.2.2.2.2.2.1
  have y6 := hP1.out w14 hb914.out
  have hpc : Hid True := Lib.hid trivial
  have hmm : Hid (m ≤ maxLen ∧ 8 * m ≤ 281474976710656) := Lib.hid (by have := hle.out; unfold maxLen; omega)
  go_upto_region 14 with (first
    | (refine wpList_made1 (bytes := 8) (z := .float .f64 0) Tryd.underlying50 (by kernel_rfl) rfl rfl _ _ rfl m rfl rfl hmm.out.2 hmm.out.1 ?_; intro w15 ho15 hb15))
  have ho15m := Lib.hid (ho14.out.below hb15)
  have hb915 := Lib.hid (hb914.out.trans (hb15.mono hb914.out.size))
  have hg14 : Hid (w9.heap.size ≤ w14.heap.size) := Lib.hid hb914.out.size
  obtain ⟨gt, hgt⟩ : ∃ g, w14.heap.size = g := ⟨_, rfl⟩
  rw [hgt] at ho15 hgm14 hg14 ⊢
  have hrep : (List.replicate m 0).map wrow = List.replicate m [Value.float .f64 0] := by rw [List.map_replicate]; rfl
  rw [← hrep] at ho15
  replace ho15 := Lib.hid ho15
  clear hrep hgt hb15 ho14 hb914 y6
  go_upto_region 15 with fail
  go_loopw [18] (fun s18 wr => ∃ (j : Nat) (tl : List Nat), j ≤ m ∧ s18 = .int .i64 j ∧ tl.length = m ∧ Own wr gt 23 1 (tl.map wrow) (.slice (some ⟨gt, 0, none⟩) m m) ∧ Own wr w9.heap.size 23 1 ((tl.take j ++ ws.drop j).map wrow ++ [[Value.float .f64 4661901813979545600]]) (.slice (some ⟨gm, 0, none⟩) (m + 1) cm) ∧ Below w9.heap.size w9 wr) (fun s18 _ => m - (intOf s18).toNat)
  case atStart => exact ⟨0, List.replicate m 0, by omega, rfl, List.length_replicate, ho15.out, ho15m.out, hb915.out⟩
  case round =>
    clear ho15 ho15m hb915
    obtain ⟨j, tl, hj, rfl, htl, hot, hom, hbk⟩ := hrel
    obtain ⟨wk, rfl⟩ : ∃ w : World, w = wr := ⟨_, rfl⟩
    have y6 := hP1.out wk hbk
    by_cases hjm : j = m
    · have hjm' := hjm.symm
      subst hjm'
      rw [List.take_of_length_le (by omega), List.drop_of_length_le (by rw [hm.out]; exact Nat.le_refl _), List.append_nil] at hom
      have hwm : Hid (∀ X : World, Below wk.heap.size wk X → Ws X (some ⟨gm, 0, none⟩) tl) := Lib.hid fun X q => by
        obtain ⟨A', c', e1, e2⟩ := (hom.below q).sl
        simp only [Value.slice.injEq] at e1
        obtain ⟨rfl, -, -⟩ := e1
        have e3 := (e2.take m).mono (S' := fun _ => True) (fun _ _ => trivial)
        rw [List.take_append_of_le_length (by rw [List.length_map]; omega), List.take_of_length_le (by rw [List.length_map]; omega)] at e3
        exact e3
      have hwt : Hid (∀ X : World, Below wk.heap.size wk X → Ws X (some ⟨gt, 0, none⟩) tl) := Lib.hid fun X q => by
        obtain ⟨A', c', e1, e2⟩ := (hot.below q).sl
        simp only [Value.slice.injEq] at e1
        obtain ⟨rfl, -, -⟩ := e1
        exact e2.mono (fun _ _ => trivial)
      have hto : Hid (∀ X : World, Below wk.heap.size wk X → Below w9.heap.size w9 X) := Lib.hid fun X q => hbk.trans (q.mono hbk.size)
      replace htl := Lib.hid htl
      have KAw := fun (X : World) => awake_any X
      clear hot hom hbk
      go_upto_region 21 with fail
      go_cut [4] from 191 to 206 (fun v wc => v = .bool true ∧ Below wk.heap.size wk wc)
      case first =>
        have hdr : Below wk.heap.size wk wk.drew := (Below.refl _ _).drew
        have K21 := KRn wk.drew tl (some ⟨gt, 0, none⟩) m (h09.out.trans ((hto.out _ hdr).mono h09.out.size)) (hO9.out.below (hto.out _ hdr)) htl.out (hwm.out _ hdr) (hwt.out _ hdr)
        have hX : ∀ X : World, Below wk.heap.size wk X → (X.cell? ⟨P4, 0, none⟩ = some (.float .f64 zal) ∧ X.cell? ⟨P4, 1, none⟩ = some (.float .f64 ztg) ∧ X.cell? ⟨P4, 2, none⟩ = some (.float .f64 zkp) ∧ X.cell? ⟨P4, 3, none⟩ = some (.float .f64 zki) ∧ X.cell? ⟨P4, 4, none⟩ = some (.float .f64 zcap) ∧ X.cell? ⟨P4, 5, none⟩ = some (.int .i64 zmo) ∧ X.cell? ⟨P4, 6, none⟩ = some (.slice (some ⟨gv, 0, none⟩) n cv)) ∧ (X.cell? ⟨P0, 0, none⟩ = some (.float .f64 zal) ∧ X.cell? ⟨P0, 1, none⟩ = some (.float .f64 ztg) ∧ X.cell? ⟨P0, 2, none⟩ = some (.float .f64 zkp) ∧ X.cell? ⟨P0, 3, none⟩ = some (.float .f64 zki) ∧ X.cell? ⟨P0, 4, none⟩ = some (.float .f64 zcap) ∧ X.cell? ⟨P0, 5, none⟩ = some (.int .i64 zmo) ∧ X.cell? ⟨P0, 6, none⟩ = some (.slice A n c)) ∧ (X.cell? ⟨P2, 0, none⟩ = some (.float .f64 r) ∧ X.cell? ⟨P2, 1, none⟩ = some (.float .f64 k) ∧ X.cell? ⟨P2, 2, none⟩ = some (.float .f64 a)) ∧ (X.cell? ⟨P3, 0, none⟩ = some (.float .f64 r) ∧ X.cell? ⟨P3, 1, none⟩ = some (.float .f64 k) ∧ X.cell? ⟨P3, 2, none⟩ = some (.float .f64 a)) ∧ (X.cell? ⟨P1, 0, none⟩ = some (.float .f64 r) ∧ X.cell? ⟨P1, 1, none⟩ = some (.float .f64 k) ∧ X.cell? ⟨P1, 2, none⟩ = some (.float .f64 a) ∧ X.cell? ⟨P1, 3, none⟩ = some (.float .f64 h) ∧ X.cell? ⟨P1, 4, none⟩ = some (.float .f64 s) ∧ X.cell? ⟨P1, 5, none⟩ = some (.float .f64 ow) ∧ X.cell? ⟨P1, 6, none⟩ = some (.slice Ap m cp) ∧ X.cell? ⟨P1, 7, none⟩ = some (.int .i64 mi)) := fun X q => hS0.out X (hto.out X q)
        have hz0 := hX _ hdr
        clear hwm hwt hS0 KRn hT
        go_region_held3 (fun X => (X.cell? ⟨P4, 0, none⟩ = some (.float .f64 zal) ∧ X.cell? ⟨P4, 1, none⟩ = some (.float .f64 ztg) ∧ X.cell? ⟨P4, 2, none⟩ = some (.float .f64 zkp) ∧ X.cell? ⟨P4, 3, none⟩ = some (.float .f64 zki) ∧ X.cell? ⟨P4, 4, none⟩ = some (.float .f64 zcap) ∧ X.cell? ⟨P4, 5, none⟩ = some (.int .i64 zmo) ∧ X.cell? ⟨P4, 6, none⟩ = some (.slice (some ⟨gv, 0, none⟩) n cv)) ∧ (X.cell? ⟨P0, 0, none⟩ = some (.float .f64 zal) ∧ X.cell? ⟨P0, 1, none⟩ = some (.float .f64 ztg) ∧ X.cell? ⟨P0, 2, none⟩ = some (.float .f64 zkp) ∧ X.cell? ⟨P0, 3, none⟩ = some (.float .f64 zki) ∧ X.cell? ⟨P0, 4, none⟩ = some (.float .f64 zcap) ∧ X.cell? ⟨P0, 5, none⟩ = some (.int .i64 zmo) ∧ X.cell? ⟨P0, 6, none⟩ = some (.slice A n c)) ∧ (X.cell? ⟨P2, 0, none⟩ = some (.float .f64 r) ∧ X.cell? ⟨P2, 1, none⟩ = some (.float .f64 k) ∧ X.cell? ⟨P2, 2, none⟩ = some (.float .f64 a)) ∧ (X.cell? ⟨P3, 0, none⟩ = some (.float .f64 r) ∧ X.cell? ⟨P3, 1, none⟩ = some (.float .f64 k) ∧ X.cell? ⟨P3, 2, none⟩ = some (.float .f64 a)) ∧ (X.cell? ⟨P1, 0, none⟩ = some (.float .f64 r) ∧ X.cell? ⟨P1, 1, none⟩ = some (.float .f64 k) ∧ X.cell? ⟨P1, 2, none⟩ = some (.float .f64 a) ∧ X.cell? ⟨P1, 3, none⟩ = some (.float .f64 h) ∧ X.cell? ⟨P1, 4, none⟩ = some (.float .f64 s) ∧ X.cell? ⟨P1, 5, none⟩ = some (.float .f64 ow) ∧ X.cell? ⟨P1, 6, none⟩ = some (.slice Ap m cp) ∧ X.cell? ⟨P1, 7, none⟩ = some (.int .i64 mi)))
          (first | (with_reducible exact hz0) | (refine hX _ ?_; with_reducible exact q1) | (refine hX _ ?_; with_reducible exact q2))
          (first
            | (go_at_call 21; (with_reducible refine (K21).mono ?_); rintro e w12 ⟨rfl, hb12⟩; have q1 : Below wk.heap.size wk w12 := hdr.trans hb12)
            | (go_at_call 14; (with_reducible refine (KAw _).mono ?_); rintro e w13 ⟨rfl, hb13⟩; have q2 : Below wk.heap.size wk w13 := q1.trans (hb13.mono q1.size)))
        all_goals go_wp2
        all_goals go_meet
        all_goals (case rel => exact ⟨rfl, q2⟩)
      obtain ⟨rfl, hbv⟩ := hcut
      have hend := Lib.hid (h09.out.trans ((hto.out _ hbv).mono h09.out.size))
      clear hto hbv hwm hwt KRn KAw
      go_wp2
      go_ret
      exact ⟨rfl, hend.out⟩
    · have hlt : j < m := by omega
      have hjw : j < ws.length := by rw [hm.out]; exact hlt
      have hjt : j < tl.length := by rw [htl]; exact hlt
      have hlen1 : (tl.take j ++ ws.drop j).length = m := by rw [List.length_append, List.length_take, List.length_drop, hm.out, htl]; omega
      have hgets : (tl.take j ++ ws.drop j)[j]? = some ws[j] := by
        rw [List.getElem?_append_right (by rw [List.length_take]; omega), List.length_take, List.getElem?_drop, Nat.min_eq_left (by omega), Nat.sub_self, Nat.add_zero, List.getElem?_eq_getElem hjw]
      have hml1 : ((tl.take j ++ ws.drop j).map wrow ++ [[Value.float .f64 4661901813979545600]]).length = m + 1 := by rw [List.length_append, List.length_map, hlen1]; rfl
      have hgr : ((tl.take j ++ ws.drop j).map wrow ++ [[Value.float .f64 4661901813979545600]])[j]? = some (wrow ws[j]) := by
        rw [List.getElem?_append_left (by rw [List.length_map, hlen1]; exact hlt), List.getElem?_map, hgets]; rfl
      have cm1 := hom.cells hml1 (k := j) (by omega) hgr (f := 0) (u := .float .f64 ws[j]) rfl
      have ct1 := hot.cells (by rw [List.length_map]; exact htl) (k := j) hlt (r := wrow tl[j]) (by rw [List.getElem?_map, List.getElem?_eq_getElem hjt]; rfl) (f := 0) (u := .float .f64 tl[j]) rfl
      rw [Nat.mul_one, Nat.add_zero] at cm1 ct1
      obtain ⟨bw, ow', hAp, -, cw1⟩ := (hw9'.out.below hbk).at_ hjw
      subst hAp
      have hset : Hid (∀ (X : World) (v : Nat), Drawn wk X → Own ((X.setCell ⟨gt, j, none⟩ (.float .f64 v)).setCell ⟨gm, j, none⟩ (.float .f64 v)) gt 23 1 ((tl.set j v).map wrow) (.slice (some ⟨gt, 0, none⟩) m m) ∧
          Own ((X.setCell ⟨gt, j, none⟩ (.float .f64 v)).setCell ⟨gm, j, none⟩ (.float .f64 v)) w9.heap.size 23 1 (((tl.set j v).take (j + 1) ++ ws.drop (j + 1)).map wrow ++ [[Value.float .f64 4661901813979545600]]) (.slice (some ⟨gm, 0, none⟩) (m + 1) cm) ∧
          Below w9.heap.size w9 ((X.setCell ⟨gt, j, none⟩ (.float .f64 v)).setCell ⟨gm, j, none⟩ (.float .f64 v))) := Lib.hid fun X v q => by
        have hne : gm ≠ gt := Nat.ne_of_lt hgm14.out
        have t1 := hot.drawn q
        have t2 := hom.drawn q
        have t3 := t1.row1 (by rw [List.length_map]; exact htl) hlt
        obtain ⟨g', u0, e1, -, -, -, -, -, t3⟩ := t3
        cases e1
        have t4 := t3 (.float .f64 v)
        have t5 := t2.row1 hml1 (k := j) (by omega)
        obtain ⟨g', u0, e1, -, -, -, -, -, t5⟩ := t5
        cases e1
        have u1 := t4.keep (w' := (X.setCell ⟨gt, j, none⟩ (.float .f64 v)).setCell ⟨gm, j, none⟩ (.float .f64 v)) (fun b e => Below.heap_setCell _ _ _ b (fun e2 => by
          have e3 : gt = b := Option.some.inj e
          have e4 : b = gm := e2
          omega))
        have t6 := t2.keep (w' := X.setCell ⟨gt, j, none⟩ (.float .f64 v)) (fun b e => Below.heap_setCell _ _ _ b (fun e2 => by
          have e3 : gm = b := Option.some.inj e
          have e4 : b = gt := e2
          omega))
        obtain ⟨g', u0, e1, -, -, -, -, -, t7⟩ := t6.row1 hml1 (k := j) (by omega)
        cases e1
        have u2 := t7 (.float .f64 v)
        have hl1 : (tl.map wrow).set j [.float .f64 v] = (tl.set j v).map wrow := by rw [List.map_set]; rfl
        have hl2 : ((tl.take j ++ ws.drop j).map wrow ++ [[Value.float .f64 4661901813979545600]]).set j [.float .f64 v] = ((tl.set j v).take (j + 1) ++ ws.drop (j + 1)).map wrow ++ [[Value.float .f64 4661901813979545600]] := by
          rw [List.set_append_left _ _ (by rw [List.length_map, hlen1]; exact hlt)]
          have hb : j < (tl.set j v).length := by rw [List.length_set]; exact hjt
          have := mix_set (a := ws) (b := tl.set j v) (k := j) hjw hb
          rw [List.take_set_of_le (Nat.le_refl j), List.getElem_set_self] at this
          rw [← this, List.map_set]; rfl
        rw [hl1] at u1
        rw [hl2] at u2
        exact ⟨u1, u2, ((q.after hbk).setCell hg14.out _).setCell hgB.out _⟩
      have hst : ∀ (p : Addr) (v : Nat) (W : World), (store p (.float .f64 v)).run Tryd.prog W = stored Tryd.prog W p (.float .f64 v) .plain := fun p v W => run_store Tryd.prog W p _ _ rfl
      have hjn : (j : Int) < (m : Int) := by omega
      have hm9 : m ≤ 9223372036854775807 := by have := hle.out; omega
      have hj1 : (j : Int) < (m : Int) + 1 := by omega
      replace htl := Lib.hid htl
      generalize ws[j] = wj at *
      generalize tl[j] = tj at *
      have KB := fun q => bits_same wj (wk.drewN q)
      obtain ⟨cm1, fm1⟩ := cm1
      obtain ⟨ct1, ft1⟩ := ct1
      clear hot hom hbk hgets hgr hml1 hlen1 hS0 KRn hT hP1 hw9' hO9 h09
      go_upto_region 17 with fail
      go_cut [177] from 167 to 178 (fun v wc => v = .bool false ∧ Drawn wk wc)
      case first =>
        clear hset hst
        go_big_quiet ((go_at_call 18; (with_reducible exact quiet_same (KB _))))
        go_wp2
        go_meet
        case rel => exact ⟨rfl, _, rfl⟩
      obtain ⟨rfl, hdc⟩ := hcut
      obtain ⟨wv, rfl⟩ : ∃ w : World, w = wc := ⟨_, rfl⟩
      have cm2 := (hdc.cell ⟨gm, j, none⟩).trans cm1
      have ct2 := (hdc.cell ⟨gt, j, none⟩).trans ct1
      have fm2 := (hdc.frozen ⟨gm, j, none⟩).trans fm1
      have ft2 := (hdc.frozen ⟨gt, j, none⟩).trans ft1
      have hset := Lib.hid fun v => hset.out wv v hdc
      have hhb : ∀ v, (wv.setCell ⟨gt, j, none⟩ (.float .f64 v)).heap[gm]? = wv.heap[gm]? := fun v => Below.heap_setCell _ _ _ gm (fun e => by
        have e2 : gm = gt := e
        have := hgm14.out
        omega)
      have cm3 : ∀ v, (wv.setCell ⟨gt, j, none⟩ (.float .f64 v)).cell? ⟨gm, j, none⟩ = some (.float .f64 wj) := fun v => (World.cell?_of_block (a := ⟨gm, j, none⟩) (hhb v)).trans cm2
      have fm3 : ∀ v, (wv.setCell ⟨gt, j, none⟩ (.float .f64 v)).frozen? ⟨gm, j, none⟩ = false := fun v => by
        have := hhb v
        unfold World.frozen? at fm2 ⊢
        simp only at fm2 ⊢
        rw [this]
        exact fm2
      clear cm1 ct1 fm1 ft1 KB hdc cw1 y6 hhb
      go_wp2
      go_roundw
      case rel => exact ⟨j + 1, tl.set j _, by omega, by go_num, by rw [List.length_set]; exact htl.out, (hset.out _).1, (hset.out _).2.1, (hset.out _).2.2⟩
      case measure => first | (simp [intOf]; done) | (simp [intOf]; omega)
end Go.Proofs.YtdjdkhbagoideaaDoor
