/- Heat: the law's runs, where Run goes; walked. -/
import Derived.Test.YtdjdkhbagoideaaDoorRn0
import Derived.Test.YtdjdkhbagoideaaDoorRn3
import Derived.Test.YtdjdkhbagoideaaDoorRn4
namespace Go.Proofs.YtdjdkhbagoideaaDoor
open Go.RowKit Go.BigFrame flt Ieee

set_option maxHeartbeats 16000000 in
set_option maxRecDepth 100000 in
theorem runs_yes (Z : Zn) (A A2 Am Aw : Option Addr) (c c2 cm cw n m : Nat) (r k a h s ow : Nat) (pv : Value) (mi : Int) (ws : List Nat) (W : World) (hT : Tps W A Z.tr) (hT2 : Tps W A2 Z.tr) (hn : Z.tr.length = n) (hw : Ws W Am ws) (hw2 : Ws W Aw ws) (hm : ws.length = m)
    (ho : okZ Z = true) (hl : okL r k a = true) (harg : argE h s ws = true) :
    Calls Tryd.prog 21 #[.agg (zarr Z (.slice A n c)), .agg (zarr Z (.slice A2 n c2)), .agg #[.float .f64 r, .float .f64 k, .float .f64 a], .agg #[.float .f64 r, .float .f64 k, .float .f64 a], .agg (parr r k a h s ow pv mi), .slice Am m cm, .slice Aw m cw] W fun e w' => e = .returned (.bool true) ∧ Below W.heap.size W w' := by
  have KA := fun (X : World) (q : Below W.heap.size W X) => run_yes Z A Am c cm n m r k a h s ws X (hT.below q) hn (hw.below q) hm ho hl harg
  have KB := fun (X : World) (q : Below W.heap.size W X) => rrun_yes Z A2 Aw c2 cw n m r k a h s ws X (hT2.below q) hn (hw2.below q) hm ho hl harg
  obtain ⟨x0, x1, x2, x3, x4, -, hb0⟩ := boxes5 W (.cells (zarr Z (.slice A n c)) 34) (.cells (zarr Z (.slice A2 n c2)) 49) (.cells #[.float .f64 r, .float .f64 k, .float .f64 a] 42) (.cells #[.float .f64 r, .float .f64 k, .float .f64 a] 53) (.cells (parr r k a h s ow pv mi) 52)
  have hZ := okZ_zok ho
  have hK0 := hok0 Z hZ
  rw [hn] at hK0
  have hsame := runc_same (r := cls r) (c := cls k) (a := cls a) (secs := s) hZ ws (cls h) _ _ hK0 hK0 (Sim.refl _)
  rw [hsame] at KB
  have hLn := Lib.hid (runc_nn (r := cls r) (c := cls k) (a := cls a) (secs := s) hZ ws (cls h) _ hK0)
  have hLf := Lib.hid (runc_few (r := cls r) (c := cls k) (a := cls a) (secs := s) hZ ws (cls h) _ hK0)
  have hLl := runc_len (Z := Z) (r := cls r) (c := cls k) (a := cls a) (secs := s) ws (cls h) (hs0 n)
  generalize runc Z (cls r) (cls k) (cls a) s ws (cls h) (hs0 n) = L at *
  have hL96 : L.length ≤ 4096 := by
    unfold argE at harg
    simp only [Bool.and_eq_true, decide_eq_true_eq] at harg
    omega
  clear hsame hLl hK0 hZ ho hl harg
  obtain ⟨N, hN⟩ : ∃ N, L.length = N := ⟨_, rfl⟩
  rw [hN] at hL96
  replace hN := Lib.hid hN
  unfold zarr parr at *
  generalize Z.al = zal at *
  generalize Z.tg = tg at *
  generalize Z.kp = kp at *
  generalize Z.ki = ki at *
  generalize Z.cap = cap at *
  generalize Z.mo = mo at *
  clear hT hT2 hn hw hw2 hm
  go_enter Tryd.func21, Tryd.ntmps21
  go_upto_region 1 with fail
  generalize (((((W.alloc (.cells #[.float .f64 zal, .float .f64 tg, .float .f64 kp, .float .f64 ki, .float .f64 cap, .int .i64 mo, .slice A n c] 34)).alloc (.cells #[.float .f64 zal, .float .f64 tg, .float .f64 kp, .float .f64 ki, .float .f64 cap, .int .i64 mo, .slice A2 n c2] 49)).alloc (.cells #[.float .f64 r, .float .f64 k, .float .f64 a] 42)).alloc (.cells #[.float .f64 r, .float .f64 k, .float .f64 a] 53)).alloc (.cells #[.float .f64 r, .float .f64 k, .float .f64 a, .float .f64 h, .float .f64 s, .float .f64 ow, pv, .int .i64 mi] 52)) = w0 at *
  obtain ⟨P4, hP4⟩ : ∃ P, W.heap.size + 1 + 1 + 1 + 1 = P := ⟨_, rfl⟩
  obtain ⟨P3, hP3⟩ : ∃ P, W.heap.size + 1 + 1 + 1 = P := ⟨_, rfl⟩
  obtain ⟨P2, hP2⟩ : ∃ P, W.heap.size + 1 + 1 = P := ⟨_, rfl⟩
  obtain ⟨P1, hP1⟩ : ∃ P, W.heap.size + 1 = P := ⟨_, rfl⟩
  obtain ⟨P0, hP0⟩ : ∃ P, W.heap.size = P := ⟨_, rfl⟩
  rw [hP4] at x4 ⊢
  rw [hP3] at x3 ⊢
  rw [hP2] at x2 ⊢
  rw [hP1] at x1 ⊢
  rw [hP0] at x0 ⊢
  clear hP0 hP1 hP2 hP3 hP4
  have hw0s := Lib.hid hb0.size
  have hcells : ∀ X : World, X.heap[P4]? = some (.cells #[.float .f64 r, .float .f64 k, .float .f64 a, .float .f64 h, .float .f64 s, .float .f64 ow, pv, .int .i64 mi] 52) → X.cell? ⟨P4, 3, none⟩ = some (.float .f64 h) ∧ X.cell? ⟨P4, 4, none⟩ = some (.float .f64 s) := fun X q =>
    ⟨by rw [cell_of_row _ _ 3 _ 52 (0, 0) q]; rfl, by rw [cell_of_row _ _ 4 _ 52 (0, 0) q]; rfl⟩
  obtain ⟨p3, p4⟩ := hcells _ x4
  go_upto_region 2 with (first
    | (refine wpList_load_row rfl 34 _ rfl P0 rfl 34 _ (0, 0) _ x0 Tryd.underlying34 rfl (by kernel_rfl) ?_)
    | (refine wpList_load_row rfl 42 _ rfl P2 rfl 42 _ (0, 0) _ x2 Tryd.underlying42 rfl (by kernel_rfl) ?_)
    | (go_at_call 40; (with_reducible refine (KA _ hb0).mono ?_); rintro e w1 ⟨va, ta, rfl, hRa, hb1⟩; obtain ⟨Aa, ca, hva, -⟩ := hRa.o.sl; rw [hRa.len, hN.out] at hva; subst hva))
  have h01 := hb0.trans (hb1.mono hb0.size)
  have y0 := (hb1.block _ (heap_lt x0)).trans x0
  have y1 := (hb1.block _ (heap_lt x1)).trans x1
  have y2 := (hb1.block _ (heap_lt x2)).trans x2
  have y3 := (hb1.block _ (heap_lt x3)).trans x3
  have y4 := (hb1.block _ (heap_lt x4)).trans x4
  obtain ⟨q3, q4⟩ := hcells _ y4
  have hw1s0 := Lib.hid hb1.size
  clear x0 x1 x2 x3 x4 p3 p4 hb0 hb1
  go_upto_region 3 with (first
    | (refine wpList_load_row rfl 49 _ rfl P1 rfl 49 _ (0, 0) _ y1 Tryd.underlying49 rfl (by kernel_rfl) ?_)
    | (refine wpList_load_row rfl 53 _ rfl P3 rfl 53 _ (0, 0) _ y3 Tryd.underlying53 rfl (by kernel_rfl) ?_)
    | (go_at_call 41; (with_reducible refine (KB _ h01).mono ?_); rintro e w2 ⟨vb, tb, rfl, hRb, hb2⟩; obtain ⟨Ab, cb, hvb, -⟩ := hRb.o.sl; rw [hRb.len, hN.out] at hvb; subst hvb))
  have h02 := h01.trans (hb2.mono h01.size)
  have z0 := (hb2.block _ (heap_lt y0)).trans y0
  have z2 := (hb2.block _ (heap_lt y2)).trans y2
  have z4 := (hb2.block _ (heap_lt y4)).trans y4
  obtain ⟨r3, r4⟩ := hcells _ z4
  have hs12 := hb2.size
  have hw1s : Hid (w0.heap.size ≤ w1.heap.size) := hw1s0
  have hRa2 := hRa.below hb2
  clear y0 y1 y2 y3 y4 q3 q4 hb2
  go_upto_region 4 with (first
    | (refine wpList_load_row rfl 34 _ rfl P0 rfl 34 _ (0, 0) _ z0 Tryd.underlying34 rfl (by kernel_rfl) ?_)
    | (refine wpList_load_row rfl 42 _ rfl P2 rfl 42 _ (0, 0) _ z2 Tryd.underlying42 rfl (by kernel_rfl) ?_)
    | (go_at_call 40; (with_reducible refine (KA _ h02).mono ?_); rintro e w3 ⟨vc, tc, rfl, hRc, hb3⟩; obtain ⟨Ac, cc, hvc, -⟩ := hRc.o.sl; rw [hRc.len, hN.out] at hvc; subst hvc))
  have h03 := h02.trans (hb3.mono h02.size)
  have hRa3 := hRa2.below hb3
  have hRb3 := hRb.below hb3
  have hAlt : Hid (∀ b, ((Value.slice Aa N ca).ownBlock = some b ∨ ∃ (j : Nat) (x : Value), ta[j]? = some x ∧ x.ownBlock = some b) → w0.heap.size ≤ b ∧ b < w1.heap.size) := Lib.hid fun b hb => by
    rcases hb with hb | ⟨j, x, hj, hb⟩
    · exact hRa.o.lt b hb
    · have hjl : j < L.length := by rw [← hRa.ll]; exact (List.getElem?_eq_some_iff.1 hj).1
      exact (hRa.r j x _ hj (List.getElem?_eq_getElem hjl)).lt b hb
  obtain ⟨B0, hB0⟩ : ∃ B, w0.heap.size = B := ⟨_, rfl⟩
  obtain ⟨B1, hB1⟩ : ∃ B, w1.heap.size = B := ⟨_, rfl⟩
  obtain ⟨B2, hB2⟩ : ∃ B, w2.heap.size = B := ⟨_, rfl⟩
  have hBW : Hid (W.heap.size ≤ B0 ∧ B1 ≤ B2) := Lib.hid ⟨by rw [← hB0]; exact hw0s.out, by rw [← hB1, ← hB2]; exact hs12⟩
  have hB03 : Hid (B0 ≤ w3.heap.size) := Lib.hid (by rw [← hB0]; have := hw1s.out; have := hb3.size; omega)
  rw [hB0] at hRa3 hAlt
  rw [hB1] at hRb3 hAlt
  rw [hB2] at hRc
  clear r3 r4 z0 z2 z4 h01 h02 hb3 KA KB hcells hRa hRa2 hRb hB0 hB1 hB2 hs12 hw0s
  go_upto_region 7 with fail
  have hla := Lib.hid hRa3.ll
  have hda := Lib.hid (And.intro hRa3.d hRa3.dd)
  have hrl := hRa3.len
  rw [hN.out] at hrl
  replace hRb3 := Lib.hid hRb3
  replace hRc := Lib.hid hRc
  replace h03 := Lib.hid h03
  go_loopw [21] (fun s21 wr => ∃ (i : Nat) (rows : List (List Value)), i ≤ N ∧ s21 = .int .i64 i ∧ rows.length = N ∧ Own wr B0 26 5 rows (.slice Aa N ca) ∧ (∀ j, i ≤ j → rows[j]? = (List.zipWith strow L ta)[j]?) ∧ (∀ (j : Nat) (x : Value) (t : Tl), i ≤ j → ta[j]? = some x → L[j]? = some t → Own wr B0 75 2 (t.ev.map erow) x) ∧ Off B0 B1 w3 wr) (fun s21 _ => N - (intOf s21).toNat)
  case atStart => exact ⟨0, _, by omega, rfl, hrl, hRa3.o, fun _ _ => rfl, fun j x t _ h1 h2 => hRa3.r j x t h1 h2, Off.refl _ _ _⟩
  case round =>
    obtain ⟨i, rows, hi, rfl, hrows, hO, hrr, hrt, hF⟩ := hrel
    obtain ⟨wk, rfl⟩ : ∃ w : World, w = wr := ⟨_, rfl⟩
    have hRbk : Hid (Rst wk B1 89 103 L (.slice Ab N cb) tb) := Lib.hid (hRb3.out.keep fun b h1 h2 => hF.o b (Or.inr h1) h2)
    have hRck : Hid (Rst wk B2 26 75 L (.slice Ac N cc) tc) := Lib.hid (hRc.out.keep fun b h1 h2 => hF.o b (Or.inr (Nat.le_trans hBW.out.2 h1)) h2)
    have h0k : Hid (Below W.heap.size W wk) := Lib.hid (h03.out.trans (hF.g.mono hBW.out.1))
    by_cases hiN : i = N
    · clear hO hrr hrt hF hrows hRb3 hRc hRa3 hrl hda hla hAlt h03
      subst hiN
      go_upto_region 17 with fail
      go_loopw [23] (fun s23 wr => ∃ (i0 : Nat), i0 ≤ i ∧ s23 = .int .i64 i0 ∧ Below wk.heap.size wk wr) (fun s23 _ => i - (intOf s23).toNat)
      case atStart => exact ⟨0, by omega, rfl, Below.refl _ _⟩
      case round =>
        obtain ⟨i0, hi0, rfl, hbk⟩ := hrel
        obtain ⟨wx, rfl⟩ : ∃ w : World, w = wr := ⟨_, rfl⟩
        by_cases hiN : i0 = i
        · have h0x := Lib.hid (h0k.out.trans (hbk.mono h0k.out.size))
          clear hRbk hRck h0k hbk
          subst hiN
          go_wp2
          go_ret
          exact ⟨rfl, h0x.out⟩
        · have hlt : i0 < i := by omega
          have hil : i0 < L.length := by rw [hN.out]; exact hlt
          have hRbx := hRbk.out.below hbk
          have hRcx := hRck.out.below hbk
          have hti := List.getElem?_eq_getElem hil
          have hnn := hLn.out _ (List.getElem_mem hil)
          have hfw := hLf.out _ (List.getElem_mem hil)
          generalize L[i0] = t at *
          obtain ⟨g1, A3, d3, rfl, -, hg1, -, -, hS1, x0, x1, x2, x3, x4⟩ := state_at (i := i0) (E := 75) (by rw [hRcx.len]; exact hN.out) hRcx.o rfl hRcx.ll hN.out hti (fun x hx => hRcx.r i0 x t hx hti) hlt
          obtain ⟨g2, A4, d4, rfl, -, hg2, -, -, hS2, z0, z1, z2, z3, z4⟩ := state_at (i := i0) (E := 103) (by rw [hRbx.len]; exact hN.out) hRbx.o rfl hRbx.ll hN.out hti (fun x hx => hRbx.r i0 x t hx hti) hlt
          have hgo : Hid (∀ X, Below wx.heap.size wx X → Below wk.heap.size wk X) := Lib.hid fun X q => hbk.trans (q.mono hbk.size)
          clear hRbk hRck hRbx hRcx hbk hti hil hLn hLf
          obtain ⟨td, tb', tl, ts, te⟩ := t
          simp only at hnn hfw x0 x1 x2 x3 x4 z0 z1 z2 z3 z4 hS1 hS2
          obtain ⟨ne, hne⟩ : ∃ n, te.length = n := ⟨_, rfl⟩
          rw [hne] at hfw x4 z4
          have hbl := fun (X : World) (q : Below wx.heap.size wx X) (p : Addr) (h : p.block < wx.heap.size) => World.cell?_of_block (a := p) (q.block p.block h)
          go_upto_region 19 with fail
          go_cut [127] from 118 to 128 (fun v wc => v = .bool false ∧ Below wx.heap.size wx wc)
          case first =>
            have hdr : Below wx.heap.size wx wx.drew := (Below.refl _ _).drew
            have K15 := same15 td tb' tl ts te ne hne hfw hnn A3 A4 d3 d4 wx.drew (hS1.drawn (Drawn.refl _).drew) (hS2.drawn (Drawn.refl _).drew)
            have hX : ∀ X, Below wx.heap.size wx X → ((X.cell? ⟨g1, i0 * 5, none⟩ = some (.float .f64 td) ∧ X.cell? ⟨g1, i0 * 5 + 1, none⟩ = some (.bool tb') ∧ X.cell? ⟨g1, i0 * 5 + 2, none⟩ = some (.int .i64 tl) ∧ X.cell? ⟨g1, i0 * 5 + 3, none⟩ = some (.bool ts) ∧ X.cell? ⟨g1, i0 * 5 + 4, none⟩ = some (.slice A3 ne d3)) ∧ (X.cell? ⟨g2, i0 * 5, none⟩ = some (.float .f64 td) ∧ X.cell? ⟨g2, i0 * 5 + 1, none⟩ = some (.bool tb') ∧ X.cell? ⟨g2, i0 * 5 + 2, none⟩ = some (.int .i64 tl) ∧ X.cell? ⟨g2, i0 * 5 + 3, none⟩ = some (.bool ts) ∧ X.cell? ⟨g2, i0 * 5 + 4, none⟩ = some (.slice A4 ne d4))) := fun X q =>
              ⟨⟨(hbl X q _ hg1).trans x0, (hbl X q _ hg1).trans x1, (hbl X q _ hg1).trans x2, (hbl X q _ hg1).trans x3, (hbl X q _ hg1).trans x4⟩, ⟨(hbl X q _ hg2).trans z0, (hbl X q _ hg2).trans z1, (hbl X q _ hg2).trans z2, (hbl X q _ hg2).trans z3, (hbl X q _ hg2).trans z4⟩⟩
            have hz0 := hX _ hdr
            clear hS1 hS2 hbl x0 x1 x2 x3 x4 z0 z1 z2 z3 z4 hne hnn hgo
            go_region_held3 (fun X => (X.cell? ⟨g1, i0 * 5, none⟩ = some (.float .f64 td) ∧ X.cell? ⟨g1, i0 * 5 + 1, none⟩ = some (.bool tb') ∧ X.cell? ⟨g1, i0 * 5 + 2, none⟩ = some (.int .i64 tl) ∧ X.cell? ⟨g1, i0 * 5 + 3, none⟩ = some (.bool ts) ∧ X.cell? ⟨g1, i0 * 5 + 4, none⟩ = some (.slice A3 ne d3)) ∧ (X.cell? ⟨g2, i0 * 5, none⟩ = some (.float .f64 td) ∧ X.cell? ⟨g2, i0 * 5 + 1, none⟩ = some (.bool tb') ∧ X.cell? ⟨g2, i0 * 5 + 2, none⟩ = some (.int .i64 tl) ∧ X.cell? ⟨g2, i0 * 5 + 3, none⟩ = some (.bool ts) ∧ X.cell? ⟨g2, i0 * 5 + 4, none⟩ = some (.slice A4 ne d4)))
              (first | (with_reducible exact hz0) | (refine hX _ ?_; with_reducible exact q1))
              (first
                | (go_at_call 42; (with_reducible refine (K15).mono ?_); rintro e w6 ⟨rfl, hb6⟩; have q1 : Below wx.heap.size wx w6 := hdr.trans hb6))
            all_goals go_wp2
            all_goals go_meet
            all_goals (case rel => exact ⟨rfl, q1⟩)
          obtain ⟨rfl, hbv⟩ := hcut
          have hgo' := Lib.hid (hgo.out _ hbv)
          clear hS1 hS2 hbl x0 x1 x2 x3 x4 z0 z1 z2 z3 z4 hne hnn hgo hbv
          go_wp2
          go_roundw
          case rel => exact ⟨i0 + 1, by omega, by go_num, hgo'.out⟩
          case measure => first | (simp [intOf]; done) | (simp [intOf]; omega)
    · have hlt : i < N := by omega
      have hil : i < L.length := by rw [hN.out]; exact hlt
      have hti := List.getElem?_eq_getElem hil
      have hnn := hLn.out _ (List.getElem_mem hil)
      have hfw := hLf.out _ (List.getElem_mem hil)
      generalize L[i] = t at *
      obtain ⟨g1, A3, d3, rfl, hgB, hg1, hx3, hO3, hS1, x0, x1, x2, x3, x4⟩ := state_at (i := i) (E := 75) hrows hO (hrr i (Nat.le_refl _)) hla.out hN.out hti (fun x hx => hrt i x t (Nat.le_refl _) hx hti) hlt
      obtain ⟨g2, A4, d4, rfl, -, hg2, -, -, hS2, z0, z1, z2, z3, z4⟩ := state_at (i := i) (E := 103) (by rw [hRbk.out.len]; exact hN.out) hRbk.out.o rfl hRbk.out.ll hN.out hti (fun x hx => hRbk.out.r i x t hx hti) hlt
      have hself := hda.out.1 i _ hx3
      have hnx : Hid (∀ j, i + 1 ≤ j → rows[j]? = (List.zipWith strow L ta)[j]?) := Lib.hid fun j hj => hrr j (by omega)
      have hnt : Hid (∀ (j : Nat) (x : Value) (t : Tl), i + 1 ≤ j → ta[j]? = some x → L[j]? = some t → Own wk B0 75 2 (t.ev.map erow) x ∧ (∀ b, x.ownBlock = some b → b ≠ g1 ∧ (Value.slice A3 t.ev.length d3).ownBlock ≠ some b)) := Lib.hid fun j x t' hj h1 h2 =>
        ⟨hrt j x t' (by omega) h1 h2, fun b hb => ⟨fun e => hda.out.1 j x h1 b hb (by rw [e]; rfl), fun e => hda.out.2 i j _ x hx3 h1 (by omega) b (by cases A3 <;> exact e) hb⟩⟩
      have hAl : Hid (∀ b, (b = g1 ∨ (Value.slice A3 t.ev.length d3).ownBlock = some b) → B0 ≤ b ∧ b < B1) := Lib.hid fun b hb => by
        rcases hb with rfl | hb
        · exact hAlt.out b (Or.inl rfl)
        · exact hAlt.out b (Or.inr ⟨i, _, hx3, hb⟩)
      clear hRbk hRck hti hil hrr hrt hx3 h0k
      obtain ⟨td, tb', tl, ts, te⟩ := t
      simp only at hnn hfw x0 x1 x2 x3 x4 z0 z1 z2 z3 z4 hS1 hS2 hO3 hself hAl
      obtain ⟨ne, hne⟩ : ∃ n, te.length = n := ⟨_, rfl⟩
      rw [hne] at hfw x4 z4 hO3 hself hAl
      have hbl := fun (X : World) (q : Below wk.heap.size wk X) (p : Addr) (h : p.block < wk.heap.size) => World.cell?_of_block (a := p) (q.block p.block h)
      go_upto_region 9 with fail
      go_cut [89] from 80 to 90 (fun v wc => v = .bool false ∧ Below wk.heap.size wk wc)
      case first =>
        have hdr : Below wk.heap.size wk wk.drew := (Below.refl _ _).drew
        have K15 := same15 td tb' tl ts te ne hne hfw hnn A3 A4 d3 d4 wk.drew (hS1.drawn (Drawn.refl _).drew) (hS2.drawn (Drawn.refl _).drew)
        have hX : ∀ X, Below wk.heap.size wk X → ((X.cell? ⟨g1, i * 5, none⟩ = some (.float .f64 td) ∧ X.cell? ⟨g1, i * 5 + 1, none⟩ = some (.bool tb') ∧ X.cell? ⟨g1, i * 5 + 2, none⟩ = some (.int .i64 tl) ∧ X.cell? ⟨g1, i * 5 + 3, none⟩ = some (.bool ts) ∧ X.cell? ⟨g1, i * 5 + 4, none⟩ = some (.slice A3 ne d3)) ∧ (X.cell? ⟨g2, i * 5, none⟩ = some (.float .f64 td) ∧ X.cell? ⟨g2, i * 5 + 1, none⟩ = some (.bool tb') ∧ X.cell? ⟨g2, i * 5 + 2, none⟩ = some (.int .i64 tl) ∧ X.cell? ⟨g2, i * 5 + 3, none⟩ = some (.bool ts) ∧ X.cell? ⟨g2, i * 5 + 4, none⟩ = some (.slice A4 ne d4))) := fun X q =>
          ⟨⟨(hbl X q _ hg1).trans x0, (hbl X q _ hg1).trans x1, (hbl X q _ hg1).trans x2, (hbl X q _ hg1).trans x3, (hbl X q _ hg1).trans x4⟩, ⟨(hbl X q _ hg2).trans z0, (hbl X q _ hg2).trans z1, (hbl X q _ hg2).trans z2, (hbl X q _ hg2).trans z3, (hbl X q _ hg2).trans z4⟩⟩
        have hz0 := hX _ hdr
        clear hS1 hS2 hbl x0 x1 x2 x3 x4 z0 z1 z2 z3 z4 hne hnn hO hO3 hF hself
        go_region_held3 (fun X => (X.cell? ⟨g1, i * 5, none⟩ = some (.float .f64 td) ∧ X.cell? ⟨g1, i * 5 + 1, none⟩ = some (.bool tb') ∧ X.cell? ⟨g1, i * 5 + 2, none⟩ = some (.int .i64 tl) ∧ X.cell? ⟨g1, i * 5 + 3, none⟩ = some (.bool ts) ∧ X.cell? ⟨g1, i * 5 + 4, none⟩ = some (.slice A3 ne d3)) ∧ (X.cell? ⟨g2, i * 5, none⟩ = some (.float .f64 td) ∧ X.cell? ⟨g2, i * 5 + 1, none⟩ = some (.bool tb') ∧ X.cell? ⟨g2, i * 5 + 2, none⟩ = some (.int .i64 tl) ∧ X.cell? ⟨g2, i * 5 + 3, none⟩ = some (.bool ts) ∧ X.cell? ⟨g2, i * 5 + 4, none⟩ = some (.slice A4 ne d4)))
          (first | (with_reducible exact hz0) | (refine hX _ ?_; with_reducible exact q1))
          (first
            | (go_at_call 42; (with_reducible refine (K15).mono ?_); rintro e w6 ⟨rfl, hb6⟩; have q1 : Below wk.heap.size wk w6 := hdr.trans hb6))
        all_goals go_wp2
        all_goals go_meet
        all_goals (case rel => exact ⟨rfl, q1⟩)
      obtain ⟨rfl, hbv⟩ := hcut
      obtain ⟨wv, rfl⟩ : ∃ x : World, x = wc := ⟨_, rfl⟩
      have hOv := Lib.hid (hO.below hbv)
      have hO3v := hO3.below hbv
      have x4v := (hbl wv hbv ⟨g1, i * 5 + 4, none⟩ hg1).trans x4
      have hFv : Hid (Off B0 B1 w3 wv) := Lib.hid ⟨fun b hb hl => (hbv.block b (Nat.lt_of_lt_of_le hl hF.g.size)).trans (hF.o b hb hl), hF.g.trans (hbv.mono (Nat.le_trans hB03.out hF.g.size))⟩
      have hg1v : Hid (g1 < wv.heap.size) := Lib.hid (Nat.lt_of_lt_of_le hg1 hbv.size)
      have hntv : Hid (∀ (j : Nat) (x : Value) (t : Tl), i + 1 ≤ j → ta[j]? = some x → L[j]? = some t → Own wv B0 75 2 (t.ev.map erow) x ∧ (∀ b, x.ownBlock = some b → b ≠ g1 ∧ (Value.slice A3 ne d3).ownBlock ≠ some b)) := Lib.hid fun j x t' hj h1 h2 =>
        ⟨(hnt.out j x t' hj h1 h2).1.below hbv, fun b hb => ⟨((hnt.out j x t' hj h1 h2).2 b hb).1, fun e => ((hnt.out j x t' hj h1 h2).2 b hb).2 (by cases A3 <;> exact e)⟩⟩
      have hel : (te.map erow).length = ne := by rw [List.length_map]; exact hne
      clear hS1 hS2 hbl x0 x1 x2 x3 x4 z0 z1 z2 z3 z4 hne hnn hO hO3 hF hbv hnt
      go_upto_region 12 with fail
      go_loopw [22] (fun s22 wr => ∃ (kk : Nat) (rT : List (List Value)), kk ≤ ne ∧ s22 = .int .i64 kk ∧ rT.length = ne ∧ Own wr B0 75 2 rT (.slice A3 ne d3) ∧ Fr wv.heap.size (fun b => (Value.slice A3 ne d3).ownBlock = some b) wv wr) (fun s22 _ => ne - (intOf s22).toNat)
      case atStart => exact ⟨0, _, by omega, rfl, hel, hO3v, Fr.refl _ _ _⟩
      case round =>
        clear hO3v hel
        obtain ⟨kk, rT, hkk, rfl, hrT, hOT, hFT⟩ := hrel
        obtain ⟨wx, rfl⟩ : ∃ w : World, w = wr := ⟨_, rfl⟩
        have x4x : wx.cell? ⟨g1, i * 5 + 4, none⟩ = some (.slice A3 ne d3) := (World.cell?_of_block (a := ⟨g1, i * 5 + 4, none⟩) (hFT.k g1 hg1v.out (fun e => hself g1 e rfl))).trans x4v
        by_cases hkn : kk = ne
        · have hOx : Own wx B0 26 5 rows (.slice (some ⟨g1, 0, none⟩) N ca) := hOv.out.keep fun b e => by
            obtain rfl : g1 = b := Option.some.inj e
            exact hFT.k g1 hg1v.out (fun e => hself g1 e rfl)
          obtain ⟨a0, a1, a2, a3, a4, c0, c1, c2', c3', -, f0, f1, f2, f3, f4⟩ := own_free5 hrows hOx hlt
          have hset := Lib.hid (own_five hrows hOx hlt (.float .f64 0) (.bool false) (.int .i64 (-1)) (.bool false) (.slice none 0 0))
          have hFf := Lib.hid ((((((hFT.mono (S' := fun b => b = g1 ∨ (Value.slice A3 ne d3).ownBlock = some b) (Nat.le_refl _) (fun _ _ e => Or.inr e)).set (p := ⟨g1, i * 5, none⟩) (fun _ => Or.inl rfl) (.float .f64 0)).set (p := ⟨g1, i * 5 + 1, none⟩) (fun _ => Or.inl rfl) (.bool false)).set (p := ⟨g1, i * 5 + 2, none⟩) (fun _ => Or.inl rfl) (.int .i64 (-1))).set (p := ⟨g1, i * 5 + 3, none⟩) (fun _ => Or.inl rfl) (.bool false)).set (p := ⟨g1, i * 5 + 4, none⟩) (fun _ => Or.inl rfl) (.slice none 0 0))
          have hst : ∀ (p : Addr) (v : Nat) (W : World), (store p (.float .f64 v)).run Tryd.prog W = stored Tryd.prog W p (.float .f64 v) .plain := fun p v W => run_store Tryd.prog W p _ _ rfl
          clear hOx hOT hFT hrT x4v hOv hself
          subst hkn
          go_wp2
          obtain ⟨rows', e1, e2, hO'⟩ := hset.out
          have hFf := hFf.out
          have g1' : ∀ j, i + 1 ≤ j → rows'[j]? = (List.zipWith strow L ta)[j]? := fun j hj => by rw [e2 j (by omega)]; exact hnx.out j hj
          have g2' : ∀ (j : Nat) (x : Value) (t : Tl), i + 1 ≤ j → ta[j]? = some x → L[j]? = some t → Own (((((wx.setCell ⟨g1, i * 5, none⟩ (.float .f64 0)).setCell ⟨g1, i * 5 + 1, none⟩ (.bool false)).setCell ⟨g1, i * 5 + 2, none⟩ (.int .i64 (-1))).setCell ⟨g1, i * 5 + 3, none⟩ (.bool false)).setCell ⟨g1, i * 5 + 4, none⟩ (.slice none 0 0)) B0 75 2 (t.ev.map erow) x := fun j x t' hj h1 h2 => by
            obtain ⟨q1, q2⟩ := hntv.out j x t' hj h1 h2
            exact q1.keep fun b hb => hFf.k b (q1.lt b hb).2 (fun e => by
              rcases e with e | e
              · exact (q2 b hb).1 e
              · exact (q2 b hb).2 e)
          have g3' : Off B0 B1 w3 (((((wx.setCell ⟨g1, i * 5, none⟩ (.float .f64 0)).setCell ⟨g1, i * 5 + 1, none⟩ (.bool false)).setCell ⟨g1, i * 5 + 2, none⟩ (.int .i64 (-1))).setCell ⟨g1, i * 5 + 3, none⟩ (.bool false)).setCell ⟨g1, i * 5 + 4, none⟩ (.slice none 0 0)) :=
            ⟨fun b hb hl => (hFf.k b (Nat.lt_of_lt_of_le hl hFv.out.g.size) (fun e => by have := hAl.out b e; omega)).trans (hFv.out.o b hb hl), hFv.out.g.trans (hFf.below (Nat.le_trans hB03.out hFv.out.g.size) (fun b e => (hAl.out b e).1))⟩
          clear hset hFf hntv hnx hFv hAl hst hAlt hda hRa3 hRb3 hRc hLn hLf h03
          go_roundw
          case rel => exact ⟨i + 1, rows', by omega, by go_num, e1, hO', g1', g2', g3'⟩
          case measure => first | (simp [intOf]; done) | (simp [intOf]; omega)
        · have hlk : kk < ne := by omega
          obtain ⟨gt, ct, hA3, hgt1, hgt2⟩ := own_form0 hOT (by omega)
          simp only [Value.slice.injEq] at hA3
          obtain ⟨rfl, -, rfl⟩ := hA3
          obtain ⟨a0, a1, c0, c1, f0, f1⟩ := own_free2 hrT hOT hlk
          have hset : Hid (∃ r' : List (List Value), r'.length = ne ∧ Own (wx.setCell ⟨gt, kk * 2, none⟩ (.int .i64 (-1))) B0 75 2 r' (.slice (some ⟨gt, 0, none⟩) ne d3)) := Lib.hid (by
            subst hrT
            exact ⟨_, List.length_set, hOT.set hlk (f := 0) (by decide) (.int .i64 (-1))⟩)
          have hFx := Lib.hid (hFT.set (p := ⟨gt, kk * 2, none⟩) (fun _ => rfl) (.int .i64 (-1)))
          clear hOT hFT hrT x4v hOv hself hntv hnx hFv hAl hAlt hda hRa3 hRb3 hRc hLn hLf h03
          go_wp2
          go_roundw
          case rel =>
            obtain ⟨r', e1, e2⟩ := hset.out
            exact ⟨kk + 1, r', by omega, by go_num, e1, e2, hFx.out⟩
          case measure => first | (simp [intOf]; done) | (simp [intOf]; omega)
end Go.Proofs.YtdjdkhbagoideaaDoor
