/- Heat: HeatCalm, walked. -/
import Derived.Test.YtdjdkhbagoideaaCalm3
import Derived.Test.YtdjdkhbagoideaaCalm5
namespace Go.Proofs.Ytdjdkhbagoideaa
open Go.RowKit Go.BigFrame flt Ieee

set_option maxHeartbeats 8000000 in
set_option maxRecDepth 100000 in
theorem calm_walk_no (Z : Zn) (l : List (Nat × Nat)) (A A1 : Option Addr) (c c1 : Nat) (W : World) (hT : Tps W A Z.tr) (hr : Z.tr.length * 24 ≤ 140737488351232) (hl : Fls W A1 l) (ho : okZ Z = false) :
    Calls Try.prog 5 #[.agg (zarr Z (.slice A Z.tr.length c)), .slice A1 l.length c1] W fun e w' => e = .returned (.bool true) ∧ Below W.heap.size W w' := by
  have KA := awake_any
  have KO := fun (X : World) (q : Below W.heap.size W X) => own_any Z A c Z.tr.length X (hT.below q) rfl hr
  have hcl := Lib.hid (fun (k : Nat) (hk : k < l.length) (X : World) (q : Below W.heap.size W X) => (show Fls X A1 l from Sl.below' hl q).at_ hk)
  have hcz := Lib.hid (fun (k : Nat) (hk : k < Z.tr.length) (X : World) (q : Below W.heap.size W X) => (hT.below q).at_ hk)
  obtain ⟨n, hn⟩ : ∃ n, Z.tr.length = n := ⟨_, rfl⟩
  have KN1 := fun (g c : Nat) (X : World) (h : Tps X (some ⟨g, 0, none⟩) Z.tr) (ho : okZ Z = false) => new_no Z (some ⟨g, 0, none⟩) c n X h hn ho
  rw [hn] at KO ⊢
  have hb0 := below_al (Below.refl W.heap.size W) (.cells (zarr Z (.slice A n c)) 44)
  have hx0 := heap_alloc_at W (.cells (zarr Z (.slice A n c)) 44)
  have hzr : zarr Z (.slice A n c) = #[.float .f64 Z.al, .float .f64 Z.tg, .float .f64 Z.kp, .float .f64 Z.ki, .float .f64 Z.cap, .int .i64 Z.mo, .slice A n c] := rfl
  unfold zarr at KO KN1
  rw [hzr] at hb0 hx0 ⊢
  clear hzr
  clear hT hl
  go_enter Try.func5, Try.ntmps5
  go_upto_region 2 with (first
    | (refine wpList_load_row rfl 44 _ rfl W.heap.size rfl 44 _ (0, 0) _ hx0 Try.underlying44 rfl (by kernel_rfl) ?_)
    | (go_at_call 10; (with_reducible refine (KO _ hb0).mono ?_); rintro e w1 ⟨gv, cv, rfl, hO1, hb1⟩; have h01 := hb0.trans (hb1.mono hb0.size))
    | (go_at_call 7; (with_reducible refine (KN1 gv cv w1 (own_tps hO1) ho).mono ?_); rintro e w2 ⟨rfl, hb2⟩; have h02 := h01.trans (hb2.mono h01.size)))
  have KAw := KA w2
  replace h02 := Lib.hid h02
  clear hx0 hb0 hO1 hb1 h01 hb2 KO KN1
  go_wp2_with (go_at_call 9; (with_reducible refine (KAw).mono ?_); rintro e w9 ⟨rfl, hb9⟩)
  go_ret
  exact ⟨rfl, h02.out.trans (hb9.mono h02.out.size)⟩
set_option maxHeartbeats 8000000 in
set_option maxRecDepth 100000 in
theorem calm_walk_yes (Z : Zn) (l : List (Nat × Nat)) (A A1 : Option Addr) (c c1 : Nat) (W : World) (hT : Tps W A Z.tr) (hr : Z.tr.length * 24 ≤ 140737488351232) (hl : Fls W A1 l) (ho : okZ Z = true) :
    Calls Try.prog 5 #[.agg (zarr Z (.slice A Z.tr.length c)), .slice A1 l.length c1] W fun e w' => e = .returned (.bool true) ∧ Below W.heap.size W w' := by
  have KA := awake_any
  have KO := fun (X : World) (q : Below W.heap.size W X) => own_any Z A c Z.tr.length X (hT.below q) rfl hr
  have hcl := Lib.hid (fun (k : Nat) (hk : k < l.length) (X : World) (q : Below W.heap.size W X) => (show Fls X A1 l from Sl.below' hl q).at_ hk)
  have hcz := Lib.hid (fun (k : Nat) (hk : k < Z.tr.length) (X : World) (q : Below W.heap.size W X) => (hT.below q).at_ hk)
  obtain ⟨n, hn⟩ : ∃ n, Z.tr.length = n := ⟨_, rfl⟩
  have KN2 := fun (g c : Nat) (X : World) (h : Tps X (some ⟨g, 0, none⟩) Z.tr) (ho : okZ Z = true) => new_yes Z (some ⟨g, 0, none⟩) c n X h hn ho
  rw [hn] at KO ⊢
  have hb0 := below_al (Below.refl W.heap.size W) (.cells (zarr Z (.slice A n c)) 44)
  have hx0 := heap_alloc_at W (.cells (zarr Z (.slice A n c)) 44)
  have hzr : zarr Z (.slice A n c) = #[.float .f64 Z.al, .float .f64 Z.tg, .float .f64 Z.kp, .float .f64 Z.ki, .float .f64 Z.cap, .int .i64 Z.mo, .slice A n c] := rfl
  unfold zarr at KO KN2
  rw [hzr] at hb0 hx0 ⊢
  clear hzr
  clear hT hl
  have hZ := okZ_zok ho
  have hn1 := hZ.n
  rw [hn] at hn1
  have MS := fun (X : World) => made_of (n := n) (z := .bool false) (s := 1) (bytes := 1) Try.underlying60 (by kernel_rfl) (by omega) (by omega) X
  have hn9 : n ≤ 9223372036854775807 := by omega
  go_enter Try.func5, Try.ntmps5
  go_upto_region 4 with (first
    | (refine wpList_load_row rfl 44 _ rfl W.heap.size rfl 44 _ (0, 0) _ hx0 Try.underlying44 rfl (by kernel_rfl) ?_)
    | (go_at_call 10; (with_reducible refine (KO _ hb0).mono ?_); rintro e w1 ⟨gv, cv, rfl, hO1, hb1⟩; have h01 := hb0.trans (hb1.mono hb0.size); have hx1 := (hb1.block _ (heap_lt hx0)).trans hx0)
    | (go_at_call 7; (with_reducible refine (KN2 gv cv w1 (own_tps hO1) ho).mono ?_); rintro e w2 ⟨g, v, vo, rfl, hWa, hb2⟩; have h02 := h01.trans (hb2.mono h01.size); have hx2 := (hb2.block _ (heap_lt hx1)).trans hx1))
  have hgl := heap_lt hWa.hb
  have y6 : w2.cell? ⟨W.heap.size, 6, none⟩ = some (.slice A n c) := by rw [cell_of_row _ _ 6 _ 44 (0, 0) hx2]; rfl
  have hC : Cal W (w2.alloc (.cells (mk (.bool false) 1 n) 4)) Z (.slice A n c) w1.heap.size g v vo (hs0 n) w2.heap.size (hs0 n).on n := by
    refine ⟨hWa.below (below_al (Below.refl _ _) _), heap_alloc hx2, ?_, below_al h02 _, heap_lt hx1⟩
    have hrep : (hs0 n).on.map orow = List.replicate n [.bool false] := by simp [hs0, orow]
    rw [hrep]
    exact own_made (z := #[.bool false]) (heap_alloc_at _ _) hgl (by unfold maxLen; omega)
  have hk0 : Hok Z (hs0 n) := by rw [← hn]; exact hok0 Z hZ
  replace hC := Lib.hid hC
  clear hx0 hb0 hO1 hb1 h01 hx1 hb2 h02 hx2 KO KN2 hWa
  go_upto_region 7 with fail
  replace hC := hC.out
  clear y6 MS hn9
  replace hn := Lib.hid hn
  generalize w2.alloc (.cells (mk (.bool false) 1 n) 4) = w3 at *
  generalize w2.heap.size = G at *
  generalize w1.heap.size = B at *
  go_loopw [8, 9] (fun s8 s9 wr => ∃ (i : Nat) (s : Hs), i ≤ l.length ∧ s9 = .int .i64 i ∧ s8 = .int .i64 s.lv ∧ Hok Z s ∧ Cal W wr Z (.slice A n c) B g v vo s G s.on n) (fun _ s9 _ => l.length - (intOf s9).toNat)
  case atStart => exact ⟨0, hs0 n, by omega, rfl, rfl, hk0, hC⟩
  case round =>
    clear hk0 hC
    obtain ⟨i, s, hi, rfl, rfl, hk, hC⟩ := hrel
    obtain ⟨wk, rfl⟩ : ∃ x : World, x = wr := ⟨_, rfl⟩
    by_cases hend : i < l.length ∧ i < 200
    case neg =>
      have KAw := KA wk
      have hbw := Lib.hid hC.w
      clear hC hcl hcz
      by_cases h1 : i < l.length
      · have h2 : ¬ i < 200 := fun q => hend ⟨h1, q⟩
        have h1' : (i : Int) < (l.length : Int) := by omega
        have h2' : ¬ (i : Int) < 200 := by omega
        clear hend h1 h2 hi
        go_wp2_with (go_at_call 9; (with_reducible refine (KAw).mono ?_); rintro e w9 ⟨rfl, hb9⟩)
        go_ret
        exact ⟨rfl, hbw.out.trans (hb9.mono hbw.out.size)⟩
      · have h1' : ¬ (i : Int) < (l.length : Int) := by omega
        clear hend h1 hi
        go_wp2_with (go_at_call 9; (with_reducible refine (KAw).mono ?_); rintro e w9 ⟨rfl, hb9⟩)
        go_ret
        exact ⟨rfl, hbw.out.trans (hb9.mono hbw.out.size)⟩
    obtain ⟨hil, hi8⟩ := hend
    have hil' : (i : Int) < (l.length : Int) := by omega
    have hi8' : (i : Int) < 200 := by omega
    go_upto_region 9 with fail
    go_cut [10, 11] from 47 to 61 (fun p q wc => q = .int .i64 (code s l[i].1 l[i].2) ∧ Tm wc G (told Z s l[i].1 l[i].2) p ∧ Cal W wc Z (.slice A n c) B g v vo (nxt Z s l[i].1 l[i].2) G s.on n)
    case first =>
      obtain ⟨b, o, rfl, -⟩ := hcl.out i hil wk hC.w
      have hX := fun (X : World) (q : Below W.heap.size W X) => (show X.cell? ⟨b, o + i * 2, none⟩ = some (.float .f64 l[i].1) ∧ X.cell? ⟨b, o + i * 2 + 1, none⟩ = some (.float .f64 l[i].2) by
        obtain ⟨b', o', e, _, h1, h2⟩ := hcl.out i hil X q
        obtain ⟨rfl, rfl⟩ : b = b' ∧ o = o' := by simpa using e
        exact ⟨h1, h2⟩)
      refine calm_r9 hZ hk hC hil hil' hX (fun wc p hp => ?_)
      intros
      dsimp only
      clear KA hi hi8 hi8' hcz
      go_wp2
      go_meet
      case rel => exact ⟨rfl, hp⟩
    obtain ⟨rfl, hT1, hC⟩ := hcut
    obtain ⟨wm, rfl⟩ : ∃ x : World, x = wc := ⟨_, rfl⟩
    have hk' := nxt_ok hZ hk l[i].1 l[i].2
    by_cases hc0 : code s l[i].1 l[i].2 = 0
    case neg =>
      obtain ⟨e1, e2, e3⟩ := told_no hc0
      rw [e1] at hT1
      rw [e2] at hC
      obtain ⟨P, A3, d3, rfl, hP, hr1, hO1⟩ := hT1
      simp only [sarr, List.length_nil] at hr1
      obtain ⟨x0, x1, x2, x3, x4, -⟩ := rows37 hr1
      have KS := shut_any hC.a
      clear e1 e2 hO1 hr1 hk' hcl hcz KA
      generalize code s l[i].1 l[i].2 = cd at *
      rw [← e3] at KS
      have n1 : (cd != 0) = true := by simpa using hc0
      have n2 : ((cd == 5) != (cd == 5)) = false := by simp
      clear e3 hc0
      replace hC := Lib.hid hC
      replace hk := Lib.hid hk
      go_wp2_with (go_at_call 16; (with_reducible refine (KS).mono ?_); rintro e w5 ⟨rfl, rfl⟩)
      go_roundw
      case rel => exact ⟨i + 1, s, by omega, by go_num, rfl, hk.out, hC.out⟩
      case measure => first | (simp [intOf]; done) | (simp [intOf]; omega)
    case pos =>
      obtain ⟨t1, t2, t3, t4, t5, t6, t7⟩ := told_ok hZ hk hc0
      have hls := lvl_says Z s l[i].1 l[i].2 (nxt Z s l[i].1 l[i].2).on
      have hos := fun (h : nxt Z s l[i].1 l[i].2 = stepd Z s l[i].1 l[i].2) => fun (k : Nat) (q : k < Z.tr.length) (q' : k < (stepd Z s l[i].1 l[i].2).on.length) => on_says (x := l[i].1) (secs := l[i].2) hZ (h ▸ hk') hk.on q q'
      have hlon := hk'.on
      rw [hn.out] at hlon
      have hson := hk.on
      rw [hn.out] at hson
      have hfeel := Lib.hid (fun (X : World) (q : Below W.heap.size W X) => hcl.out i hil X q)
      generalize code s l[i].1 l[i].2 = cd at *
      subst hc0
      generalize stepd Z s l[i].1 l[i].2 = sd at *
      generalize nxt Z s l[i].1 l[i].2 = s' at *
      generalize told Z s l[i].1 l[i].2 = t at *
      generalize l[i].1 = fx at *
      generalize l[i].2 = fy at *
      obtain ⟨td, tb, tl, ts, te⟩ := t
      obtain ⟨P, A3, d3, rfl, hP, hr1, hO1⟩ := hT1
      simp only [sarr] at hr1 hO1 t1 t2 t3 t4 t5 t6 t7
      obtain ⟨ne, hne⟩ : ∃ x, te.length = x := ⟨_, rfl⟩
      rw [hne] at hr1 hO1
      have hQ : Tq wm G P A3 ne d3 td tb tl ts te := ⟨hr1, hO1, hP⟩
      have hnm : ne ≤ 9223372036854775807 := by
        obtain ⟨_, _, _, hs⟩ := hO1.sl
        have := hs.1
        rw [List.length_map, hne] at this
        exact this
      clear hr1 hO1 hP
      have hput : putb s.on te = s'.on := by rw [t5]; exact putb_evs _ _ (by rw [hson, hlon])
      have hnx := fun (k : Nat) (hk : k < te.length) => (show te[k].1 < n ∧ (putb s.on (te.take k))[te[k].1]? = some (!te[k].2) by
        subst t5
        have := putb_next (a := s.on) (b := s'.on) (by rw [hson, hlon]) hk
        rw [hson] at this
        exact this)
      have hasc := fun (k : Nat) (hk : k + 1 < te.length) => (show (te[k]'(by omega)).1 < te[k + 1].1 by
        subst t5
        exact evs_lt (by rw [hson, hlon]) hk)
      clear t5
      rw [← t1] at t6 t7
      replace hput := Lib.hid hput
      replace hnx := Lib.hid hnx
      replace hasc := Lib.hid hasc
      replace hls := Lib.hid hls
      replace hos := Lib.hid hos
      replace t6 := Lib.hid t6
      replace t7 := Lib.hid t7
      replace hk' := Lib.hid hk'
      replace hk := Lib.hid hk
      replace t4 := Lib.hid t4
      go_upto_region 13 with fail
      go_cut [121] from 80 to 121 (fun v wc => v = .bool false ∧ Drawn wm wc)
      case first =>
        obtain ⟨z5, z6⟩ := hC.zcell
        obtain ⟨b, o, rfl, -, y0, -⟩ := hfeel.out wm hC.w
        have hQr := hQ.r
        refine calm_r13 hQr z5 y0 hil hil' t1.symm (fun q => ?_) t2 t3 (fun wc hd => ?_)
        · obtain ⟨-, e1, e2⟩ := t6.out q
          exact ⟨by rw [← hne, e1]; rfl, e2⟩
        · intros
          dsimp only
          go_wp2
          go_meet
          case rel => exact ⟨rfl, hd⟩
      obtain ⟨rfl, hd⟩ := hcut
      obtain ⟨wq, rfl⟩ : ∃ x : World, x = wc := ⟨_, rfl⟩
      replace hC := hC.below (hd.below _)
      replace hQ := hQ.below (hd.below _)
      clear hd
      replace t2 := Lib.hid t2
      replace t3 := Lib.hid t3
      replace t1 := Lib.hid t1
      have hC0 : Cal W wq Z (.slice A n c) B g v vo s' G (putb s.on (te.take 0)) n := hC
      have hplen := Lib.hid (fun (k : Nat) => (putb_len (te.take k) s.on).trans hson)
      go_upto_region 16 with fail
      refine calm_l2 hne hnm hn1 hput hnx hasc hplen hC0 hQ (Lib.hid fun wz hC hQ => ?_)
      intros
      dsimp only
      clear hnx hasc hput hplen
      obtain ⟨x0, x1, x2, x3, x4, -⟩ := rows37 hQ.r
      go_upto_region 26 with fail
      refine calm_l3 hZ hcz hn hn1 hlon hos t7 hC hQ (Lib.hid fun j wx hj hj0 hgo hC hQ => ?_)
      clear x0 x1 x2 x3 x4
      intros
      dsimp only
      obtain ⟨x0, x1, x2, x3, x4, -⟩ := rows37 hQ.r
      have hnb := hn1.2
      have hlvn := hk.out.lv
      have hmo := hZ.mo
      obtain ⟨z5, z6⟩ := hC.zcell
      cases tb with
      | true =>
        obtain rfl : j = 0 := hj0 rfl
        have hjn' : (0 : Int) < (n : Int) := by omega
        have hCd := Lib.hid (fun (X : World) (d : Drawn wx X) => hC.below (d.below _))
        replace hk' := Lib.hid hk'.out
        clear hC hcz hcl KA hfeel hls hos t6 t7 hQ hgo hlvn hmo
        go_upto_region 35 with fail
        go_cut [308] from 267 to 308 (fun v wc => v = .bool false ∧ Drawn wx wc)
        case first =>
          refine calm_r35n x1 (fun wc hd => ?_)
          intros
          dsimp only
          go_wp2
          go_meet
          case rel => exact ⟨rfl, hd⟩
        obtain ⟨rfl, hd⟩ := hcut
        obtain ⟨wy, rfl⟩ : ∃ x : World, x = wc := ⟨_, rfl⟩
        have y2 : wy.cell? ⟨P, 2, none⟩ = some (.int .i64 tl) := (hd.cell _).trans x2
        have hCy := Lib.hid (hCd.out wy hd)
        clear hCd x0 x1 x2 x3 x4 z5 z6 hd
        go_wp2
        go_roundw
        case rel => exact ⟨i + 1, s', by omega, by go_num, by rw [t4.out], hk'.out, hCy.out⟩
        case measure => first | (simp [intOf]; done) | (simp [intOf]; omega)
      | false =>
        obtain rfl : j = n := by
          rcases Nat.lt_or_ge j n with q | q
          · exact absurd ⟨rfl, q⟩ hgo
          · omega
        obtain ⟨es, -, ec⟩ := t7.out rfl
        obtain ⟨g1, g2, g3⟩ := hls.out (by rw [es])
        have KSh := fun (m : Nat) => shut_any (hC.a.drawn (⟨m, rfl⟩ : Drawn wx (wx.drewN m)))
        rw [es, g3] at KSh
        rw [← es, ← t4.out] at g1 g2
        rw [g3] at ec
        have eT : ∀ q, anyk q (Z.tr.take j) (s'.on.take j) = anyk q Z.tr s'.on := fun q => by
          rw [List.take_of_length_le (by rw [hn.out]; exact Nat.le_refl _), List.take_of_length_le (by rw [hlon]; exact Nat.le_refl _)]
        rw [eT, eT, eT]
        have hCd := Lib.hid (fun (X : World) (d : Drawn wx X) => hC.below (d.below _))
        replace hk' := Lib.hid hk'.out
        clear eT g3 hcz hcl KA hfeel hls hos t6 t7 hQ hgo es hC
        generalize anyk 2 Z.tr s'.on = q2 at *
        generalize anyk 3 Z.tr s'.on = q3 at *
        generalize anyk 1 Z.tr s'.on = q1 at *
        subst ec
        have hsl : 0 ≤ s.lv ∧ s.lv ≤ 100 := ⟨hlvn.1, by omega⟩
        generalize s.lv = sl at *
        go_upto_region 35 with fail
        go_cut [308] from 267 to 308 (fun v wc => v = .bool false ∧ Drawn wx wc)
        case first =>
          cases q2 with
          | true =>
            obtain rfl := g1 rfl
            refine calm_r35a z5 x1 x2 x3 KSh (fun wc hd => ?_)
            intros
            dsimp only
            go_wp2
            go_meet
            case rel => exact ⟨rfl, hd⟩
          | false =>
            cases q1 with
            | true =>
              refine calm_r35b z5 x1 x2 x3 KSh (fun wc hd => ?_)
              intros
              dsimp only
              go_wp2
              go_meet
              case rel => exact ⟨rfl, hd⟩
            | false =>
              refine calm_r35c z5 x1 x2 x3 KSh hsl (g2 rfl rfl) (fun wc hd => ?_)
              intros
              dsimp only
              go_wp2
              go_meet
              case rel => exact ⟨rfl, hd⟩
        obtain ⟨rfl, hd⟩ := hcut
        obtain ⟨wy, rfl⟩ : ∃ x : World, x = wc := ⟨_, rfl⟩
        have y2 : wy.cell? ⟨P, 2, none⟩ = some (.int .i64 tl) := (hd.cell _).trans x2
        have hCy := Lib.hid (hCd.out wy hd)
        clear hCd x0 x1 x2 x3 x4 z5 z6 KSh g1 g2 hsl hd
        go_wp2
        go_roundw
        case rel => exact ⟨i + 1, s', by omega, by go_num, by rw [t4.out], hk'.out, hCy.out⟩
        case measure => first | (simp [intOf]; done) | (simp [intOf]; omega)
theorem calm_walk (Z : Zn) (l : List (Nat × Nat)) (A A1 : Option Addr) (c c1 : Nat) (W : World) (hT : Tps W A Z.tr) (hr : Z.tr.length * 24 ≤ 140737488351232) (hl : Fls W A1 l) :
    Calls Try.prog 5 #[.agg (zarr Z (.slice A Z.tr.length c)), .slice A1 l.length c1] W fun e w' => e = .returned (.bool true) ∧ Below W.heap.size W w' := by
  cases ho : okZ Z with
  | false => exact calm_walk_no Z l A A1 c c1 W hT hr hl ho
  | true => exact calm_walk_yes Z l A A1 c c1 W hT hr hl ho
end Go.Proofs.Ytdjdkhbagoideaa
