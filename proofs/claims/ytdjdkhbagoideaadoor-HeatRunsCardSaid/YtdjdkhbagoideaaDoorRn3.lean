/- Heat: the document's Run, walked. -/
import Derived.Test.YtdjdkhbagoideaaDoorRn2
namespace Go.Proofs.YtdjdkhbagoideaaDoor
open Go.RowKit Go.BigFrame flt Ieee

theorem elRs : Elt Tryd.prog 83 89 5 56 := Elt.of (z := .agg #[.float .f64 0, .bool false, .int .i64 0, .bool false, .slice none 0 0]) Tryd.underlying83 (by kernel_rfl) rfl (by decide) (by decide)
set_option maxHeartbeats 8000000 in
set_option maxRecDepth 100000 in
theorem rrun_yes (Z : Zn) (A A1 : Option Addr) (c c1 n m : Nat) (r k a h s : Nat) (ws : List Nat) (W : World) (hT : Tps W A Z.tr) (hn : Z.tr.length = n) (hw : Ws W A1 ws) (hm : ws.length = m) (ho : okZ Z = true) (hl : okL r k a = true) (harg : argE h s ws = true) :
    Calls Tryd.prog 41 #[.agg (zarr Z (.slice A n c)), .agg #[.float .f64 r, .float .f64 k, .float .f64 a], .float .f64 h, .float .f64 s, .slice A1 m c1] W fun e w' => ∃ v vs, e = .returned (.tuple #[v, .int .i64 0]) ∧ Rst w' W.heap.size 89 103 (rrunc Z (cls r) (cls k) (cls a) s ws (cls h) (hs0 n)) v vs ∧ Below W.heap.size W w' := by
  have hZ := okZ_zok ho
  have hH0 := hok0 Z hZ
  rw [hn] at hH0
  have KN := fun (X : World) (q : Below W.heap.size W X) => rnew_yes Z A c n X (hT.below q) hn ho
  have KL := fun (X : World) => rlag_any r k a X
  rw [hl] at KL
  have KH := fun x => rnear_any x
  have KSe := rsecs_any s
  have KF := fun (x p : Nat) (X : World) => rflow_any r k a x p s X
  have hml := hw.le
  have hwat := Lib.hid fun (j : Nat) (hj : j < ws.length) (X : World) (q : Below W.heap.size W X) => (hw.below q).at_ hj
  rw [hm] at hml
  unfold argE at harg
  simp only [Bool.and_eq_true, decide_eq_true_eq] at harg
  obtain ⟨a1, a2, a3, a4⟩ := harg
  rw [a2] at KSe
  have hall := Lib.hid (List.all_eq_true.1 a4)
  rw [hm] at a3
  have KH0 := KH h
  rw [a1] at KH0
  have hbig' : ¬ (4096 : Int) < (m : Int) := by omega
  have hb0 := below_al (below_al (Below.refl W.heap.size W) (.cells (zarr Z (.slice A n c)) 49)) (.cells #[.float .f64 r, .float .f64 k, .float .f64 a] 53)
  have hx0 : ((W.alloc (.cells (zarr Z (.slice A n c)) 49)).alloc (.cells #[.float .f64 r, .float .f64 k, .float .f64 a] 53)).heap[W.heap.size]? = some (.cells (zarr Z (.slice A n c)) 49) :=
    (Below.heap_alloc _ _ _ (by rw [size_al]; omega)).trans (heap_alloc_at W _)
  have hy0 : ((W.alloc (.cells (zarr Z (.slice A n c)) 49)).alloc (.cells #[.float .f64 r, .float .f64 k, .float .f64 a] 53)).heap[W.heap.size + 1]? = some (.cells #[.float .f64 r, .float .f64 k, .float .f64 a] 53) := by
    have := heap_alloc_at (W.alloc (.cells (zarr Z (.slice A n c)) 49)) (.cells #[.float .f64 r, .float .f64 k, .float .f64 a] 53)
    rwa [size_al] at this
  have hsz : Hid (((W.alloc (.cells (zarr Z (.slice A n c)) 49)).alloc (.cells #[.float .f64 r, .float .f64 k, .float .f64 a] 53)).heap.size = W.heap.size + 2) := Lib.hid (by rw [size_al, size_al])
  obtain ⟨L, hL⟩ : ∃ L, rrunc Z (cls r) (cls k) (cls a) s ws (cls h) (hs0 n) = L := ⟨_, rfl⟩
  rw [hL]
  replace hL := Lib.hid hL
  replace hm := Lib.hid hm
  replace hn := Lib.hid hn
  clear hT hw a1 a2 a4 hl ho
  have hzarr : zarr Z (.slice A n c) = #[.float .f64 Z.al, .float .f64 Z.tg, .float .f64 Z.kp, .float .f64 Z.ki, .float .f64 Z.cap, .int .i64 Z.mo, .slice A n c] := rfl
  rw [hzarr] at hb0 hx0 hy0 hsz KN ⊢
  clear hzarr
  go_enter Tryd.func41, Tryd.ntmps41
  go_upto_region 7 with (first
    | (refine wpList_load_row rfl 49 _ rfl W.heap.size rfl 49 _ (0, 0) _ hx0 Tryd.underlying49 rfl (by kernel_rfl) ?_)
    | (go_at_call 49; (with_reducible refine (KN _ hb0).mono ?_); rintro e w1 ⟨gw, v, vo, rfl, hW1, hb1⟩; have hx1 := (hb1.block _ (heap_lt hx0)).trans hx0; have hy1 := (hb1.block _ (heap_lt hy0)).trans hy0; have h01 := hb0.trans (hb1.mono hb0.size); have yc0 : w1.cell? ⟨W.heap.size + 1, 0, none⟩ = some (.float .f64 r) := (by rw [cell_of_row _ _ 0 _ 53 (0, 0) hy1]; rfl); have yc1 : w1.cell? ⟨W.heap.size + 1, 1, none⟩ = some (.float .f64 k) := (by rw [cell_of_row _ _ 1 _ 53 (0, 0) hy1]; rfl); have yc2 : w1.cell? ⟨W.heap.size + 1, 2, none⟩ = some (.float .f64 a) := (by rw [cell_of_row _ _ 2 _ 53 (0, 0) hy1]; rfl))
    | (go_at_call 34; (with_reducible refine (KL _).mono ?_); rintro e w2 ⟨rfl, hb2⟩; have h02 := h01.trans (hb2.mono h01.size))
    | (go_at_call 35; (with_reducible refine (KH0 _).mono ?_); rintro e wq ⟨rfl, rfl⟩)
    | (go_at_call 36; (with_reducible refine (KSe _).mono ?_); rintro e wq ⟨rfl, rfl⟩))
  clear yc0 yc1 yc2
  have hW2 := hW1.below hb2
  have hx2 := (hb2.block _ (heap_lt hx1)).trans hx1
  have hy2 := (hb2.block _ (heap_lt hy1)).trans hy1
  obtain ⟨Bw, hBw⟩ : ∃ B, ((W.alloc (.cells #[.float .f64 Z.al, .float .f64 Z.tg, .float .f64 Z.kp, .float .f64 Z.ki, .float .f64 Z.cap, .int .i64 Z.mo, .slice A n c] 49)).alloc (.cells #[.float .f64 r, .float .f64 k, .float .f64 a] 53)).heap.size = B := ⟨_, rfl⟩
  rw [hBw] at hW2
  have hBe : Hid (Bw = W.heap.size + 2) := Lib.hid (by rw [← hBw]; exact hsz.out)
  clear hW1 hb1 hb2 hx1 hy1 hx0 hy0 hb0 h01 hsz hBw KN KL KSe KH0
  obtain ⟨H0, hH0s⟩ : ∃ H, w2.heap.size = H := ⟨_, rfl⟩
  replace hH0s := Lib.hid hH0s
  have hgo := Lib.hid (And.intro hW2.hB (And.intro (heap_lt hW2.hb) hW2.og))
  have hSl : Hid (∀ b, (b = gw ∨ vo.ownBlock = some b) → W.heap.size + 2 ≤ b ∧ b < H0) := Lib.hid (fun b hb => by
    have e1 := hgo.out.1
    have e2 := hgo.out.2.1
    have e3 := hBe.out
    have e4 := hH0s.out
    rcases hb with rfl | hb
    · omega
    · have e5 := (hW2.on.lt b hb).1
      have e6 := (hgo.out.2.2 b hb).1
      omega)
  obtain ⟨S, hS⟩ : ∃ S : Nat → Prop, (fun b => b = gw ∨ vo.ownBlock = some b) = S := ⟨_, rfl⟩
  have hSl' : Hid (∀ b, S b → W.heap.size + 2 ≤ b ∧ b < H0) := Lib.hid (by rw [← hS]; exact hSl.out)
  have KS := fun (X : World) (q : Hs) (x : Nat) (hX : Wr X Bw gw Z v vo q) (hq : Hok Z q) => rstep_any hX hZ hq x s
  rw [hS] at KS
  have hSg : Hid (S gw ∧ True) := Lib.hid ⟨by rw [← hS]; exact Or.inl rfl, trivial⟩
  have hbx := Lib.hid fun (X : World) (q : Fr H0 S w2 X) => And.intro ((q.k W.heap.size (by have := heap_lt hx2; have := hH0s.out; omega) (fun e => by have := (hSl'.out _ e).1; omega)).trans hx2) (And.intro ((q.k (W.heap.size + 1) (by have := heap_lt hy2; have := hH0s.out; omega) (fun e => by have := (hSl'.out _ e).1; omega)).trans hy2) (h02.trans (q.below (B := W.heap.size) (by have := h02.size; have := hH0s.out; omega) (fun b e => by have := (hSl'.out b e).1; omega))))
  have hF0 := Fr.refl H0 S w2
  clear hS hSl hx2 hy2 hgo
  go_loop [14] (fun s14 => ∃ i : Nat, i ≤ m ∧ s14 = .int .i64 i) (fun s14 => m - (intOf s14).toNat)
  case atStart => exact ⟨0, by omega, rfl⟩
  case round =>
    obtain ⟨i, hi, rfl⟩ := hrel
    by_cases him : i = m
    · subst him
      clear hall
      go_upto_region 14 with fail
      go_loopw [15, 16, 17] (fun s15 s16 s17 wr => ∃ (j : Nat) (x : Nat) (q : Hs) (done : List Tl) (vs : List Value) (sv : Value), sv = s15 ∧ j ≤ i ∧ s17 = .int .i64 j ∧ s16 = .float .f64 x ∧ L = done ++ rrunc Z (cls r) (cls k) (cls a) s (ws.drop j) (cls x) q ∧ done.length = j ∧ Rst wr H0 89 103 done sv vs ∧ Wr wr Bw gw Z v vo q ∧ Hok Z q ∧ Fr H0 S w2 wr) (fun _ _ s17 _ => i - (intOf s17).toNat)
      case atStart => exact ⟨0, h, hs0 n, [], [], _, rfl, by omega, rfl, rfl, by rw [List.drop_zero, hL.out]; rfl, rfl, Rst.nil _ _ _ _, hW2, hH0, hF0⟩
      case round =>
        clear hF0 hW2 hH0
        obtain ⟨j, x, q, done, vs, sv, rfl, hj, rfl, rfl, hLj, hdl, hR, hW, hq, hF⟩ := hrel
        obtain ⟨wk, rfl⟩ : ∃ w : World, w = wr := ⟨_, rfl⟩
        have hend : Hid (L = done → Rst wk W.heap.size 89 103 L sv vs ∧ Below W.heap.size W wk) := Lib.hid (fun e => by
          rw [e]; exact ⟨hR.mono (by have := hH0s.out; have := h02.size; omega), (hbx.out wk hF).2.2⟩)
        obtain ⟨A5, c5, hsv, -⟩ := hR.o.sl
        rw [hR.len, hdl] at hsv
        replace hdl := Lib.hid hdl
        by_cases hjm : j = i
        · subst hjm
          rw [List.drop_of_length_le (by rw [hm.out]; omega)] at hLj
          have he := hend.out (by rw [hLj]; exact List.append_nil _)
          replace he := Lib.hid he
          clear hLj hL hend hbx hwat hR
          subst hsv
          go_wp2
          go_ret2
          exact ⟨_, _, rfl, he.out⟩
        · have hlt : j < i := by omega
          have hjw : j < ws.length := by rw [hm.out]; exact hlt
          obtain ⟨hxk, hyk, hbk⟩ := hbx.out wk hF
          obtain ⟨gb, go_, rfl, -, -⟩ := hwat.out j hjw wk hbk
          have hcw : Hid (∀ X, Below W.heap.size W X → X.cell? ⟨gb, go_ + j, none⟩ = some (.float .f64 ws[j])) := Lib.hid fun X q => by
            obtain ⟨_, _, e, -, c⟩ := hwat.out j hjw X q
            cases e
            exact c
          have hdrop : ws.drop j = ws[j] :: ws.drop (j + 1) := List.drop_eq_getElem_cons hjw
          rw [hdrop] at hLj
          clear hdrop
          generalize ws[j] = p at *
          have y12 := hW.cl 12 (x := .bool q.sh) rfl
          have KX := KH x
          obtain ⟨nx, hnx⟩ : ∃ b, near x = b := ⟨_, rfl⟩
          rw [hnx] at KX
          cases nx with
          | false =>
            have he := hend.out (by rw [hLj, rrunc_stop _ (Or.inl hnx)]; exact List.append_nil _)
            replace he := Lib.hid he
            clear hLj hL hend hbx hwat hR hnx
            subst hsv
            go_wp2_with (go_at_call 35; (with_reducible refine (KX _).mono ?_); rintro e wq ⟨rfl, rfl⟩)
            go_ret2
            exact ⟨_, _, rfl, he.out⟩
          | true =>
            obtain ⟨sh, hsh⟩ : ∃ b, q.sh = b := ⟨_, rfl⟩
            rw [hsh] at y12
            cases sh with
            | true =>
              have he := hend.out (by rw [hLj, rrunc_stop _ (Or.inr hsh)]; exact List.append_nil _)
              replace he := Lib.hid he
              clear hLj hL hend hbx hwat hR hnx hsh
              subst hsv
              go_wp2_with (go_at_call 35; (with_reducible refine (KX _).mono ?_); rintro e wq ⟨rfl, rfl⟩)
              go_ret2
              exact ⟨_, _, rfl, he.out⟩
            | false =>
              rw [rrunc_go p _ hnx hsh] at hLj
              have KSx := KS wk q x hW hq
              have hq' := rnxt_ok hZ hq x s
              generalize rnxt Z q x s = q' at *
              generalize ht : rtold Z q x s = t at *
              generalize code q x s = cd at *
              clear hend hnx hsh ht hW
              subst hsv
              obtain ⟨td, tb, tl, ts, te⟩ := t
              unfold sarr at KSx
              simp only at KSx hLj
              obtain ⟨nt, hnt⟩ : ∃ n, (te.map erow).length = n := ⟨_, rfl⟩
              replace hnt := Lib.hid hnt
              go_upto_region 17 with (first
                | (go_at_call 35; (with_reducible refine (KX _).mono ?_); rintro e wq ⟨rfl, rfl⟩)
                | (go_at_call 50; (with_reducible refine (KSx).mono ?_); rintro e w4 ⟨tv, rfl, hO4, hW4, hF4⟩; obtain ⟨At, ct, htv, -⟩ := hO4.sl; rw [hnt.out] at htv; subst htv)
                | (refine wpList_store_row rfl 89 _ _ rfl w4.heap.size #[.float .f64 td, .bool tb, .int .i64 tl, .bool ts, .slice At nt ct] rfl rfl 89 _ (heap_alloc_at _ _) (by kernel_rfl) (by kernel_rfl) (by kernel_rfl) ?_))
              rw [setRow_alloc _ _ _ _ _ rfl]
              have hx5 := heap_alloc_at w4 (.cells #[.float .f64 td, .bool tb, .int .i64 tl, .bool ts, .slice At nt ct] 89)
              have hb45 := below_al (Below.refl w4.heap.size w4) (.cells #[.float .f64 td, .bool tb, .int .i64 tl, .bool ts, .slice At nt ct] 89)
              have hH4 : Hid (H0 ≤ w4.heap.size) := Lib.hid (by have := hF.size; have := hF4.size; have := hH0s.out; omega)
              have hR4 : Rst w4 H0 89 103 done (.slice A5 j c5) vs := hR.keep fun b e1 e2 => hF4.k b e2 (fun e => by have := (hSl'.out b e).2; omega)
              have hF5 : Fr H0 S w2 (w4.alloc (.cells #[.float .f64 td, .bool tb, .int .i64 tl, .bool ts, .slice At nt ct] 89)) := (hF.trans (hF4.mono (by have := hF.size; have := hH0s.out; omega) (fun _ _ e => e))).trans ((Fr.of hb45).mono hH4.out (fun _ _ e => e))
              have hR5 := hR4.o.below hb45
              obtain ⟨P5, hP5⟩ : ∃ P, w4.heap.size = P := ⟨_, rfl⟩
              rw [hP5] at hx5 ⊢
              generalize hw5 : w4.alloc (.cells #[.float .f64 td, .bool tb, .int .i64 tl, .bool ts, .slice At nt ct] 89) = w5 at *
              have hP5' : Hid (w5.heap.size = P5 + 1) := Lib.hid (by rw [← hw5, size_al, hP5])
              clear hw5
              replace hP5 := Lib.hid hP5
              have hbyt : Hid ((List.zipWith strow done vs).length ≤ 4096) := Lib.hid (by rw [hR.len, hdl.out]; omega)
              go_upto_region 18 with (first
                | (refine wpList_load_row rfl 89 _ rfl P5 rfl 89 _ (0, 0) _ hx5 Tryd.underlying89 rfl (by kernel_rfl) ?_)
                | (at_builtin; refine wpList_push_at elRs rfl _ _ rfl rfl (hR5.alloc _) [.float .f64 td, .bool tb, .int .i64 tl, .bool ts, .slice At nt ct] w5.heap.size 89 rfl (heap_alloc_at _ _) rfl (by simp [Value.oneCell']) (by have := hbyt.out; omega) (by have := hH4.out; have := hP5'.out; have := hP5.out; rw [size_al]; omega) ?_; intro v' w6 ho6 hb6 hs6 _ hg6 hat6))
              have hsk : Hid (wk.heap.size ≤ w4.heap.size ∧ H0 ≤ wk.heap.size) := Lib.hid ⟨hF4.size, by have := hF.size; have := hH0s.out; omega⟩
              have hR6 : Rst w6 H0 89 103 (done ++ [(⟨td, tb, tl, ts, te⟩ : Tl)]) v' (vs ++ [.slice At nt ct]) :=
                hR.push (fun b e1 e2 => hF4.k b e2 (fun e => by have := (hSl'.out b e).2; omega)) hsk.out.1 hO4 hsk.out.2 (below_al hb45 _) ho6 hg6 hat6
              have hb56 : Below H0 w5 w6 := ((below_al (Below.refl w5.heap.size w5) _).mono (by have := hP5'.out; have := hP5.out; have := hH4.out; omega)).trans hb6
              have hF6 : Fr H0 S w2 w6 := hF5.trans (Fr.of hb56)
              have hx6 : w6.heap[P5]? = some (.cells #[.float .f64 td, .bool tb, .int .i64 tl, .bool ts, .slice At nt ct] 89) := by
                rw [hg6.block P5 (by rw [size_al]; have := hP5'.out; omega) (fun e => by have := (hR.o.lt P5 e.symm).2; have := hsk.out.1; have := hP5.out; omega)]
                exact ((below_al (Below.refl w5.heap.size w5) _).block P5 (by have := hP5'.out; omega)).trans hx5
              obtain ⟨hxk6, hyk6, hbk6⟩ := hbx.out w6 hF6
              have hW6 : Wr w6 Bw gw Z v vo q' := hW4.keep (by
                  rw [hg6.block gw (by rw [size_al]; have := hP5'.out; have := hP5.out; have := heap_lt hW4.hb; omega) (fun e => by have := (hR.o.lt gw e.symm).1; have := (hSl'.out gw (hSg.out.1)).2; omega)]
                  exact (below_al hb45 _).block gw (heap_lt hW4.hb)) (fun b e => by
                  rw [hg6.block b (by rw [size_al]; have := hP5'.out; have := hP5.out; have := (hW4.tr.lt b e).2; omega) (fun e2 => by have := (hR.o.lt b e2.symm).1; have := hW4.vg b e; have := (hSl'.out gw (hSg.out.1)).2; omega)]
                  exact (below_al hb45 _).block b (hW4.tr.lt b e).2) (fun b e => by
                  rw [hg6.block b (by rw [size_al]; have := hP5'.out; have := hP5.out; have := (hW4.on.lt b e).2; omega) (fun e2 => by have := (hR.o.lt b e2.symm).1; have := (hW4.og b e).1; have := (hSl'.out gw (hSg.out.1)).2; omega)]
                  exact (below_al hb45 _).block b (hW4.on.lt b e).2)
              have y5 : w6.cell? ⟨W.heap.size, 5, none⟩ = some (.int .i64 Z.mo) := by rw [cell_of_row _ _ 5 _ 49 (0, 0) hxk6]; rfl
              have cw6 := hcw.out w6 hbk6
              have y2 : w6.cell? ⟨P5, 2, none⟩ = some (.int .i64 tl) := by rw [cell_of_row _ _ 2 _ 89 (0, 0) hx6]; rfl
              have hfin : Hid (∀ (w7 : World) (z p' : Nat), cls p' = pwc Z.mo p tl → cls z = flowc (cls r) (cls k) (cls a) (cls x) (cls p') (cls s) → Below w6.heap.size w6 w7 →
                  L = (done ++ [(⟨td, tb, tl, ts, te⟩ : Tl)]) ++ rrunc Z (cls r) (cls k) (cls a) s (ws.drop (j + 1)) (cls z) q' ∧ (done ++ [(⟨td, tb, tl, ts, te⟩ : Tl)]).length = j + 1 ∧ Rst w7 H0 89 103 (done ++ [(⟨td, tb, tl, ts, te⟩ : Tl)]) v' (vs ++ [.slice At nt ct]) ∧ Wr w7 Bw gw Z v vo q' ∧ Hok Z q' ∧ Fr H0 S w2 w7) := Lib.hid fun w7 z p' e1 e2 e3 => by
                refine ⟨by rw [hLj, e2, e1, List.append_assoc]; rfl, by rw [List.length_append, hdl.out]; rfl, hR6.below e3, hW6.below e3, hq', hF6.trans (Fr.of (e3.mono (by have := hF6.size; have := hH0s.out; omega)))⟩
              clear hR6 hW6 hF6 hg6 hat6 ho6 hb6 hs6 hb56 hR4 hR5 hR hF4 hF5 hb45 hO4 hW4 hLj hL hSl' hH4 hP5 hP5' hsk hwat hbx hx5 hxk hyk hbk hbk6 hxk6 hx6 hq' hq KSx
              by_cases hmo : 0 < Z.mo
              · have hpw : pwc Z.mo p tl = op2 .mul (cls p) (op2 .sub (cls 4607182418800017408) (op2 .quo (cls (floatOfInt .f64 tl)) (cls (floatOfInt .f64 Z.mo)))) := by
                  unfold pwc; rw [if_pos hmo, cls_nn (x := 4607182418800017408) (by unfold nn; decide)]
                replace hpw := Lib.hid hpw
                obtain ⟨FM, GM, hm', cm⟩ := veil (op := .mul) (Or.inr (Or.inr (Or.inl rfl))) 23
                obtain ⟨FS, GS, hs', cs⟩ := veil (op := .sub) (Or.inr (Or.inl rfl)) 23
                obtain ⟨FQ, GQ, hq', cq⟩ := veil (op := .quo) (Or.inr (Or.inr (Or.inr rfl))) 23
                go_wp2_with (first
                  | (refine wpList_load_row rfl 53 _ rfl (W.heap.size + 1) rfl 53 _ (0, 0) _ hyk6 Tryd.underlying53 rfl (by kernel_rfl) ?_)
                  | (go_at_call 37; (with_reducible refine (KF _ _ _).mono ?_); rintro e w7 ⟨z, rfl, hcz, hb7⟩))
                obtain ⟨f1, f2, f3, f4, f5, f6⟩ := hfin.out w7 z _ (by rw [cm, cs, cq, hpw.out]) hcz ((below_drewN' (Below.refl _ _) _).trans (by simpa using hb7))
                clear hfin
                go_roundw
                case rel => exact ⟨j + 1, z, q', _, _, v', rfl, by omega, by go_num, rfl, f1, f2, f3, f4, f5, f6⟩
                case measure => simp [intOf]; omega
              · have hpw : pwc Z.mo p tl = cls p := by unfold pwc; rw [if_neg hmo]
                replace hpw := Lib.hid hpw
                go_wp2_with (first
                  | (refine wpList_load_row rfl 53 _ rfl (W.heap.size + 1) rfl 53 _ (0, 0) _ hyk6 Tryd.underlying53 rfl (by kernel_rfl) ?_)
                  | (go_at_call 37; (with_reducible refine (KF _ _ _).mono ?_); rintro e w7 ⟨z, rfl, hcz, hb7⟩))
                obtain ⟨f1, f2, f3, f4, f5, f6⟩ := hfin.out w7 z _ hpw.out.symm hcz hb7
                clear hfin
                go_roundw
                case rel => exact ⟨j + 1, z, q', _, _, v', rfl, by omega, by go_num, rfl, f1, f2, f3, f4, f5, f6⟩
                case measure => simp [intOf]; omega
    · have hlt : i < m := by omega
      have hiw : i < ws.length := by rw [hm.out]; exact hlt
      obtain ⟨gb, go_, rfl, -, cw⟩ := hwat.out i hiw w2 h02
      have KX := KH ws[i]
      rw [hall.out _ (List.getElem_mem hiw)] at KX
      generalize ws[i] = p at *
      go_wp2_with (go_at_call 35; (with_reducible refine (KX _).mono ?_); rintro e wq ⟨rfl, rfl⟩)
      go_round
      case rel => exact ⟨i + 1, by omega, by go_num⟩
      case measure => simp [intOf]; omega
end Go.Proofs.YtdjdkhbagoideaaDoor
