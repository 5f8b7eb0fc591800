/- Crowd: CrowdRounds, walked. -/
import Derived.Test.YtcioejamohjdgaaRw2
namespace Go.Proofs.Ytcioejamohjdgaa
open Go.RowKit Go.BigFrame

set_option maxHeartbeats 8000000 in
set_option maxRecDepth 100000 in
theorem crowdRounds_walk (nd : List (List Int)) (bd : List Int) (A A2 : Option Addr) (c c2 n m : Nat) (w : World) (h : Nds w A nd) (hn : nd.length = n) (hb : Ints w A2 bd) (hm : bd.length = m) (hz2 : A2 = none → c2 = 0) (ht : tot nd ≤ 1048576) (hnb : n ≤ 1048576) (hmb : m ≤ 1048576) :
    Calls Try.prog 3 #[.slice A n c, .slice A2 m c2] w fun e w' => e = .returned (.bool true) ∧ Below w.heap.size w w' := by
  have hlb : ∀ l ∈ nd, l.length ≤ 1048576 := fun l hl => by
    obtain ⟨k, hk, rfl⟩ := List.getElem_of_mem hl
    exact Nat.le_trans (tot_mem hk) ht
  have KL := lent_any nd A c n w h hn hnb hlb
  have hnd := Lib.hid fun (X : World) (q : Below w.heap.size w X) => h.below q
  have hbd := Lib.hid fun (X : World) (q : Below w.heap.size w X) => hb.below q
  have hbl : Hid ((bd.map irow).length = m) := Lib.hid (by rw [List.length_map]; exact hm)
  have hm' := Lib.hid hm
  have hn' := Lib.hid hn
  have KRR := fun (X : World) (q : Below w.heap.size w X) => rrounds_any nd bd A A2 c c2 n m X (h.below q) hn (hb.below q) hm
  clear h hb hn hm
  go_enter Try.func3, Try.ntmps3
  go_upto_region 2 with (go_at_call 10; (with_reducible refine KL.mono ?_); rintro e w1 ⟨gx, cx, zs, rfl, hcx, hL1, hb1⟩)
  have hbd1 := hbd.out w1 hb1
  have hs1 := Lib.hid hb1.size
  go_upto_region 3 with (first
    | (at_builtin; refine wpList_app_any el23 rfl _ _ rfl rfl (Own.lit (w := w1) (base := w1.heap.size) (e := 3) (size := 1) (xs := []) #[] 0 rfl rfl (by simp) (Nat.le_refl _) (by decide)) A2 c2 m hbl.out.symm rfl hz2 (Sl.alloc hbd1 _) (one_ints bd) (by rw [hbl.out]; simp; omega) (by rw [size_al]; omega) ?_; intro v1 w2 ho1 hb2 hs2 _ _; rw [List.nil_append] at ho1)
    | (at_builtin; refine wpList_push el23 rfl _ _ rfl rfl (ho1.alloc _) [.int .i64 987] w2.heap.size 3 rfl (heap_alloc_at _ _) rfl (by simp [Value.oneCell']) (by rw [hbl.out]; omega) (by rw [size_al]; rw [size_al] at hs2; omega) ?_; intro v2 w3 ho2 hb3 hs3 _ _))
  obtain ⟨gy, cy, hvy, hcy, hcy'⟩ := own_end2 ho2 hbl.out
  subst hvy
  have hb13 : Below w1.heap.size w1 w3 := ((below_al (Below.refl w1.heap.size w1) _).trans hb2).trans ((below_al (Below.refl w2.heap.size w2) _).mono (by rw [size_al] at hs2; omega) |>.trans hb3)
  have hL3 := hL1.below hb13
  have hbw3 := hb1.trans (hb13.mono hs1.out)
  have hy3 : Own w3 w1.heap.size 3 1 ((bd ++ [987]).map irow) (.slice (some ⟨gy, 0, none⟩) (m + 1) cy) := by rw [List.map_append]; exact ho2
  clear ho1 hb2 hs2 ho2 hb3 hs3 hb13 hbd1 hL1 KL
  have KR3 := KRR w3 hbw3
  go_upto_region 4 with (go_at_call 11; (with_reducible refine KR3.mono ?_); rintro e w4 ⟨vt, ts, vl, rfl, hT4, hl4, hb4⟩)
  have hNx := Lib.hid fun (X : World) (q : Below w3.heap.size w3 X) => (hL3.below q).nds hn'.out hnb
  have hIy : Hid (∀ (X : World) (_ : Below w3.heap.size w3 X), Ints X (some ⟨gy, 0, none⟩) bd) := Lib.hid fun X q => by
    obtain ⟨A', c', e, hs⟩ := (hy3.below q).sl
    have e1 : some (⟨gy, 0, none⟩ : Addr) = A' := (Value.slice.inj e).1
    rw [← e1] at hs
    have h2 := (Sl.mono hs (S' := fun _ => True) (fun _ _ => trivial)).take bd.length
    rw [← List.map_take, List.take_left] at h2
    exact h2
  have KA := rounds_any nd bd (some ⟨gx, 0, none⟩) (some ⟨gy, 0, none⟩) cx cy n m w4 (hNx.out w4 hb4) hn'.out (hIy.out w4 hb4) hm'.out ht
  go_upto_region 5 with (go_at_call 12; (with_reducible refine KA.mono ?_); rintro e w5 ⟨va, sa, vb, H5, rfl, hT5, hl5, hH5, hG5, hb5⟩)
  have hb35 : Below w3.heap.size w3 w5 := hb4.trans (hb5.mono hb4.size)
  have KC := rounds_any nd bd (some ⟨gx, 0, none⟩) (some ⟨gy, 0, none⟩) cx cy n m w5 (hNx.out w5 hb35) hn'.out (hIy.out w5 hb35) hm'.out ht
  clear KA
  go_upto_region 6 with (go_at_call 12; (with_reducible refine KC.mono ?_); rintro e w6 ⟨vc, cs, vd, H6, rfl, hT6, hl6, -, -, hb6⟩)
  have hb36 : Below w3.heap.size w3 w6 := hb35.trans (hb6.mono hb35.size)
  clear KC
  obtain ⟨N, hN⟩ : ∃ N, (outT nd bd).length = N := ⟨_, rfl⟩
  obtain ⟨Q, hQ⟩ : ∃ Q, (outL nd bd).length = Q := ⟨_, rfl⟩
  have hb46 : Below w4.heap.size w4 w6 := hb5.trans (hb6.mono hb5.size)
  obtain ⟨At, ct, hvt, iT⟩ := (hT4.below hb46).nds hN
  obtain ⟨Aa, ca, hva, iA⟩ := (hT5.below hb6).nds hN
  obtain ⟨Ac, cc, hvc, iC⟩ := hT6.nds hN
  obtain ⟨Al, cl, hvl, iL⟩ := own_ints (hl4.below hb46) hQ
  obtain ⟨Ab, cb, hvb, iB⟩ := own_ints (hl5.below hb6) hQ
  obtain ⟨Ad, cd, hvd, iD⟩ := own_ints hl6 hQ
  have hN2 : ((outT nd bd).map (fun l => l.map (fun x : Nat => (x : Int)))).length = N := by rw [List.length_map]; exact hN
  have hQ2 : ((outL nd bd).map (fun x : Nat => (x : Int))).length = Q := by rw [List.length_map]; exact hQ
  have hQle := iL.le
  rw [hQ2] at hQle
  have hNle := iT.1
  rw [hN2] at hNle
  have S1 := fun (X : World) (q : Drawn w6 X) => lists_same _ Aa At ca ct N X (iA.drawn q) (iT.drawn q) hN2
  have S2 := fun (X : World) (q : Drawn w6 X) => lists_same _ Ac At cc ct N X (iC.drawn q) (iT.drawn q) hN2
  have S3 := fun (X : World) (q : Drawn w6 X) => numbers_same _ Ab Al cb cl Q X (iB.drawn q) (iL.drawn q) hQ2
  have S4 := fun (X : World) (q : Drawn w6 X) => numbers_same _ Ad Al cd cl Q X (iD.drawn q) (iL.drawn q) hQ2
  have S5 := fun (X : World) (q : Drawn w6 X) => kept_any nd A c n w.heap.size gx cx zs X ((hnd.out w6 (hbw3.trans (hb36.mono hbw3.size))).drawn q) hn'.out hnb hlb ((hL3.below hb36).below (q.below _)) hcx
  have S6 := fun (X : World) (q : Drawn w6 X) => numbers_same bd (some ⟨gy, 0, none⟩) A2 cy c2 m X ((hIy.out w6 hb36).drawn q) ((hbd.out w6 (hbw3.trans (hb36.mono hbw3.size))).drawn q) hm'.out
  have hY : Hid (∀ (X : World) (_ : Drawn w6 X), X.cell? ⟨gy, m, none⟩ = some (.int .i64 987)) := Lib.hid fun X q => by
    have hk : m < (bd ++ [987]).length := by rw [List.length_append, hm'.out]; simp
    have h9 := (((hy3.below hb36).below (q.below _)).cell1 (val := fun x => .int .i64 x) (fun _ => rfl) (by rw [List.length_append, hm'.out]; rfl) hk).1
    rw [List.getElem_append_right (by rw [hm'.out]; exact Nat.le_refl _)] at h9
    simpa using h9
  have hmy : (m : Int) < ((m + 1 : Nat) : Int) := by omega
  generalize hC : outC nd bd = C at *
  replace hC := Lib.hid hC
  have hCC : (C != C) = false := by simp
  replace iT := Lib.hid iT
  replace hvt := Lib.hid hvt
  have evt := hvt.out
  have evt2 := hvt
  have eva := Lib.hid hva
  have evb := Lib.hid hvb
  have evc := Lib.hid hvc
  have evd := Lib.hid hvd
  have evl := Lib.hid hvl
  clear hva hvb hvc hvd hvl hvt iA iC iL iB iD
  have dr0 := Drawn.refl w6
  rw [eva.out, evb.out, evc.out, evd.out, evl.out, evt]
  clear evt
  go_upto_region 8 with (first
    | (go_at_call 13; (with_reducible refine (S1 _ dr0).mono ?_); rintro e w7 ⟨rfl, dr1⟩)
    | (go_at_call 13; (with_reducible refine (S2 _ dr1).mono ?_); rintro e w8 ⟨rfl, dq2⟩; have dr2 := dr1.trans dq2)
    | (go_at_call 14; (with_reducible refine (S3 _ dr2).mono ?_); rintro e w9 ⟨rfl, dq3⟩; have dr3 := dr2.trans dq3)
    | (go_at_call 14; (with_reducible refine (S4 _ dr3).mono ?_); rintro e w10 ⟨rfl, dq4⟩; have dr4 := dr3.trans dq4)
    | (go_at_call 15; (with_reducible refine (S5 _ dr4).mono ?_); rintro e w11 ⟨rfl, dq5⟩; have dr5 := dr4.trans dq5; have y5 := hY.out _ dr5)
    | (go_at_call 14; (with_reducible refine (S6 _ dr5).mono ?_); rintro e w12 ⟨rfl, dq6⟩; have dr6 := dr5.trans dq6))
  have hF0 : Drawn w6 w12 := dr6
  have hbA : Below w.heap.size w w12 := (hbw3.trans (hb36.mono hbw3.size)).trans (dr6.below _)
  have hw04 : Hid (w.heap.size ≤ w4.heap.size) := Lib.hid (Nat.le_trans hbw3.size hb4.size)
  have hTa := (hT5.below hb6).drawn dr6
  have hTc := hT6.drawn dr6
  have hTw := (hT4.below hb46).drawn dr6
  have hLb := (hl5.below hb6).below (dr6.below _)
  have hLd := hl6.below (dr6.below _)
  have hLw := (hl4.below hb46).below (dr6.below _)
  have hsz := Lib.hid (And.intro hb4.size (And.intro hb5.size (And.intro hb6.size (dr6.below w6.heap.size).size)))
  have hHa := Lib.hid fun g e => hT5.lt g e
  have hHb := Lib.hid fun g e => hl5.lt g e
  have hHw := Lib.hid fun g e => hT4.lt g e
  have hHl := Lib.hid fun g e => hl4.lt g e
  clear S1 S2 S3 S4 S5 S6 KR3 KRR hNx hIy hY hnd hbd hlb hL3 hy3 hb36 hb35 hb46 hbw3 hb1 hb4 hb5 hb6 hT4 hT5 hT6 hl4 hl5 hl6 dr0 dr1 dr2 dr3 dr4 dr5 dr6 dq2 dq3 dq4 dq5 dq6 hF0 hCC hmy y5 hcy' iT
  obtain ⟨wA, hwA⟩ : ∃ x : World, x = w12 := ⟨_, rfl⟩
  rw [← hwA] at hTa hTc hTw hLb hLd hLw hsz hbA ⊢
  clear hwA
  replace hbA := Lib.hid hbA
  have hTa' := Lib.hid hTa
  have hTc' := Lib.hid hTc
  have hTw' := Lib.hid hTw
  have hLb' := Lib.hid hLb
  have hLd' := Lib.hid hLd
  have hLw' := Lib.hid hLw
  clear hTa hTc hTw hLb hLd hLw
  obtain ⟨S, hS⟩ : ∃ S : Nat → Nat → Prop, Hid (∀ i b, S i b ↔ ∃ j x, j < i ∧ sa[j]? = some x ∧ x.ownBlock = some b) := ⟨_, Lib.hid fun i b => Iff.rfl⟩
  go_upto_region 9 with fail
  go_loopw [16] (fun s16 wr => ∃ i : Nat, i ≤ N ∧ s16 = .int .i64 i ∧ Fr wA.heap.size (S i) wA wr) (fun s16 _ => N - (intOf s16).toNat)
  case atStart => exact ⟨0, by omega, rfl, Fr.refl _ _ _⟩
  case round =>
    obtain ⟨i, hi, rfl, hF⟩ := hrel
    obtain ⟨wk, rfl⟩ : ∃ x : World, x = wr := ⟨_, rfl⟩
    by_cases hiN : i = N
    · have hiN2 := hiN.symm
      subst hiN2
      have hbk := hLb'.out.keep (w' := wk) (fun b e => hF.k b (hLb'.out.lt b e).2 (fun e2 => by
        obtain ⟨j, x, -, hx, ex⟩ := (hS.out _ _).1 e2
        have h1 := hH5 b (Or.inr ⟨x, List.mem_of_getElem? hx, ex⟩)
        have h2 := hG5 b e
        omega))
      have hb0 : Own wk w4.heap.size 3 1 (((outL nd bd).map (fun x : Nat => (x : Int))).map irow) vb := by rw [List.map_map]; exact hbk
      obtain ⟨S2, hS2⟩ : ∃ S2 : Nat → Prop, Hid (∀ b, S2 b ↔ S N b ∨ vb.ownBlock = some b) := ⟨_, Lib.hid fun b => Iff.rfl⟩
      have hF2 : Fr wA.heap.size S2 wA wk := hF.mono (Nat.le_refl _) (fun b _ e => (hS2.out b).2 (Or.inl e))
      clear hbk hF hiN
      go_upto_region 23 with fail
      go_loopw [20] (fun s20 wr => ∃ (j : Nat) (l : List Int), j ≤ Q ∧ s20 = .int .i64 j ∧ l.length = Q ∧ Own wr w4.heap.size 3 1 (l.map irow) vb ∧ Fr wA.heap.size S2 wA wr) (fun s20 _ => Q - (intOf s20).toNat)
      case atStart => exact ⟨0, _, by omega, rfl, hQ2, hb0, hF2⟩
      case round =>
        clear hb0 hF2
        obtain ⟨j, l, hj, rfl, hlq, hO, hF⟩ := hrel
        obtain ⟨wk, rfl⟩ : ∃ x : World, x = wr := ⟨_, rfl⟩
        by_cases hjQ : j = Q
        · have hS3 : ∀ b, S2 b → w4.heap.size ≤ b ∧ b < w5.heap.size := fun b e => by
            rcases (hS2.out b).1 e with e | e
            · obtain ⟨j, x, -, hx, ex⟩ := (hS.out _ _).1 e
              exact hHa.out b (Or.inr ⟨x, List.mem_of_getElem? hx, ex⟩)
            · exact hHb.out b e
          have kc := (hTc'.out.keep (w' := wk) (fun g h1 h2 _ => hF.k g h2 (fun e => by have := hS3 g e; omega))).nds' hN evc.out
          have kw := (hTw'.out.keep (w' := wk) (fun g h1 h2 e3 => hF.k g h2 (fun e => by have := hS3 g e; have := hHw.out g e3; omega))).nds' hN evt2.out
          have kd := own_ints' (hLd'.out.keep (w' := wk) (fun g e3 => hF.k g (hLd'.out.lt g e3).2 (fun e => by have := hS3 g e; have := hLd'.out.lt g e3; omega))) hQ evd.out
          have kl := own_ints' (hLw'.out.keep (w' := wk) (fun g e3 => hF.k g (hLw'.out.lt g e3).2 (fun e => by have := hS3 g e; have := hHl.out g e3; omega))) hQ evl.out
          have F1 := lists_same _ Ac At cc ct N wk kc kw hN2
          have F2 := fun (X : World) (q : Drawn wk X) => numbers_same _ Ad Al cd cl Q X (kd.drawn q) (kl.drawn q) hQ2
          have hbF : Hid (Below w.heap.size w wk) := Lib.hid (hbA.out.trans (hF.below (by have := hbA.out.size; omega) (fun b e => by have h1 := (hS3 b e).1; have h2 := hw04.out; omega)))
          have hj2 := hjQ.symm
          subst hj2
          clear kc kw kd kl hF hO hjQ
          go_wp2_with (first
            | (go_at_call 13; (with_reducible refine F1.mono ?_); rintro e wx ⟨rfl, dx⟩)
            | (go_at_call 14; (with_reducible refine (F2 _ dx).mono ?_); rintro e wy ⟨rfl, dy⟩))
          go_ret
          exact ⟨rfl, (hbF.out.trans (dx.below _)).trans (dy.below _)⟩
        · have hjlt : j < Q := by omega
          obtain ⟨g, cq, ev, hg1, -, -⟩ := hO.form (by rw [List.length_map, hlq]; omega)
          have eA := (Value.slice.inj (evb.out.symm.trans ev)).1
          have hOg : Own wk w4.heap.size 3 1 (l.map irow) (.slice (some ⟨g, 0, none⟩) Q cb) := by rw [← eA, ← evb.out]; exact hO
          obtain ⟨cx1, fx1⟩ := hOg.cell1 (val := fun x => .int .i64 x) (fun _ => rfl) hlq (k := j) (by rw [hlq]; exact hjlt)
          have hput := Lib.hid (hOg.put1 (val := fun x => .int .i64 x) (fun _ => rfl) hlq hjlt (-3))
          have hsg : S2 g := (hS2.out g).2 (Or.inr (by rw [evb.out, eA]; rfl))
          have hFs := Lib.hid (hF.set (p := ⟨g, j, none⟩) (fun _ => hsg) (.int .i64 (-3)))
          generalize l[j] = old at *
          have evg : Hid (Value.slice (some ⟨g, 0, none⟩) Q cb = vb) := Lib.hid (by rw [evb.out, eA])
          have hlq' := Lib.hid hlq
          have hjh := Lib.hid hjlt
          clear hO hOg hF ev hsg hg1 hlq
          rw [eA]
          clear eA
          go_wp2
          go_roundw
          case rel => exact ⟨j + 1, l.set j (-3), by have := hjh.out; omega, by go_num, by rw [List.length_set]; exact hlq'.out, by rw [← evg.out]; exact hput.out, hFs.out⟩
          case measure => (have := hjh.out; first | (simp [intOf]; done) | (simp [intOf]; omega))
    · have hlt : i < N := by omega
      have hal : sa.length = N := by rw [hTa'.out.l, List.length_map]; exact hN
      have hil : i < sa.length := by rw [hal]; exact hlt
      have hiT : i < (outT nd bd).length := by rw [hN]; exact hlt
      have hx := List.getElem?_eq_getElem hil
      have hrow := hTa'.out.r i sa[i] _ hx (by rw [List.getElem?_map, List.getElem?_eq_getElem hiT]; rfl)
      have hrk := hrow.keep (w' := wk) (fun b e => hF.k b (hrow.lt b e).2 (fun e2 => by
        obtain ⟨j, y, hj, hy, ey⟩ := (hS.out _ _).1 e2
        exact hTa'.out.dd j i y sa[i] hy hx (by omega) b ey e))
      have hok := hTa'.out.o.keep (w' := wk) (fun b e => hF.k b (hTa'.out.o.lt b e).2 (fun e2 => by
        obtain ⟨j, y, hj, hy, ey⟩ := (hS.out _ _).1 e2
        exact hTa'.out.d j y hy b ey e))
      obtain ⟨g0, c0, ev0, -, -, -⟩ := hok.form (by rw [List.length_map, hal]; omega)
      have eA := (Value.slice.inj (eva.out.symm.trans ev0)).1
      have hok2 : Own wk w4.heap.size 23 1 (sa.map fun x => [x]) (.slice (some ⟨g0, 0, none⟩) N ca) := by rw [← eA, ← eva.out]; exact hok
      have ca0 := (hok2.cell1 (row := fun x => [x]) (val := fun x => x) (fun _ => rfl) hal hil).1
      have hr0 : Own wk w4.heap.size 3 1 (((outT nd bd)[i].map (fun x : Nat => (x : Int))).map irow) sa[i] := by rw [List.map_map]; exact hrk
      have hSx : Hid (∀ b, sa[i].ownBlock = some b → S (i + 1) b) := Lib.hid fun b e => (hS.out _ _).2 ⟨i, sa[i], Nat.lt_succ_self _, hx, e⟩
      have hF1 : Fr wA.heap.size (S (i + 1)) wA wk := hF.mono (Nat.le_refl _) (fun b _ e => by
        obtain ⟨j, y, hj, hy, ey⟩ := (hS.out _ _).1 e
        exact (hS.out _ _).2 ⟨j, y, by omega, hy, ey⟩)
      have hl0 : (((outT nd bd)[i].map (fun x : Nat => (x : Int)))).length = (outT nd bd)[i].length := by rw [List.length_map]
      have hLn : (outT nd bd)[i].length ≤ 1048576 := Nat.le_trans (outT_row nd bd _ (List.getElem_mem hiT)) (by rw [hn'.out]; exact hnb)
      obtain ⟨L, hL⟩ : ∃ L, (outT nd bd)[i].length = L := ⟨_, rfl⟩
      rw [hL] at hLn
      replace hLn := Lib.hid hLn
      rw [hL] at hl0
      have hxc := hTa'.out
      obtain ⟨xr, hxr⟩ : ∃ x, sa[i] = x := ⟨_, rfl⟩
      rw [hxr] at hr0 hSx ca0
      obtain ⟨Ax, cx1, ex, -⟩ := hr0.sl
      rw [List.length_map, hl0] at ex
      rw [hxr] at hrk
      have hLle := own_ints hrk hL
      obtain ⟨Ax2, cx2, ex2, hIx⟩ := hLle
      have hLb := hIx.le
      rw [hl0] at hLb
      have ex' := Lib.hid ex
      rw [ex] at ca0
      clear hxr hrow hrk hok hok2 hx hF hxc hal ex hIx ex2 ev0
      obtain ⟨bt, ot, eAt⟩ : ∃ b o, At = some ⟨b, o, none⟩ := by obtain ⟨b, o, Ak, ck, e, -⟩ := (hTw'.out.nds' hN evt2.out).2 i (by rw [hN2]; exact hlt); exact ⟨b, o, e⟩
      rw [eA, eAt]
      have eA' := Lib.hid eA
      have heAt := Lib.hid eAt
      clear eA eAt
      go_upto_region 13 with fail
      go_loopw [18] (fun s18 wr => ∃ (j : Nat) (l : List Int), j ≤ L ∧ s18 = .int .i64 j ∧ l.length = L ∧ Own wr w4.heap.size 3 1 (l.map irow) xr ∧ Fr wA.heap.size (S (i + 1)) wA wr) (fun s18 _ => L - (intOf s18).toNat)
      case atStart => exact ⟨0, _, by omega, rfl, hl0, hr0, hF1⟩
      case round =>
        clear hr0 hF1
        obtain ⟨j, l, hj, rfl, hlq, hO, hF⟩ := hrel
        obtain ⟨wk2, rfl⟩ : ∃ x : World, x = wr := ⟨_, rfl⟩
        by_cases hjL : j = L
        · have hjL2 := hjL.symm
          subst hjL2
          have hO1 : Own wk2 w4.heap.size 3 1 (l.map irow) (.slice Ax L cx1) := by rw [← ex'.out]; exact hO
          have hSx1 : ∀ b, (Value.slice Ax L cx1).ownBlock = some b → b < wA.heap.size → S (i + 1) b := fun b e _ => hSx.out b (by rw [ex'.out]; exact e)
          have hlm : (l.map irow).length = L := by rw [List.length_map]; exact hlq
          clear hO hjL
          go_upto_region 17 with fail
          go_loopw [17, 19] (fun s17 s19 wr => ∃ (k : Nat) (Az : Option Addr) (cz : Nat) (zs : List (List Value)), k ≤ 20 ∧ s17 = .slice Az (L + k) cz ∧ s19 = .int .i64 k ∧ zs.length = L + k ∧ Own wr w4.heap.size 3 1 zs (.slice Az (L + k) cz) ∧ (∀ b, (Value.slice Az (L + k) cz).ownBlock = some b → b < wA.heap.size → S (i + 1) b) ∧ Fr wA.heap.size (S (i + 1)) wA wr) (fun _ s19 _ => 20 - (intOf s19).toNat)
          case atStart => exact ⟨0, Ax, cx1, _, by omega, rfl, rfl, hlm, hO1, hSx1, hF⟩
          case round =>
            clear hO1 hSx1 hlm hF hlq
            obtain ⟨k, Az, cz, zs, hk, rfl, rfl, hzl, hO, hSz, hF⟩ := hrel
            obtain ⟨wz, rfl⟩ : ∃ x : World, x = wr := ⟨_, rfl⟩
            by_cases hk20 : k = 20
            · have hk202 := hk20
              subst hk202
              have hHS : ∀ b, S (i + 1) b → w4.heap.size ≤ b ∧ b < w5.heap.size := fun b e => by
                obtain ⟨j, x, -, hx, ex⟩ := (hS.out _ _).1 e
                exact hHa.out b (Or.inr ⟨x, List.mem_of_getElem? hx, ex⟩)
              have hsb : ∀ b, S (i + 1) b → b < H5 := fun b e => by
                obtain ⟨j, x, -, hx, ex⟩ := (hS.out _ _).1 e
                exact hH5 b (Or.inr ⟨x, List.mem_of_getElem? hx, ex⟩)
              have kb := own_ints' (hLb'.out.keep (w' := wz) (fun b e => hF.k b (hLb'.out.lt b e).2 (fun e2 => by have h1 := hsb b e2; have h2 := hG5 b e; omega))) hQ evb.out
              have kl := own_ints' (hLw'.out.keep (w' := wz) (fun b e => hF.k b (hLw'.out.lt b e).2 (fun e2 => by have h1 := (hHS b e2); have h2 := hHl.out b e; omega))) hQ evl.out
              have kw := (hTw'.out.keep (w' := wz) (fun b h1 h2 e3 => hF.k b h2 (fun e => by have := hHS b e; have := hHw.out b e3; omega))).nds' hN evt2.out
              rw [heAt.out] at kw
              have kwd := kw.drop (i + 1)
              have hTg : Tbl wA w4.heap.size 23 3 1 ((outT nd bd).map (·.map nrow)) (.slice (some ⟨g0, 0, none⟩) N ca) sa := by rw [← eA'.out, ← eva.out]; exact hTa'.out
              have hg0v : va.ownBlock = some g0 := by rw [eva.out, eA'.out]; rfl
              have kad := hTg.nds_drop (X := wz) hN (i + 1) (hF.k g0 (hTa'.out.o.lt g0 hg0v).2 (fun e2 => by
                  obtain ⟨j, y, hj, hy, ey⟩ := (hS.out _ _).1 e2
                  exact hTa'.out.d j y hy g0 ey hg0v))
                (fun j x g hj hx hg => hF.k g (hTa'.out.lt g (Or.inr ⟨x, List.mem_of_getElem? hx, hg⟩)).2 (fun e2 => by
                  obtain ⟨j', y, hj', hy, ey⟩ := (hS.out _ _).1 e2
                  exact hTa'.out.dd j' j y x hy hx (by omega) g ey hg)) hF.size
              have hdl : ((List.map (fun l => List.map (fun x : Nat => (x : Int)) l) (outT nd bd)).drop (i + 1)).length = N - (i + 1) := by rw [List.length_drop, hN2]
              obtain ⟨Z, hZ⟩ : ∃ Z, L + 20 = Z := ⟨_, rfl⟩
              have hZ2 : (20 : Int) ≤ (Z : Int) := by omega
              rw [hZ]
              replace hF := Lib.hid hF
              clear hSz hO hzl hZ hTg hg0v hHS hsb kw
              have F2 := fun m => numbers_same _ Ab Al cb cl Q (wz.drewN m) (kb.drawn ⟨m, rfl⟩) (kl.drawn ⟨m, rfl⟩) hQ2
              have hcaN : N ≤ ca := own_cap' (by rw [← eva.out]; exact hTa'.out.o) (by omega)
              have hctN : N ≤ ct := own_cap' (by rw [← evt2.out]; exact hTw'.out.o) (by omega)
              have hdrop0 := Lib.hid fun (q : N ≤ i + 1) => (List.drop_eq_nil_of_le (by rw [hN2]; exact q) : (List.map (fun l => List.map (fun x : Nat => (x : Int)) l) (outT nd bd)).drop (i + 1) = [])
              by_cases hca : ca = i + 1
              · have hdrop := hdrop0.out (by omega)
                have F1 := fun (m : Nat) (A1 A2 : Option Addr) (c1 c2 : Nat) => lists_same _ A1 A2 c1 c2 (N - (i + 1)) (wz.drewN m) (by rw [hdrop]; exact nds_nil _ _) (by rw [hdrop]; exact nds_nil _ _) hdl
                clear hcaN hdrop
                by_cases hct : ct = i + 1
                · clear hctN
                  go_upto_region 20 with fail
                  have hZ3 : ¬ ((Z : Int) < 20) := by omega
                  go_big_quiet (first | (go_at_call 13; (with_reducible exact quiet_drawn (F1 _ _ _ _ _))) | (go_at_call 14; (with_reducible exact quiet_drawn (F2 _))))
                  go_wp2
                  go_roundw
                  case rel => exact ⟨i + 1, by omega, by go_num, hF.out.drewN _⟩
                  case measure => first | (simp [intOf]; done) | (simp [intOf]; omega)
                · clear hctN
                  go_upto_region 20 with fail
                  have hZ3 : ¬ ((Z : Int) < 20) := by omega
                  go_big_quiet (first | (go_at_call 13; (with_reducible exact quiet_drawn (F1 _ _ _ _ _))) | (go_at_call 14; (with_reducible exact quiet_drawn (F2 _))))
                  go_wp2
                  go_roundw
                  case rel => exact ⟨i + 1, by omega, by go_num, hF.out.drewN _⟩
                  case measure => first | (simp [intOf]; done) | (simp [intOf]; omega)
              · by_cases hct : ct = i + 1
                · have hdrop := hdrop0.out (by omega)
                  have F1 := fun (m : Nat) (A1 A2 : Option Addr) (c1 c2 : Nat) => lists_same _ A1 A2 c1 c2 (N - (i + 1)) (wz.drewN m) (by rw [hdrop]; exact nds_nil _ _) (by rw [hdrop]; exact nds_nil _ _) hdl
                  clear hcaN hctN hdrop
                  go_upto_region 20 with fail
                  have hZ3 : ¬ ((Z : Int) < 20) := by omega
                  go_big_quiet (first | (go_at_call 13; (with_reducible exact quiet_drawn (F1 _ _ _ _ _))) | (go_at_call 14; (with_reducible exact quiet_drawn (F2 _))))
                  go_wp2
                  go_roundw
                  case rel => exact ⟨i + 1, by omega, by go_num, hF.out.drewN _⟩
                  case measure => first | (simp [intOf]; done) | (simp [intOf]; omega)
                · have F1 := fun m => lists_same _ (some ⟨g0, i + 1, none⟩) (some ⟨bt, ot + (i + 1), none⟩) (ca - (i + 1)) (ct - (i + 1)) (N - (i + 1)) (wz.drewN m) (kad.drawn ⟨m, rfl⟩) (kwd.drawn ⟨m, rfl⟩) hdl
                  go_upto_region 20 with fail
                  have hZ3 : ¬ ((Z : Int) < 20) := by omega
                  go_big_quiet (first | (go_at_call 13; (with_reducible exact quiet_drawn (F1 _))) | (go_at_call 14; (with_reducible exact quiet_drawn (F2 _))))
                  go_wp2
                  go_roundw
                  case rel => exact ⟨i + 1, by omega, by go_num, hF.out.drewN _⟩
                  case measure => first | (simp [intOf]; done) | (simp [intOf]; omega)
            · have hklt : k < 20 := by omega
              have hzl' := Lib.hid hzl
              have hsA := Lib.hid hF.size
              have hsz' := hsz.out
              have hw4 : w4.heap.size ≤ wz.heap.size := by have := hsA.out; omega
              have hS0 := Lib.hid hSz
              have hF0 := Lib.hid hF
              clear hSz hF hzl hsz'
              go_wp2_with (at_builtin; refine wpList_push_at el23 rfl _ _ rfl rfl (hO.alloc _) [.int .i64 (-2)] wz.heap.size 3 rfl (heap_alloc_at _ _) rfl (by simp [Value.oneCell']) (by rw [hzl'.out]; have := hLn.out; omega) (by rw [size_al]; omega) ?_; intro v3 w3 ho3 hb3 hs3 _ hg3 hat3; obtain ⟨g3, c3, rfl, -, -⟩ := own_end2 ho3 hzl'.out; replace hg3 := Lib.hid hg3; replace hat3 := Lib.hid hat3; replace ho3 := Lib.hid ho3; replace hb3 := Lib.hid hb3; replace hs3 := Lib.hid hs3)
              go_roundw
              case rel =>
                refine ⟨k + 1, some ⟨g3, 0, none⟩, c3, zs ++ [[.int .i64 (-2)]], by omega, by rw [Nat.add_assoc], by go_num, by simp [hzl'.out, Nat.add_assoc], by rw [← Nat.add_assoc]; exact ho3.out, ?_, ?_⟩
                · intro b e hb
                  rcases hat3.out with e3 | e3
                  · exact hS0.out b ((show (Value.slice Az (L + k) cz).ownBlock = _ from e3.symm).trans e) hb
                  · cases e3.symm.trans e
                    have := hsA.out
                    rw [size_al] at hb
                    omega
                · exact ⟨hF0.out.g.trans (((below_al (Below.refl wz.heap.size wz) _).mono (Nat.zero_le _)).trans (hb3.out.mono (Nat.zero_le _))), fun b hb hn => by
                    have hlt : b < wz.heap.size := by have := hsA.out; omega
                    have h1 := hg3.out.block b (by rw [size_al]; omega) (fun e => hn (hS0.out b e.symm hb))
                    rw [h1, Below.heap_alloc _ _ _ hlt]
                    exact hF0.out.k b hb hn⟩
              case measure => first | (simp [intOf]; done) | (simp [intOf]; omega)
        · have hjlt : j < L := by omega
          obtain ⟨g, cq, ev, hg1, -, -⟩ := hO.form (by rw [List.length_map, hlq]; omega)
          have eX := (Value.slice.inj (ex'.out.symm.trans ev)).1
          have hOg : Own wk2 w4.heap.size 3 1 (l.map irow) (.slice (some ⟨g, 0, none⟩) L cx1) := by rw [← eX, ← ex'.out]; exact hO
          obtain ⟨cy1, fx1⟩ := hOg.cell1 (val := fun x => .int .i64 x) (fun _ => rfl) hlq (k := j) (by rw [hlq]; exact hjlt)
          have hput := Lib.hid (hOg.put1 (val := fun x => .int .i64 x) (fun _ => rfl) hlq hjlt (-1))
          have hsg : S (i + 1) g := hSx.out g (by rw [ex'.out, eX]; rfl)
          have hFs := Lib.hid (hF.set (p := ⟨g, j, none⟩) (fun _ => hsg) (.int .i64 (-1)))
          generalize l[j] = old at *
          have evg : Hid (Value.slice (some ⟨g, 0, none⟩) L cx1 = xr) := Lib.hid (by rw [ex'.out, eX])
          have hlq' := Lib.hid hlq
          have hjh := Lib.hid hjlt
          clear hO hOg hF ev hsg hg1 hlq
          rw [eX]
          clear eX
          go_wp2
          go_roundw
          case rel => exact ⟨j + 1, l.set j (-1), by have := hjh.out; omega, by go_num, by rw [List.length_set]; exact hlq'.out, by rw [← evg.out]; exact hput.out, hFs.out⟩
          case measure => (have := hjh.out; first | (simp [intOf]; done) | (simp [intOf]; omega))
end Go.Proofs.Ytcioejamohjdgaa
