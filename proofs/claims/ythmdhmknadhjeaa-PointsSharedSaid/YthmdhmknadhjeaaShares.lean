/- PointsShared, walked. -/
import Derived.Test.YthmdhmknadhjeaaShare
import Derived.Test.YthmdhmknadhjeaaVotes
import Derived.Deep.RegionHeld3
import Derived.StillTailTactics
namespace Go.Proofs.Ythmdhmknadhjeaa
open Go.RowKit Go.BigFrame

theorem Own.ne {w : World} {B B' : Nat} {e e' : TypeId} {s s' : Nat} {xs ys : List (List Value)} {v v' : Value} (h : Own w B e s xs v) (h' : Own w B' e' s' ys v') (hne : e ≠ e') {g : Nat} (hg : v.ownBlock = some g) : v'.ownBlock ≠ some g := by
  intro hg'
  rcases h.1.2 with ⟨rfl, _⟩ | ⟨g1, cap, cur, rfl, _, h1, _⟩
  · cases hg
  rcases h'.1.2 with ⟨rfl, _⟩ | ⟨g2, cap', cur', rfl, _, h2, _⟩
  · cases hg'
  cases hg
  cases hg'
  rw [h1] at h2
  simp only [Option.some.injEq, Obj.cells.injEq] at h2
  exact hne h2.2.1
theorem Tbl.ne {w : World} {B B' : Nat} {eo ei e' : TypeId} {s s' : Nat} {tt : List (List (List Value))} {ys : List (List Value)} {v v' : Value} {vs : List Value} (h : Tbl w B eo ei s tt v vs) (h' : Own w B' e' s' ys v') (h1 : eo ≠ e') (h2 : ei ≠ e') {g : Nat} (hg : v.ownBlock = some g ∨ ∃ x ∈ vs, x.ownBlock = some g) : v'.ownBlock ≠ some g := by
  rcases hg with hg | ⟨x, hx, hg⟩
  · exact h.o.ne h' h1 hg
  · obtain ⟨k, hk, rfl⟩ := List.getElem_of_mem hx
    exact (h.r k _ _ (List.getElem?_eq_getElem hk) (List.getElem?_eq_getElem (by rw [← h.l]; exact hk))).ne h' h2 hg
theorem take_tame (tt : List (List Pt)) {k : Nat} (hk : k < tt.length) : ((tt.take k).map tame).map (·.map prow) ++ [(tame tt[k]).map prow] = ((tt.take (k + 1)).map tame).map (·.map prow) := by
  rw [List.take_succ_eq_append_getElem hk, List.map_append, List.map_append]; rfl

set_option maxHeartbeats 16000000 in
set_option maxRecDepth 100000 in
theorem shared_walk (tt : List (List Pt)) (rs : List Int) (A R : Option Addr) (c d : Nat) (w : World) (ht : Tabs w A tt) (hr : Ints w R rs) :
    Calls Try.prog 8 #[.slice A tt.length c, .slice R rs.length d] w fun e w' => e = .returned (.bool true) ∧ Below w.heap.size w w' := by
  have hlt := ht.1
  have hlr := hr.le
  go_enter Try.func8, Try.ntmps8
  go_wp2_with (go_at_call 22; refine (works_any _).mono ?_; rintro e w0 ⟨rfl, hb0⟩)
  have ht0 := ht.below hb0
  have hr0 := hr.below hb0
  go_loopw [5, 6, 7] (fun v u i wr => ∃ (k : Nat) (vs : List Value), k ≤ tt.length ∧ k ≤ 20 ∧ i = .int .i64 k ∧ PT wr w0.heap.size 25 36 ((tt.take k).map tame) v vs ∧ Own wr w0.heap.size 2 1 ((askRs tt rs k).map irow) u ∧ Below w0.heap.size w0 wr) (fun _ _ i _ => tt.length - (intOf i).toNat)
  case atStart => exact ⟨0, [], by omega, by omega, rfl, Tbl.nil _ _ _ _ _, Own.nil _ _ _ _, Below.refl _ _⟩
  case round =>
    obtain ⟨k, vs, hk, hk20, rfl, hT, hO, hg⟩ := hrel
    by_cases hend : k = tt.length ∨ k = 20
    · obtain ⟨V, Q, hv, hQ, hV0, hVa, hVb, hF, hM⟩ := share_plain tt rs k hk hk20
      have hatT : ∀ j (h : j < k), ((tt.take k).map tame)[j]? = some (tame (tt[j]'(by omega))) := fun j h => by simp [h, show j < tt.length by omega]
      replace hatT := Lib.hid hatT
      obtain ⟨Ai, ci, hvv, hTi⟩ := PT.tabs hT
      have hvn : ((tt.take k).map tame).length = k := by simp; omega
      rw [hvn] at hvv
      subst hvv
      obtain ⟨Aw, cw, hvw, hiw⟩ := hO.ints
      rw [askRs_len] at hvw
      subst hvw
      have VC := vote_any ((tt.take k).map tame) (askRs tt rs k) Ai Aw ci cw _ hTi hiw
      rw [hvn, askRs_len, hv] at VC
      simp only at VC
      replace hF := Lib.hid hF
      replace hM := Lib.hid hM
      replace hQ := Lib.hid hQ
      have hgw := hb0.trans (hg.mono hb0.size)
      have hsz := hgw.size
      have hk3 : k < tt.length ∨ ¬ k < tt.length := by omega
      clear hv hT hO hg ht0 hr0 ht hr hb0 hvn
      have hend2 : (¬ (k : Int) < tt.length) ∨ ((k : Int) < tt.length ∧ ¬ (k : Int) < 20) := by omega
      clear hend hk3
      by_cases hk0 : k = 0
      · subst hk0
        rcases hend2 with h1 | ⟨h1, h2⟩
        case inr => exact absurd (by decide) h2
        · skip
          obtain rfl := hV0 rfl
          clear hV0
          go_wp2_with (go_at_call 13; refine VC.mono ?_; rintro e w1 ⟨vp, rfl, hp, hb1⟩; obtain ⟨Ap, cp, hvp, hip⟩ := Own.ints hp; rw [hQ.out] at hvp; subst hvp)
          go_loopw [12, 13] (fun b i wr => b = .bool true ∧ i = .int .i64 0 ∧ wr = w1) (fun _ _ _ => 0)
          case atStart => exact ⟨rfl, rfl, rfl⟩
          case round =>
            obtain ⟨rfl, rfl, rfl⟩ := hrel
            go_wp2
            go_ret
            exact ⟨rfl, hgw.trans (hb1.mono hsz)⟩
      rcases hend2 with h1 | ⟨h1, h2⟩
      all_goals
        · have hk1 : ((k : Int) == 0) = false := by simp; omega
          have hkp : 0 < k := by omega
          clear hV0 hk0
          go_wp2_with (go_at_call 13; refine VC.mono ?_; rintro e w1 ⟨vp, rfl, hp, hb1⟩; obtain ⟨Ap, cp, hvp, hip⟩ := Own.ints hp; rw [hQ.out] at hvp; subst hvp)
          have hfin : Hid (∀ wr, Below w1.heap.size w1 wr → Tabs wr Ai ((tt.take k).map tame) ∧ Ints wr Aw (askRs tt rs k) ∧ Ints wr Ap Q) := Lib.hid fun wr hb => ⟨(hTi.below hb1).below hb, (hiw.below hb1).below hb, hip.below hb⟩
          have hg1 := hgw.trans (hb1.mono hsz)
          clear VC hp hip hTi hiw hgw hsz hb1 h1
          go_loopw [12, 13] (fun b i wr => ∃ (m : Nat) (ls : Bool), m ≤ k ∧ i = .int .i64 m ∧ b = .bool ls ∧ (ls = true → ∀ j (_ : j < m) (h2 : j < k), (safep (tame (tt[j]'(by omega))) (askR tt rs j) (V - 1)).1 = true) ∧ Below w1.heap.size w1 wr) (fun _ i _ => k - (intOf i).toNat)
          case atStart => exact ⟨0, true, by omega, rfl, rfl, fun _ j h => by omega, Below.refl _ _⟩
          case round =>
            obtain ⟨m, ls, hm, rfl, rfl, hls, hgm⟩ := hrel
            by_cases hmk : m = k
            · subst hmk
              have hlf : ls = false := by
                cases ls with
                | false => rfl
                | true =>
                  obtain ⟨i, hi, hs⟩ := hM.out hkp
                  have := hls rfl i hi hi
                  rw [hs (V - 1)] at this
                  have := of_decide_eq_true this
                  omega
              subst hlf
              clear hls
              go_wp2
              go_ret
              exact ⟨rfl, hg1.trans (hgm.mono hg1.size)⟩
            have hmk : m < k := by omega
            have hmt : m < tt.length := by omega
            replace hls := Lib.hid hls
            obtain ⟨hTm, hIm, hQm⟩ := hfin.out wr hgm
            obtain ⟨f, hf1, hf2, hf3, hf4, hf5⟩ := hF.out m hmk
            obtain ⟨b1, o1, A1, c1, rfl, hbb1, hc1, hp1⟩ := hTm.2 m (by simp; omega)
            obtain ⟨b2, o2, rfl, hbb2, hc2⟩ := hIm.at_ (k := m) (by rw [askRs_len]; exact hmk)
            obtain ⟨b3, o3, rfl, hbb3, hc3⟩ := hQm.at_ (k := m) (by rw [hQ.out]; exact hmk)
            rw [askRs_at] at hc2
            have eT : ((tt.take k).map tame)[m]'(by simp; omega) = tame tt[m] := by
              have := hatT.out m hmk
              rw [List.getElem?_eq_getElem (by simp; omega)] at this
              exact Option.some.inj this
            have eQ : Q[m]'(by rw [hQ.out]; exact hmk) = (f : Int) := by
              rw [List.getElem?_eq_getElem (by rw [hQ.out]; exact hmk)] at hf2
              exact Option.some.inj hf2
            rw [eT] at hc1 hp1
            rw [eQ] at hc3
            have hs1 := hf5 V
            have hs2 := hf5 (V - 1)
            rw [decide_eq_true hf4] at hs1
            have hstep : Hid (∀ b : Bool, (b = true → ls = true ∧ (safep (tame tt[m]) (askR tt rs m) (V - 1)).1 = true) → b = true → ∀ j (_ : j < m + 1) (h2 : j < k), (safep (tame (tt[j]'(by omega))) (askR tt rs j) (V - 1)).1 = true) := Lib.hid fun b hbb hb j hj h2 => by
              rcases Nat.lt_or_ge j m with q | q
              · exact hls.out (hbb hb).1 j q h2
              · obtain rfl : j = m := by omega
                exact (hbb hb).2
            have S1 := fun W (h : Pts W A1 (tame tt[m])) => safe_any (tame tt[m]) A1 c1 (askR tt rs m) V W h
            have S2 := fun W (h : Pts W A1 (tame tt[m])) => safe_any (tame tt[m]) A1 c1 (askR tt rs m) (V - 1) W h
            have S3 := fun W (h : Pts W A1 (tame tt[m])) => for_any (tame tt[m]) A1 c1 (askR tt rs m) W h
            rw [hs1] at S1
            rw [hs2] at S2 hstep
            rw [hf3] at S3
            simp only at S1 S2 S3
            clear hs1 hs2 hf1 hf2 hf3 hf4 hf5 eT eQ hls hTm hIm hQm
            generalize tame tt[m] = T at *
            generalize askR tt rs m = x at *
            generalize decide ((tp tt[m] f).2 ≤ V - 1) = D at *
            have hp2 : Pts wr.drew A1 T := Sl.drawn hp1 ⟨1, rfl⟩
            have a1 : wr.drew.cell? ⟨b1, o1 + m, none⟩ = some (.slice A1 T.length c1) := hc1
            have a2 : wr.drew.cell? ⟨b2, o2 + m, none⟩ = some (.int .i64 x) := hc2
            have hVw : IntKind.i64.wrap (V - 1) = V - 1 := i64_in _ (by omega)
            go_wp2
            go_region_held3 (fun W => W.cell? ⟨b1, o1 + m, none⟩ = some (.slice A1 T.length c1) ∧ W.cell? ⟨b2, o2 + m, none⟩ = some (.int .i64 x)) (first | exact ⟨a1, a2⟩ | exact ⟨k1, k2⟩) (first | (go_at_call 28; (with_reducible refine (S1 _ hp2).mono ?_); rintro e w5 ⟨rfl, hb5⟩; have k1 := (hb5.cell (p := ⟨b1, o1 + m, none⟩) hbb1).trans a1; have k2 := (hb5.cell (p := ⟨b2, o2 + m, none⟩) hbb2).trans a2))
            have hp5 : Pts w5.drew A1 T := Sl.drawn (hp2.below hb5) ⟨1, rfl⟩
            have l1 : w5.drew.cell? ⟨b1, o1 + m, none⟩ = some (.slice A1 T.length c1) := k1
            have l2 : w5.drew.cell? ⟨b2, o2 + m, none⟩ = some (.int .i64 x) := k2
            have hbb5 : b1 < w5.heap.size ∧ b2 < w5.heap.size := ⟨Nat.lt_of_lt_of_le hbb1 hb5.size, Nat.lt_of_lt_of_le hbb2 hb5.size⟩
            clear a1 a2 hp1 hc1 hc2
            go_wp2
            go_region_held3 (fun W => W.cell? ⟨b1, o1 + m, none⟩ = some (.slice A1 T.length c1) ∧ W.cell? ⟨b2, o2 + m, none⟩ = some (.int .i64 x)) (first | exact ⟨l1, l2⟩ | exact ⟨m1, m2⟩) (first | (go_at_call 28; (with_reducible refine (S2 _ hp5).mono ?_); rintro e w6 ⟨rfl, hb6⟩; have m1 := (hb6.cell (p := ⟨b1, o1 + m, none⟩) hbb5.1).trans l1; have m2 := (hb6.cell (p := ⟨b2, o2 + m, none⟩) hbb5.2).trans l2))
            have hp6 : Pts w6.drew A1 T := Sl.drawn (hp5.below hb6) ⟨1, rfl⟩
            have n1 : w6.drew.cell? ⟨b1, o1 + m, none⟩ = some (.slice A1 T.length c1) := m1
            have n2 : w6.drew.cell? ⟨b2, o2 + m, none⟩ = some (.int .i64 x) := m2
            have hbb6 : b1 < w6.heap.size ∧ b2 < w6.heap.size := ⟨Nat.lt_of_lt_of_le hbb5.1 hb6.size, Nat.lt_of_lt_of_le hbb5.2 hb6.size⟩
            clear k1 k2 l1 l2 hp2
            go_wp2
            go_region_held3 (fun W => W.cell? ⟨b1, o1 + m, none⟩ = some (.slice A1 T.length c1) ∧ W.cell? ⟨b2, o2 + m, none⟩ = some (.int .i64 x)) (first | exact ⟨n1, n2⟩ | exact ⟨p1, p2⟩) (first | (go_at_call 24; (with_reducible refine (S3 _ hp6).mono ?_); rintro e w7 ⟨rfl, hb7⟩; have p1 := (hb7.cell (p := ⟨b1, o1 + m, none⟩) hbb6.1).trans n1; have p2 := (hb7.cell (p := ⟨b2, o2 + m, none⟩) hbb6.2).trans n2))
            have hbm7 : Below wr.heap.size wr w7 := by
              have e5 := hb5.size
              have e6 := hb6.size
              have d1 : Below wr.heap.size wr w5 := ⟨hb5.os, hb5.tape, hb5.output, hb5.size, hb5.block⟩
              have d2 : Below wr.heap.size w5 w6 := (show Below w5.heap.size w5 w6 from ⟨hb6.os, hb6.tape, hb6.output, hb6.size, hb6.block⟩).mono e5
              have d3 : Below wr.heap.size w6 w7 := (show Below w6.heap.size w6 w7 from ⟨hb7.os, hb7.tape, hb7.output, hb7.size, hb7.block⟩).mono (Nat.le_trans e5 e6)
              exact (d1.trans d2).trans d3
            have q3 := (hbm7.cell (p := ⟨b3, o3 + m, none⟩) hbb3).trans hc3
            clear m1 m2 n1 n2 p1 p2 hp5 hp6 hb5 hb6 hb7 hc3 S1 S2 S3
            cases ls with
            | false =>
              go_wp2
              go_roundw
              case rel => exact ⟨m + 1, false, by omega, by go_num, rfl, hstep.out false (fun h => by cases h), hgm.trans (hbm7.mono hgm.size)⟩
              case measure => simp [intOf]; omega
            | true =>
              go_wp2
              go_roundw
              case rel => exact ⟨m + 1, D, by omega, by go_num, rfl, hstep.out D (fun h => ⟨rfl, h⟩), hgm.trans (hbm7.mono hgm.size)⟩
              case measure => simp [intOf]; omega
    have hkl : k < tt.length := by omega
    have hk2 : k < 20 := by omega
    clear hend
    obtain ⟨b, o, Ak, ck, rfl, hb, hc, hp⟩ := (ht0.below hg).2 k hkl
    have G := tame_any tt[k] Ak ck wr hp
    have hvl : vs.length = k := by have := hT.l; rw [List.length_map, List.length_map, List.length_take] at this; omega
    replace hvl := Lib.hid hvl
    have htk := Lib.hid (take_tame tt hkl)
    have hsz := hg.size
    -- the rate that is asked
    have hR : Hid (askR tt rs k = if k < rs.length then (rs.getD k 0) % 16777216 % (tp tt[k] ((tame tt[k]).length - 1)).1 else (tp tt[k] ((tame tt[k]).length - 1)).1) := Lib.hid (by
      unfold askR
      rw [show tt.getD k [] = tt[k] by simp [List.getD, hkl]])
    have hml := tame_len tt[k]
    have htr := tp_range tt[k] ((tame tt[k]).length - 1)
    have hat : (tame tt[k])[(tame tt[k]).length - 1]? = some (tp tt[k] ((tame tt[k]).length - 1)) := by rw [List.getElem?_eq_getElem (by omega), tame_at]
    have hwn : IntKind.i64.wrap (((tame tt[k]).length : Int) - 1) = (((tame tt[k]).length - 1 : Nat) : Int) := by rw [i64_in _ (by omega)]; omega
    have hn41 : (tame tt[k]).length ≤ 41 := by omega
    have hn1 : 1 ≤ (tame tt[k]).length := by omega
    have hTK : ((tt.take (k + 1)).map tame)[k]? = some (tame tt[k]) := by simp [hkl]
    clear hml
    generalize tame tt[k] = T at *
    replace hTK := Lib.hid hTK
    generalize hL : T.length - 1 = L at *
    have hL1 : L < T.length := by omega
    replace hL := Lib.hid hL
    generalize tp tt[k] L = q at *
    obtain ⟨q1, q2⟩ := q
    simp only at hR htr
    replace hat := Lib.hid hat
    go_wp2_with (first
      | (go_at_call 23; refine G.mono ?_; rintro e w1 ⟨Ax, cx, rfl, hx, hb1⟩; have hO1 := hO.below hb1; have hs1 := hb1.size)
      | (at_builtin; refine wpList_push_at elt24 rfl _ _ rfl rfl ((hT.o.below hb1).alloc _) [.slice Ax T.length cx] w1.heap.size 25 rfl (heap_alloc_at _ _) rfl (by simp [Value.oneCell']) (by rw [List.length_map, hvl.out]; omega) (by rw [size_al]; omega) ?_; intro v' w3 ho' hb' hs' _ hgr hat'; have hP := hT.push hb1 hx hsz (below_al (Below.refl _ _) _) ho' hgr hat'; rw [htk.out] at hP; have hO3 := Own.keep (w' := w3) (hO1.alloc _) (fun g hg => hgr.block g (by have := (hO1.lt g hg).2; rw [size_al]; omega) (fun e => (hT.o.ne hO (by decide) e.symm) hg))))
    obtain ⟨Av, cv, hvv, hTv⟩ := PT.tabs hP
    have hvn : ((tt.take (k + 1)).map tame).length = k + 1 := by simp; omega
    rw [hvn] at hvv
    subst hvv
    obtain ⟨b3, o3, A3, c3, e3, hb3, hc3, hp3⟩ := hTv.2 k (by rw [hvn]; omega)
    have eT : ((tt.take (k + 1)).map tame)[k]'(by rw [hvn]; omega) = T := by
      have := hTK.out
      rw [List.getElem?_eq_getElem (by rw [hvn]; omega)] at this
      exact Option.some.inj this
    rw [eT] at hc3 hp3
    subst e3
    obtain ⟨b4, o4, rfl, hb4, c41, c42⟩ := hp3.at_ hL1
    have eq : T[L] = (q1, q2) := by
      have := hat.out
      rw [List.getElem?_eq_getElem hL1] at this
      exact Option.some.inj this
    rw [eq] at c41 c42
    simp only at c41 c42
    have hs3 : w3.heap.size ≥ w1.heap.size := by rw [size_al] at hs'; omega
    have hg3 : Below w0.heap.size w0 w3 := (hg.trans (hb1.mono hsz)).trans (((Below.refl _ _).alloc (by omega) _).trans hb')
    have hr3 := hr0.below hg3
    clear eq eT hTv hvn hp3 hT hO hO1 ho' hgr hat' hb' hx G hp hc
    go_big_quiet (fail)
    have hP4 : PT (w3.drewN nq) w0.heap.size 25 36 ((tt.take (k + 1)).map tame) (.slice (some ⟨b3, o3, none⟩) (k + 1) cv) (vs ++ [.slice Ax T.length cx]) := hP.drawn ⟨nq, rfl⟩
    have hO4 : Own (w3.drewN nq) w0.heap.size 2 1 ((askRs tt rs k).map irow) _ := Own.drawn hO3 ⟨nq, rfl⟩
    have hg4 : Below w0.heap.size w0 (w3.drewN nq) := below_drewN' hg3 nq
    have hr4 : Ints (w3.drewN nq) R rs := Sl.drawn hr3 ⟨nq, rfl⟩
    have hlen1 : (askRs tt rs k).length = k := askRs_len tt rs k
    have hsu := askRs_succ tt rs k
    replace hlen1 := Lib.hid hlen1
    replace hsu := Lib.hid hsu
    clear c41 c42 hc3 hP hO3 hg3 hr3
    have hm2 : ∀ (x : Int) u w5, Own w5 w0.heap.size 2 1 ((askRs tt rs k).map irow ++ [[.int .i64 x]]) u → askR tt rs k = x → Own w5 w0.heap.size 2 1 ((askRs tt rs (k + 1)).map irow) u := fun x u w5 h e => by
      rw [hsu.out, List.map_append, e]; exact h
    replace hm2 := Lib.hid hm2
    have hP5 : ∀ w5 u', (((w3.drewN nq).alloc (.cells #[.int .i64 (askR tt rs k)] 2)).grownBy w5 u') → True := fun _ _ _ => trivial
    clear hP5
    by_cases hkr : k < rs.length
    · have hRk := Lib.hid (hR.out.trans (if_pos hkr))
      obtain ⟨b5, o5, rfl, hb5, c5⟩ := hr4.at_ hkr
      have m1 : bits .and .i64 rs[k] 16777215 = rs[k] % 16777216 := and_mask rs[k] 24 (by decide)
      have z1 := Int.emod_nonneg rs[k] (show (16777216 : Int) ≠ 0 by decide)
      have z2 := Int.emod_lt_of_pos rs[k] (show (0 : Int) < 16777216 by decide)
      have hRk2 : Hid (askR tt rs k = rs[k] % 16777216 % q1) := Lib.hid (by rw [hRk.out]; simp [List.getD, hkr])
      clear hRk hR
      generalize rs[k] = x at *
      generalize x % 16777216 = y at *
      have hq1 : q1 ≠ 0 := by omega
      go_wp2_with (at_builtin; refine wpList_push elt23 rfl _ _ rfl rfl (hO4.alloc _) [.int .i64 (y % q1)] w3.heap.size 2 rfl (heap_alloc_at' _ _ _ rfl) rfl (by simp [Value.oneCell']) (by rw [List.length_map, hlen1.out]; omega) (by rw [size_al, size_drewN]; omega) ?_; intro v6 w6 ho6 hb6 hs6 _ hgr6)
      go_roundw
      case rel =>
        refine ⟨k + 1, vs ++ [.slice Ax T.length cx], by omega, by omega, by go_num, ?_, hm2.out _ _ _ ho6 hRk2.out, hg4.trans (((Below.refl _ _).alloc (by rw [size_drewN]; omega) _).trans hb6)⟩
        exact hP4.keep fun g _ hg2 hocc => (hgr6.block g (by rw [size_al]; omega) (fun e => (hP4.ne hO4 (by decide) (by decide) hocc) e.symm)).trans (Below.heap_alloc _ _ g hg2)
      case measure => simp [intOf]; omega
    · have hRk2 := Lib.hid (hR.out.trans (if_neg hkr))
      clear hR
      go_wp2_with (at_builtin; refine wpList_push elt23 rfl _ _ rfl rfl (hO4.alloc _) [.int .i64 (q1)] w3.heap.size 2 rfl (heap_alloc_at' _ _ _ rfl) rfl (by simp [Value.oneCell']) (by rw [List.length_map, hlen1.out]; omega) (by rw [size_al, size_drewN]; omega) ?_; intro v6 w6 ho6 hb6 hs6 _ hgr6)
      go_roundw
      case rel =>
        refine ⟨k + 1, vs ++ [.slice Ax T.length cx], by omega, by omega, by go_num, ?_, hm2.out _ _ _ ho6 hRk2.out, hg4.trans (((Below.refl _ _).alloc (by rw [size_drewN]; omega) _).trans hb6)⟩
        exact hP4.keep fun g _ hg2 hocc => (hgr6.block g (by rw [size_al]; omega) (fun e => (hP4.ne hO4 (by decide) (by decide) hocc) e.symm)).trans (Below.heap_alloc _ _ g hg2)
      case measure => simp [intOf]; omega
end Go.Proofs.Ythmdhmknadhjeaa
