/- PointsVotes, walked. -/
import Derived.Test.YthmdhmknadhjeaaVote2
import Derived.Test.YthmdhmknadhjeaaMem3
import Derived.Test.YthmdhmknadhjeaaChanges
import Derived.Deep.Cut
namespace Go.Proofs.Ythmdhmknadhjeaa
open Go.RowKit Go.BigFrame

theorem elt24 : Elt Try.prog 24 25 1 24 := Elt.of (z := .slice none 0 0) Try.underlying24 (by kernel_rfl) rfl (by decide) (by decide)
theorem elt22 : Elt Try.prog 22 27 1 24 := Elt.of (z := .slice none 0 0) Try.underlying22 (by kernel_rfl) rfl (by decide) (by decide)
theorem elt23 : Elt Try.prog 23 2 1 8 := Elt.of (z := .int .i64 0) Try.underlying23 (by kernel_rfl) rfl (by decide) (by decide)

/-- tables of points of the call's own -/
abbrev PT (w : World) (B : Nat) (eo ei : TypeId) (tt : List (List Pt)) (v : Value) (vs : List Value) : Prop := Tbl w B eo ei 2 (tt.map (·.map prow)) v vs
theorem PT.len {w : World} {B : Nat} {eo ei : TypeId} {tt : List (List Pt)} {v : Value} {vs : List Value} (h : PT w B eo ei tt v vs) : vs.length = tt.length := by have := h.l; simpa using this
theorem PT.at_ {w : World} {B : Nat} {eo ei : TypeId} {tt : List (List Pt)} {v : Value} {vs : List Value} (h : PT w B eo ei tt v vs) {k : Nat} (hk : k < tt.length) :
    ∃ Ak ck, vs[k]? = some (.slice Ak tt[k].length ck) ∧ Own w B ei 2 (tt[k].map prow) (.slice Ak tt[k].length ck) ∧ Pts w Ak tt[k] := by
  have hl := h.len
  have hvk : vs[k]? = some (vs[k]'(by omega)) := List.getElem?_eq_getElem (by omega)
  have hO := h.r k _ _ hvk (by rw [List.getElem?_map, List.getElem?_eq_getElem hk]; rfl)
  obtain ⟨Ak, ck, hx, hp⟩ := hO.pts
  rw [hx] at hvk hO
  exact ⟨Ak, ck, hvk, hO, hp⟩
theorem PT.tabs {w : World} {B : Nat} {eo ei : TypeId} {tt : List (List Pt)} {v : Value} {vs : List Value} (h : PT w B eo ei tt v vs) : ∃ A c, v = .slice A tt.length c ∧ Tabs w A tt := by
  have hl := h.len
  obtain ⟨A, c, hv, hs⟩ := h.o.sl
  rw [List.length_map, hl] at hv
  refine ⟨A, c, hv, by have := hs.le; rw [List.length_map, hl] at this; exact this, fun k hk => ?_⟩
  obtain ⟨b, o, e, _, hb, hc⟩ := hs.at_ (k := k) (by rw [List.length_map, hl]; exact hk)
  obtain ⟨Ak, ck, hvk, _, hp⟩ := h.at_ hk
  refine ⟨b, o, Ak, ck, e, hb, ?_, hp⟩
  have hg : vs[k]'(by omega) = .slice Ak tt[k].length ck := by
    rw [List.getElem?_eq_getElem (by omega)] at hvk; exact Option.some.inj hvk
  have := hc 0 (vs[k]'(by omega)) (by simp)
  rw [Nat.mul_one, Nat.add_zero, hg] at this
  exact this
theorem Tabs.form {w : World} {A : Option Addr} {tt : List (List Pt)} {n c : Nat} {A' : Option Addr} (h : Value.slice A n c = .slice A' tt.length c) (h' : Tabs w A' tt) : Tabs w A tt := by
  simp only [Value.slice.injEq] at h; rw [h.1]; exact h'
/-- an inner table's point is written: the second number -/
theorem PT.upd2 {w : World} {B : Nat} {eo ei : TypeId} {tt : List (List Pt)} {Ai : Option Addr} {n ci : Nat} {vs : List Value} (h : PT w B eo ei tt (.slice Ai n ci) vs) {k : Nat} {t : List Pt} (htk : tt[k]? = some t) {j : Nat} (hj : j < t.length) :
    ∃ b o g c, Ai = some ⟨b, o, none⟩ ∧ b < w.heap.size ∧ w.cell? ⟨b, o + k, none⟩ = some (.slice (some ⟨g, 0, none⟩) t.length c) ∧ (∃ x ∈ vs, x.ownBlock = some g) ∧ B ≤ g ∧ g < w.heap.size ∧ w.cell? ⟨g, j * 2, none⟩ = some (.int .i64 t[j].1) ∧ w.cell? ⟨g, j * 2 + 1, none⟩ = some (.int .i64 t[j].2) ∧
      w.frozen? ⟨g, j * 2, none⟩ = false ∧ w.frozen? ⟨g, j * 2 + 1, none⟩ = false ∧
      (∀ x : Int, PT (w.setCell ⟨g, j * 2 + 1, none⟩ (.int .i64 x)) B eo ei (tt.set k (t.set j (t[j].1, x))) (.slice Ai n ci) vs) := by
  have hk : k < tt.length := (List.getElem?_eq_some_iff.1 htk).1
  have hl := h.len
  obtain ⟨A', c', hv, hs⟩ := h.o.sl
  simp only [Value.slice.injEq] at hv
  obtain ⟨rfl, _, _⟩ := hv
  obtain ⟨b, o, e, _, hb, hc⟩ := hs.at_ (k := k) (by rw [List.length_map, hl]; exact hk)
  obtain ⟨Ak, ck, hvk, hO, _⟩ := h.at_ hk
  obtain rfl : t = tt[k] := by rw [List.getElem?_eq_getElem hk] at htk; exact (Option.some.inj htk).symm
  have hc0 := hc 0 (vs[k]'(by omega)) (by simp)
  rw [Nat.mul_one, Nat.add_zero, show vs[k]'(by omega) = .slice Ak tt[k].length ck by rw [List.getElem?_eq_getElem (by omega)] at hvk; exact Option.some.inj hvk] at hc0
  obtain ⟨g, u0, u1, rfl, hg1, hg2, c0, c1, f0, f1, hr, _, hset⟩ := hO.row2 (by rw [List.length_map]) hj
  rw [List.getElem?_map, List.getElem?_eq_getElem hj] at hr
  simp only [Option.map_some, prow, Option.some.injEq, List.cons.injEq, and_true] at hr
  obtain ⟨rfl, rfl⟩ := hr
  refine ⟨b, o, g, ck, e, hb, hc0, ⟨_, List.mem_of_getElem? hvk, rfl⟩, hg1, hg2, c0, c1, f0, f1, fun x => ?_⟩
  have hS := hset (.int .i64 x)
  have := h.upd (w' := w.setCell ⟨g, j * 2 + 1, none⟩ (.int .i64 x)) hvk (g := g) rfl (fun b hb => Below.heap_setCell w _ _ b hb) (t' := (tt[k].set j (tt[k][j].1, x)).map prow) (by rw [List.map_set]; exact hS)
  rw [← List.map_set] at this
  exact this
theorem Own.ints {w : World} {B : Nat} {e : TypeId} {l : List Int} {v : Value} (h : Own w B e 1 (l.map irow) v) : ∃ A c, v = .slice A l.length c ∧ Ints w A l := by
  obtain ⟨A, c, hv, hs⟩ := h.sl
  exact ⟨A, c, by rw [hv, List.length_map], hs.mono fun _ _ => trivial⟩

theorem set_same {α : Type} {l : List α} {k : Nat} {t : α} (h : l[k]? = some t) : l.set k t = l := by
  apply List.ext_getElem?
  intro j
  by_cases hj : k = j
  · subst hj
    rw [List.getElem?_set_self (List.getElem?_eq_some_iff.1 h).1, h]
  · rw [List.getElem?_set_ne hj]
theorem Own.nil0 {w : World} {B : Nat} {e : TypeId} {size : Nat} {xs : List (List Value)} {A : Option Addr} {n c : Nat} (h : Own w B e size xs (.slice A n c)) : A = none → c = 0 := by
  rintro rfl
  rcases h.1.2 with ⟨h, _⟩ | ⟨g, cap, cur, h, _⟩
  · simp only [Value.slice.injEq] at h; exact h.2.2
  · simp at h
theorem take_tabs (tt : List (List Pt)) {k : Nat} (hk : k < tt.length) : (tt.take k).map (·.map prow) ++ [tt[k].map prow] = (tt.take (k + 1)).map (·.map prow) := by
  rw [List.take_succ_eq_append_getElem hk, List.map_append]; rfl
theorem one_ints (l : List Int) : ∀ r ∈ l.map irow, ∀ u ∈ r, u.oneCell' = true := by
  intro r hr u hu
  obtain ⟨n, _, rfl⟩ := List.mem_map.1 hr
  simp only [irow, List.mem_singleton] at hu
  subst hu; rfl

set_option maxHeartbeats 4000000 in
set_option maxRecDepth 100000 in
theorem votes_walk (tt : List (List Pt)) (rs : List Int) (A R : Option Addr) (c d : Nat) (w : World) (ht : Tabs w A tt) (hr : Ints w R rs) (hRd : R = none → d = 0) (h24 : tt.length * 24 ≤ 140737488351232) (h16 : ∀ t ∈ tt, t.length * 16 ≤ 140737488351232) (h8 : rs.length * 8 ≤ 140737488351232) :
    Calls Try.prog 3 #[.slice A tt.length c, .slice R rs.length d] w fun e w' => e = .returned (.bool true) ∧ Below w.heap.size w w' := by
  have hlt := ht.1
  have hlr := hr.le
  replace hRd := Lib.hid hRd
  go_enter Try.func3, Try.ntmps3
  go_wp2
  go_loopw [5, 6] (fun v i wr => ∃ (k : Nat) (vs : List Value), k ≤ tt.length ∧ i = .int .i64 k ∧ PT wr w.heap.size 25 36 (tt.take k) v vs ∧ Below w.heap.size w wr) (fun _ i _ => tt.length - (intOf i).toNat)
  case atStart => exact ⟨0, [], by omega, rfl, Tbl.nil _ _ _ _ _, Below.refl _ _⟩
  case round =>
    obtain ⟨k, vs, hk, rfl, hT, hg⟩ := hrel
    by_cases hkl : k = tt.length
    · subst hkl
      rw [List.take_length] at hT
      obtain ⟨Ai, ci, rfl, hTi⟩ := hT.tabs
      have hsz := hg.size
      have hri := hr.below hg
      go_wp2_with (at_builtin; refine wpList_app_any elt23 rfl _ _ rfl (base := wr.heap.size) rfl (Own.lit #[] 0 (xs := []) rfl rfl (by simp) (Nat.le_refl _) (by decide)) R d rs.length (by simp) rfl hRd.out (Sl.alloc hri _) (one_ints rs) (by simp; omega) (by rw [size_al]; omega) ?_; intro vw w1 how hbw hsw _ _; obtain ⟨Aw, cw, rfl, hiw⟩ := Own.ints (l := rs) how)
      obtain ⟨w0, rfl⟩ : ∃ w0 : World, w0 = wr := ⟨_, rfl⟩
      have hTlt := Lib.hid hT.lt
      have hb1 : Below w0.heap.size w0 w1 := (below_al (Below.refl _ _) _).trans hbw
      have hwlt := Lib.hid how.lt
      have hs1 := hb1.size
      have hT1 := hT.below hb1
      have hTi1 := hTi.below hb1
      have ht1 := (ht.below hg).below hb1
      have hr1 := hri.below hb1
      have hg1 := hg.trans (hb1.mono hsz)
      clear hT hTi hri hb1 hbw hsw hg
      go_wp2_with fail
      refine (vote_any tt rs Ai Aw ci cw _ hTi1 hiw).mono ?_
      rintro e w2 ⟨va, rfl, ha, hb2⟩
      go_wp2_with fail
      refine (vote_any tt rs Ai Aw ci cw _ (hTi1.below hb2) (hiw.below hb2)).mono ?_
      rintro e w3 ⟨vb, rfl, hb, hb3⟩
      go_wp2_with fail
      refine (rvote_any tt rs A R c d _ ((ht1.below hb2).below hb3) ((hr1.below hb2).below hb3)).mono ?_
      rintro e w4 ⟨vq, rfl, hq, hb4⟩
      have halt := Lib.hid ha.lt
      obtain ⟨Aa, ca, rfl, hia⟩ := ((ha.below hb3).below hb4).ints
      obtain ⟨Aq, cq, rfl, hiq⟩ := hq.ints
      obtain ⟨Ab, cb, rfl, hib⟩ := (hb.below hb4).ints
      generalize hX : vote tt rs = X at *
      replace hX := Lib.hid hX
      have S1 := sameInts_any X.2.1 X.2.1 Aa Aq ca cq w4 hia hiq
      rw [decide_eq_true rfl] at S1
      go_wp2_with (go_at_call 15; refine S1.mono ?_; rintro e w5 ⟨rfl, hd5⟩)
      have hs2 := hb2.size
      have hs3 := hb3.size
      have hs4 := hb4.size
      have hs5 : w5.heap.size = w4.heap.size := by rw [hd5.heap]
      have hT5 := (((hT1.below hb2).below hb3).below hb4).drawn hd5
      have ho5 := (((how.below hb2).below hb3).below hb4).drawn hd5
      have ha5 := ((ha.below hb3).below hb4).drawn hd5
      have hb5 := (hb.below hb4).drawn hd5
      have hq5 := hq.drawn hd5
      have hg5 : Below w.heap.size w w5 := hd5.after (((hg1.trans (hb2.mono (by omega))).trans (hb3.mono (by omega))).trans (hb4.mono (by omega)))
      replace hs5 := Lib.hid hs5
      clear hT1 hTi1 ht1 hr1 hg1 how ha hb hq hb2 hb3 hb4 hia hiq hib S1 hd5 hiw
      go_loopw [17] (fun v wr => ∃ (k : Nat) (rows : List (List Value)), k ≤ X.2.1.length ∧ v = .int .i64 k ∧ rows.length = X.2.1.length ∧ Own wr w1.heap.size 3 1 rows (.slice Aa X.2.1.length ca) ∧ Off w1.heap.size w2.heap.size w5 wr) (fun v _ => X.2.1.length - (intOf v).toNat)
      case atStart => exact ⟨0, X.2.1.map irow, by omega, rfl, by simp, ha5, Off.refl _ _ _⟩
      case round =>
        obtain ⟨k, rows, hk, rfl, hrs, hO, hF⟩ := hrel
        have hnl : X.2.1.length ≤ 9223372036854775807 := by
          obtain ⟨_, _, _, hs⟩ := hO.sl
          have := hs.le
          omega
        by_cases hkx : k = X.2.1.length
        · subst hkx
          have hT7 := hF.tbl hT5 fun g hg => Or.inl (by have := (hTlt.out g hg).2; omega)
          have ho7 := hF.own ho5 fun g hg => Or.inl (hwlt.out g hg).2
          have hb7 := hF.own hb5 fun g hg => Or.inr (hb5.lt g hg).1
          have hq7 := hF.own hq5 fun g hg => Or.inr (by have := (hq5.lt g hg).1; omega)
          have hg7 := hg5.trans (hF.g.mono (by omega))
          have hs7 := Lib.hid hF.g.size
          obtain ⟨A1, c1, e1, hib⟩ := hb7.ints
          obtain ⟨A2, c2, e2, hiq⟩ := hq7.ints
          simp only [Value.slice.injEq, true_and] at e1 e2
          obtain ⟨rfl, rfl⟩ := e1
          obtain ⟨rfl, rfl⟩ := e2
          have S1 := sameInts_any X.2.1 X.2.1 Ab Aq cb cq wr hib hiq
          rw [decide_eq_true rfl] at S1
          clear hT5 ho5 ha5 hb5 hq5 hg5 hO hF hb7 hq7 hrs halt
          go_wp2_with (go_at_call 15; refine S1.mono ?_; rintro e w7 ⟨rfl, hd7⟩)
          have hT8 := hT7.drawn hd7
          have ho8 := ho7.drawn hd7
          have hg8 := hd7.after hg7
          have hs8 : w1.heap.size ≤ w7.heap.size := by rw [hd7.heap]; have := hs5.out; have := hs7.out; omega
          clear hT7 ho7 hg7 S1 hib hiq hd7 hnl hk
          go_loopw [18, 19] (fun nv i wr => ∃ (k : Nat) (t2 : List (List Pt)) (ns : List Value), k ≤ tt.length ∧ i = .int .i64 k ∧ t2.length = tt.length ∧ (∀ j, k ≤ j → t2[j]? = tt[j]?) ∧ PT wr w.heap.size 25 36 t2 (.slice Ai tt.length ci) vs ∧ PT wr w7.heap.size 27 70 (t2.take k) nv ns ∧
            Own wr w0.heap.size 2 1 (rs.map irow) (.slice Aw rs.length cw) ∧ Below w.heap.size w wr ∧ w7.heap.size ≤ wr.heap.size) (fun _ i _ => tt.length - (intOf i).toNat)
          case atStart => exact ⟨0, tt, [], by omega, rfl, rfl, fun _ _ => rfl, hT8, Tbl.nil _ _ _ _ _, ho8, hg8, Nat.le_refl _⟩
          case round =>
            clear hT8 ho8 hg8
            obtain ⟨k, t2, ns, hk, rfl, hl2, hj2, hT, hN, ho, hg, hsz7⟩ := hrel
            replace hj2 := Lib.hid hj2
            replace hl2 := Lib.hid hl2
            obtain ⟨A1, c1, e1, hTi⟩ := hT.tabs
            simp only [Value.slice.injEq] at e1
            obtain ⟨rfl, e2, rfl⟩ := e1
            clear e2
            by_cases hkl : k = tt.length
            · subst hkl
              rw [show t2.take tt.length = t2 by rw [← hl2.out]; exact List.take_length] at hN
              go_wp2
              obtain ⟨w9, rfl⟩ : ∃ w9 : World, w9 = wr := ⟨_, rfl⟩
              go_loopw [21] (fun v wr => ∃ (k : Nat) (ws : List Int), k ≤ rs.length ∧ v = .int .i64 k ∧ ws.length = rs.length ∧ (∀ j, k ≤ j → ws[j]? = rs[j]?) ∧ Own wr w0.heap.size 2 1 (ws.map irow) (.slice Aw rs.length cw) ∧ Off w0.heap.size w1.heap.size w9 wr) (fun v _ => rs.length - (intOf v).toNat)
              case atStart => exact ⟨0, rs, by omega, rfl, rfl, fun _ _ => rfl, ho, Off.refl _ _ _⟩
              case round =>
                obtain ⟨k, ws, hk, rfl, hwl, hwj, hO, hF⟩ := hrel
                replace hwj := Lib.hid hwj
                replace hwl := Lib.hid hwl
                by_cases hkl : k = rs.length
                · subst hkl
                  have hT9 := hF.tbl hT fun g hg => Or.inl (hTlt.out g hg).2
                  have hN9 := hF.tbl hN fun g hg => Or.inr (by have := (hN.lt g hg).1; omega)
                  have hg9 := hg.trans (hF.g.mono (by omega))
                  obtain ⟨A1, c1, e1, hTi⟩ := PT.tabs hT9
                  simp only [Value.slice.injEq] at e1
                  obtain ⟨rfl, e2, rfl⟩ := e1
                  obtain ⟨An, cn, e3, hNi⟩ := PT.tabs hN9
                  rw [hl2.out] at e3
                  subst e3
                  obtain ⟨A1, c1, e1, hiw⟩ := hO.ints
                  simp only [Value.slice.injEq] at e1
                  obtain ⟨rfl, e4, rfl⟩ := e1
                  have hAw := Lib.hid hO.nil0
                  have V1 := vote_any t2 ws Ai Aw ci cw _ hTi hiw
                  rw [hl2.out, hwl.out] at V1
                  have V2 := fun v2 (Az : Option Addr) cz h1 h2 => rvote_any t2 ws An Az cn cz v2 h1 h2
                  rw [hl2.out, hwl.out] at V2
                  generalize vote t2 ws = Y at *
                  clear hT hN hT9 hN9 hg ho hO hF e2 e4
                  go_wp2_with (first
                    | (go_at_call 13; refine V1.mono ?_; rintro e v1 ⟨va, rfl, ha, hb1⟩; obtain ⟨Ba, ba, rfl, hia⟩ := ha.ints)
                    | (at_builtin; refine wpList_app_any elt23 rfl _ _ rfl (base := v1.heap.size) rfl (Own.lit #[] 0 (xs := []) rfl rfl (by simp) (Nat.le_refl _) (by decide)) Aw cw rs.length (by rw [List.length_map, hwl.out]) rfl hAw.out (Sl.alloc (hiw.below hb1) _) (one_ints ws) (by simp; rw [hwl.out]; omega) (by rw [size_al]; omega) ?_; intro vz v2 hoz hbz hsz2 _ _; obtain ⟨Az, cz, ez, hiz⟩ := Own.ints (l := ws) hoz; rw [hwl.out] at ez; subst ez; have hb2 : Below v1.heap.size v1 v2 := (below_al (Below.refl _ _) _).trans hbz)
                    | (go_at_call 14; refine (V2 v2 Az cz ((hNi.below hb1).below hb2) hiz).mono ?_; rintro e v3 ⟨vq, rfl, hq, hb3⟩; obtain ⟨Bq, bq, rfl, hiq⟩ := hq.ints; have S2 := sameInts_any Y.2.1 Y.2.1 Ba Bq ba bq v3 (Sl.below' (Sl.below' hia hb2) hb3) hiq; rw [decide_eq_true rfl] at S2)
                    | (go_at_call 15; refine S2.mono ?_; rintro e v4 ⟨rfl, hd4⟩))
                  have hz1 := hg9.size
                  have hz2 := hb1.size
                  have hz3 := hb2.size
                  go_ret
                  exact ⟨rfl, hd4.after (((hg9.trans (hb1.mono (by omega))).trans (hb2.mono (by omega))).trans (hb3.mono (by omega)))⟩
                have hkl : k < rs.length := by omega
                obtain ⟨g, u0, rfl, hg1, hg2, c0, f0, hr0, hset⟩ := hO.row1 (by rw [List.length_map]; exact hwl.out) hkl
                have hwk : ws[k]? = some rs[k] := by rw [hwj.out k (Nat.le_refl _), List.getElem?_eq_getElem hkl]
                rw [List.getElem?_map, hwk] at hr0
                simp only [Option.map_some, irow, Option.some.injEq, List.cons.injEq, and_true] at hr0
                subst hr0
                obtain ⟨b2, o2, rfl, hb2, hc2⟩ := (hr.below (hg.trans (hF.g.mono (by omega)))).at_ hkl
                have hg3 := hwlt.out g rfl
                generalize rs[k] = r at *
                go_wp2
                go_big_quiet (fail)
                go_wp2
                go_roundw
                case rel =>
                  refine ⟨k + 1, ws.set k (wrap64 (r.tdiv 2)), by omega, by go_num, by rw [List.length_set]; exact hwl.out, fun j hj => ?_, ?_, (hF.drewN _).set hg3.1 hg3.2 _⟩
                  · rw [List.getElem?_set_ne (by omega)]; exact hwj.out j (by omega)
                  · rw [List.map_set]; exact hset _
                case measure => simp [intOf]; omega
            obtain ⟨An, nk, cn, rfl⟩ : ∃ An nk cn, _ = Value.slice An nk cn := ⟨_, _, _, hN.tabs.choose_spec.choose_spec.1⟩
            have hkl : k < tt.length := by omega
            have hk2 : k < t2.length := by rw [hl2.out]; exact hkl
            have hek : t2[k] = tt[k] := by
              have := hj2.out k (Nat.le_refl _)
              rw [List.getElem?_eq_getElem hk2, List.getElem?_eq_getElem hkl] at this
              exact Option.some.inj this
            obtain ⟨b1, o1, A1, c1, rfl, hbl, hc1, hp1⟩ := hTi.2 k hk2
            obtain ⟨b2, o2, A2, c2, rfl, hbl2, hc2, hp2⟩ := (ht.below hg).2 k hkl
            rw [hek] at hc1 hp1
            replace hek := Lib.hid hek
            have S1 := fun n => samePoints_any tt[k] tt[k] A1 A2 c1 c2 (wr.drewN n) (Sl.drawn hp1 ⟨n, rfl⟩) (Sl.drawn hp2 ⟨n, rfl⟩)
            rw [decide_eq_true rfl] at S1
            have hm16 := h16 _ (List.getElem_mem hkl)
            have htk : Hid (t2[k]? = some tt[k]) := Lib.hid (by rw [List.getElem?_eq_getElem hk2, hek.out])
            have hpl := hp1.le
            generalize tt[k] = t at *
            go_wp2
            go_big_quiet ((go_at_call 16; exact quiet_drawn (S1 _)))
            clear S1 hp1 hp2 hc1 hc2 hTi hbl hbl2
            obtain ⟨w8, hw8⟩ : ∃ w8 : World, w8 = wr.drewN nq := ⟨_, rfl⟩
            have hT8 : PT w8 _ _ _ _ _ _ := hw8 ▸ hT.drawn ⟨nq, rfl⟩
            have hN8 : PT w8 _ _ _ _ _ _ := hw8 ▸ hN.drawn ⟨nq, rfl⟩
            have ho8 : Own w8 _ _ _ _ _ := hw8 ▸ Own.drawn ho ⟨nq, rfl⟩
            have hg8 : Below w.heap.size w w8 := hw8 ▸ below_drewN' hg nq
            have hsz8 : w7.heap.size ≤ w8.heap.size := by rw [hw8]; exact hsz7
            rw [← hw8]
            clear hw8 hT hN ho hg hsz7
            go_wp2
            go_loopw [20] (fun v wr => ∃ (j : Nat) (y : List Pt), j ≤ t.length ∧ v = .int .i64 j ∧ y.length = t.length ∧ PT wr w.heap.size 25 36 (t2.set k y) (.slice (some ⟨b1, o1, none⟩) tt.length ci) vs ∧ PT wr w7.heap.size 27 70 (t2.take k) (.slice An nk cn) ns ∧
              Own wr w0.heap.size 2 1 (rs.map irow) (.slice Aw rs.length cw) ∧ Below w.heap.size w wr ∧ w7.heap.size ≤ wr.heap.size) (fun v _ => t.length - (intOf v).toNat)
            case atStart =>
              refine ⟨0, t, by omega, rfl, rfl, ?_, hN8, ho8, hg8, hsz8⟩
              rw [set_same htk.out]; exact hT8
            case round =>
              clear hT8 hN8 ho8 hg8 hsz8
              obtain ⟨j, y, hjt, rfl, hyl, hT, hN, ho, hg, hsz7⟩ := hrel
              have hyk : Hid ((t2.set k y)[k]? = some y) := Lib.hid (by rw [List.getElem?_set_self (by rw [hl2.out]; exact hkl)])
              replace hyl := Lib.hid hyl
              by_cases hjl : j = t.length
              · subst hjl
                obtain ⟨A1, c1', e1, hTi⟩ := hT.tabs
                simp only [Value.slice.injEq] at e1
                obtain ⟨rfl, e2, rfl⟩ := e1
                clear e2
                obtain ⟨b4, o4, A4, c4, e, hbl, hc4, hp4⟩ := hTi.2 k (by rw [List.length_set]; exact hk2)
                cases e
                have ey : (t2.set k y)[k]'(by rw [List.length_set]; exact hk2) = y := List.getElem_set_self _
                rw [ey] at hc4 hp4
                have T := told_any y A4 c4 wr hp4 (by rw [hyl.out]; exact hm16)
                have hnl : ns.length = k := by have := hN.l; rw [List.length_map, List.length_take, hl2.out] at this; omega
                replace hnl := Lib.hid hnl
                clear ey
                rw [hyl.out] at hc4 T
                go_wp2_with (first
                  | (go_at_call 17; refine T.mono ?_; rintro e w9 ⟨x, rfl, hx, hb9⟩; obtain ⟨Ax, cx, rfl, hpx⟩ := hx.pts)
                  | (at_builtin; refine wpList_push_at elt22 rfl _ _ rfl rfl ((hN.o.below hb9).alloc _) [.slice Ax y.length cx] w9.heap.size 27 rfl (heap_alloc_at _ _) rfl (by simp [Value.oneCell']) (by rw [List.length_map, hnl.out]; omega) (by have := hb9.size; rw [size_al]; omega) ?_; intro v' w10 ho' hb10 hs10 _ hgr hat))
                have hs9 := hb9.size
                go_roundw
                case rel =>
                  have hP := hN.push hb9 hx hsz7 (below_al (Below.refl _ _) _) ho' hgr hat
                  have hb10' : Below w7.heap.size w9 w10 := ((Below.refl _ _).alloc (by omega) _).trans hb10
                  refine ⟨k + 1, t2.set k y, ns ++ [.slice Ax y.length cx], by omega, by go_num, by rw [List.length_set]; exact hl2.out, fun i hi => ?_, ?_, ?_, ?_, (hg.trans (hb9.mono hg.size)).trans (hb10'.mono (by omega)), ?_⟩
                  · rw [List.getElem?_set_ne (by omega)]; exact hj2.out i (by omega)
                  · exact (hT.below hb9).keep fun g _ _ ho => hb10'.block g (by have := (hTlt.out g ho).2; omega)
                  · have e3 : (t2.take k).map (·.map prow) ++ [y.map prow] = ((t2.set k y).take (k + 1)).map (·.map prow) := by
                      rw [List.take_succ_eq_append_getElem (by rw [List.length_set]; exact hk2), List.map_append, List.take_set_of_le (Nat.le_refl _), List.getElem_set_self]; rfl
                    unfold PT
                    rw [← e3]
                    exact hP
                  · exact (Own.below ho hb9).keep fun g ho => hb10'.block g (by have := (hwlt.out g ho).2; omega)
                  · rw [size_al] at hs10; omega
                case measure => simp [intOf]; omega
              have hjl : j < t.length := by omega
              have hjy : j < y.length := by rw [hyl.out]; exact hjl
              obtain ⟨b, o, g, c3, e, hbl, hc0, hgv, hg1, hg2, d0, d1, f0, f1, hset⟩ := hT.upd2 hyk.out hjy
              cases e
              have hgv := hTlt.out g (Or.inr hgv)
              rw [hyl.out] at hc0
              generalize hq1 : y[j].1 = q1 at *
              generalize hq2 : y[j].2 = q2 at *
              clear hq1 hq2
              go_wp2
              go_region
              all_goals go_wp2
              all_goals go_roundw
              case rel =>
                have hset := hset (wrap64 (q2 + 3))
                rw [List.set_set] at hset
                refine ⟨j + 1, y.set j (q1, _), by omega, by go_num, by rw [List.length_set]; exact hyl.out, hset.drawn ⟨1, rfl⟩, ?_, ?_, (hg.setCell hg1 _).drew, by rw [show ∀ W : World, W.drew.heap.size = W.heap.size from fun _ => rfl, size_set]; exact hsz7⟩
                · exact (hN.keep fun b hb _ _ => Below.heap_setCell _ _ _ b (by show ¬ b = g; omega)).drawn ⟨1, rfl⟩
                · exact (Own.keep ho fun b hb => Below.heap_setCell _ _ _ b (by show ¬ b = g; have := (hwlt.out b hb).1; omega)).drawn ⟨1, rfl⟩
              case measure => simp [intOf]; omega
        have hkl : k < X.2.1.length := by omega
        obtain ⟨g, u0, rfl, hg1, hg2, c0, f0, _, hset⟩ := hO.row1 hrs hkl
        have hg3 := halt.out g rfl
        go_wp2
        go_roundw
        case rel => exact ⟨k + 1, _, by omega, by go_num, by rw [List.length_set]; exact hrs, hset _, hF.set hg3.1 hg3.2 _⟩
        case measure => simp [intOf]; omega
    have hkl : k < tt.length := by omega
    obtain ⟨b, o, Ak, ck, rfl, hb, hc, hp⟩ := (ht.below hg).2 k hkl
    have G := given_any tt[k] Ak ck wr hp (h16 _ (List.getElem_mem hkl))
    have hvl : vs.length = k := by have := hT.l; rw [List.length_map, List.length_take] at this; omega
    have hvlH := Lib.hid hvl
    clear hvl
    have htk := Lib.hid (take_tabs tt hkl)
    go_wp2_with (first
      | (go_at_call 12; refine G.mono ?_; rintro e w1 ⟨x, rfl, hx, hb1⟩; obtain ⟨Ax, cx, rfl, hpx⟩ := hx.pts)
      | (at_builtin; refine wpList_push_at elt24 rfl _ _ rfl rfl ((hT.o.below hb1).alloc _) [.slice Ax tt[k].length cx] w1.heap.size 25 rfl (heap_alloc_at _ _) rfl (by simp [Value.oneCell']) (by rw [List.length_map, hvlH.out]; omega) (by have := hg.size; have := hb1.size; rw [size_al]; omega) ?_; intro v' w3 ho' hb' hs' _ hgr hat))
    go_roundw
    case rel =>
      refine ⟨k + 1, vs ++ [.slice Ax tt[k].length cx], by omega, by go_num, ?_, ?_⟩
      · have hP := hT.push hb1 hx hg.size (below_al (Below.refl _ _) _) ho' hgr hat
        rw [htk.out] at hP
        exact hP
      · exact (hg.trans (hb1.mono hg.size)).trans (((Below.refl _ _).alloc (by have := hg.size; have := hb1.size; omega) _).trans hb')
    case measure => simp [intOf]; omega
end Go.Proofs.Ythmdhmknadhjeaa
