/- PointsChanges, walked. -/
import Derived.Test.YthmdhmknadhjeaaChange2
import Derived.Test.YthmdhmknadhjeaaChange3
namespace Go.Proofs.Ythmdhmknadhjeaa
open Go.RowKit Go.BigFrame

/-- an own slice, read -/
theorem Own.pts {w : World} {B : Nat} {e : TypeId} {l : List Pt} {v : Value} (h : Own w B e 2 (l.map prow) v) : ∃ A c, v = .slice A l.length c ∧ Pts w A l := by
  obtain ⟨A, c, hv, hs⟩ := h.sl
  exact ⟨A, c, by rw [hv, List.length_map], hs.mono fun _ _ => trivial⟩
theorem Own.sts {w : World} {B : Nat} {e : TypeId} {l : List Pt} {v : Value} (h : Own w B e 2 (l.map srow) v) : ∃ A c, v = .slice A l.length c ∧ Sts w A l := by
  obtain ⟨A, c, hv, hs⟩ := h.sl
  exact ⟨A, c, by rw [hv, List.length_map], hs.mono fun _ _ => trivial⟩

/-- what lies outside blocks B0 .. B1 is as it was -/
structure Out (B0 B1 : Nat) (w w' : World) : Prop where
  o : ∀ b, b < B0 ∨ B1 ≤ b → b < w.heap.size → w'.heap[b]? = w.heap[b]?
  g : Below B0 w w'
theorem Out.refl (B0 B1 : Nat) (w : World) : Out B0 B1 w w := ⟨fun _ _ _ => rfl, Below.refl _ _⟩
theorem Out.set {B0 B1 : Nat} {w w' : World} (h : Out B0 B1 w w') {p : Addr} (h0 : B0 ≤ p.block) (h1 : p.block < B1) (v : Value) : Out B0 B1 w (w'.setCell p v) :=
  ⟨fun b hb hl => by rw [Below.heap_setCell w' p v b (by omega)]; exact h.o b hb hl, h.g.setCell h0 v⟩
theorem Out.own {B0 B1 : Nat} {w w' : World} (h : Out B0 B1 w w') {base : Nat} {e : TypeId} {size : Nat} {xs : List (List Value)} {v : Value} (ho : Own w base e size xs v) (hk : ∀ g, v.ownBlock = some g → g < B0 ∨ B1 ≤ g) : Own w' base e size xs v :=
  ho.keep fun g hg => h.o g (hk g hg) (ho.lt g hg).2
/-- the cells of row k, to be written -/
theorem Own.row2 {w : World} {base : Nat} {e : TypeId} {rs : List (List Value)} {A : Option Addr} {n c : Nat} (h : Own w base e 2 rs (.slice A n c)) (hn : rs.length = n) {k : Nat} (hk : k < n) :
    ∃ g u0 u1, A = some ⟨g, 0, none⟩ ∧ base ≤ g ∧ g < w.heap.size ∧ w.cell? ⟨g, k * 2, none⟩ = some u0 ∧ w.cell? ⟨g, k * 2 + 1, none⟩ = some u1 ∧ w.frozen? ⟨g, k * 2, none⟩ = false ∧ w.frozen? ⟨g, k * 2 + 1, none⟩ = false ∧ rs[k]? = some [u0, u1] ∧
      (∀ x y, Own ((w.setCell ⟨g, k * 2, none⟩ x).setCell ⟨g, k * 2 + 1, none⟩ y) base e 2 (rs.set k [x, y]) (.slice A n c)) ∧ (∀ x, Own (w.setCell ⟨g, k * 2 + 1, none⟩ x) base e 2 (rs.set k [u0, x]) (.slice A n c)) := by
  subst hn
  obtain ⟨g, cap, hv, hg1, hg2, hg3⟩ := h.form (by omega)
  simp only [Value.slice.injEq, true_and] at hv
  obtain ⟨rfl, rfl⟩ := hv
  have hl := h.2 _ (List.getElem_mem hk)
  have hr := List.getElem?_eq_getElem hk
  match hm : rs[k], hl with
  | [u0, u1], _ =>
    have c0 := h.cell hk (f := 0) (u := u0) (by rw [hm]; rfl)
    have c1 := h.cell hk (f := 1) (u := u1) (by rw [hm]; rfl)
    refine ⟨g, u0, u1, rfl, hg1, hg2, c0.1, c1.1, c0.2, c1.2, by rw [hr, hm], fun x y => ?_, fun x => ?_⟩
    · have h1 := h.set hk (f := 0) (by decide) x
      rw [hm] at h1
      have hk' : k < (rs.set k ([u0, u1].set 0 x)).length := by rw [List.length_set]; exact hk
      have hl' : (rs.set k ([u0, u1].set 0 x)).length = rs.length := List.length_set
      have h2 : Own (w.setCell ⟨g, k * 2, none⟩ x) base e 2 (rs.set k ([u0, u1].set 0 x)) (.slice (some ⟨g, 0, none⟩) (rs.set k ([u0, u1].set 0 x)).length c) := by rw [hl']; exact h1
      have h3 := h2.set hk' (f := 1) (by decide) y
      rw [List.getElem_set_self, List.set_set, hl'] at h3
      exact h3
    · have := h.set hk (f := 1) (by decide) x
      rw [hm] at this
      exact this

set_option maxHeartbeats 8000000 in
set_option maxRecDepth 100000 in
theorem changes_walk (l : List Pt) (A : Option Addr) (c : Nat) (i j y : Int) (w : World) (h : Pts w A l) (hr : l.length * 16 ≤ 140737488351232) :
    Calls Try.prog 4 #[.slice A l.length c, .int .i64 i, .int .i64 j, .int .i64 y] w fun e w' => e = .returned (.bool true) ∧ Below w.heap.size w w' := by
  have hlen := h.le
  go_enter Try.func4, Try.ntmps4
  go_wp2_with fail
  refine (given_any l A c _ h hr).mono ?_
  rintro e w1 ⟨vin, rfl, hin, hb1⟩
  obtain ⟨Ai, ci, rfl, hpi⟩ := hin.pts
  go_wp2_with fail
  refine (change_any l Ai ci i j y _ hpi).mono ?_
  rintro e w2 ⟨va, rfl, ha, hb2⟩
  go_wp2_with fail
  refine (change_any l Ai ci i j y _ (hpi.below hb2)).mono ?_
  rintro e w3 ⟨vb, rfl, hb, hb3⟩
  go_wp2_with fail
  refine (rchange_any l A c i j y _ (((h.below hb1).below hb2).below hb3)).mono ?_
  rintro e w4 ⟨vw, rfl, hw, hb4⟩
  obtain ⟨Aa, ca, rfl, hsa⟩ := ((ha.below hb3).below hb4).sts
  obtain ⟨Aw, cw, rfl, hsw⟩ := hw.sts
  obtain ⟨Ab, cb, rfl, hsb⟩ := (hb.below hb4).sts
  generalize hX : chg l i j y = X at *
  have S1 := sameSteps_any X.1 X.1 Aa Aw ca cw w4 hsa hsw
  rw [decide_eq_true rfl] at S1
  have hpi4 : Pts w4 Ai l := ((hpi.below hb2).below hb3).below hb4
  have h4 : Pts w4 A l := (((h.below hb1).below hb2).below hb3).below hb4
  go_wp2_with (first
    | (go_at_call 20; refine S1.mono ?_; rintro e w5 ⟨rfl, hd5⟩; have S2 := samePoints_any l l Ai A ci c w5 (Sl.drawn hpi4 hd5) (Sl.drawn h4 hd5); rw [decide_eq_true rfl] at S2)
    | (go_at_call 16; refine S2.mono ?_; rintro e w6 ⟨rfl, hd6⟩))
  have hD6 : Drawn w4 w6 := hd5.trans hd6
  have hin6 : Own w6 w.heap.size 36 2 (l.map prow) (.slice Ai l.length ci) := (((hin.below hb2).below hb3).below hb4).drawn hD6
  have hina : ∀ g, (Value.slice Ai l.length ci).ownBlock = some g → g < w1.heap.size := fun g hg => (hin.lt g hg).2
  have haa : ∀ g, (Value.slice Aa X.1.length ca).ownBlock = some g → w1.heap.size ≤ g ∧ g < w2.heap.size := ha.lt
  have ha6 := (((ha.below hb3).below hb4)).drawn hD6
  have hb6 := (hb.below hb4).drawn hD6
  have hw6 := hw.drawn hD6
  have hg6 : Below w.heap.size w w6 := hD6.after (((hb1.trans (hb2.mono hb1.size)).trans (hb3.mono (by have := hb1.size; have := hb2.size; omega))).trans (hb4.mono (by have := hb1.size; have := hb2.size; have := hb3.size; omega)))
  have hs1 := hb1.size
  have hs2 := hb2.size
  have hs3 := hb3.size
  clear h hpi hsa ha hsw hw hsb hb S1 S2 hpi4 h4 hd6 hd5 hin hb1 hb2 hb3 hb4 hD6 w5 hX
  go_loopw [16] (fun v wr => ∃ (k : Nat) (rs : List (List Value)), k ≤ X.1.length ∧ v = .int .i64 k ∧ rs.length = X.1.length ∧ Own wr w1.heap.size 47 2 rs (.slice Aa X.1.length ca) ∧ Out w1.heap.size w2.heap.size w6 wr) (fun v _ => X.1.length - (intOf v).toNat)
  case atStart => exact ⟨0, X.1.map srow, by omega, rfl, by simp, ha6, Out.refl _ _ _⟩
  case round =>
    obtain ⟨k, rs, hk, rfl, hrs, hO, hF⟩ := hrel
    by_cases hkl : k = X.1.length
    · subst hkl
      have hin7 := hF.own hin6 fun g hg => Or.inl (hina g hg)
      have hb7 := hF.own hb6 fun g hg => Or.inr (hb6.lt g hg).1
      have hw7 := hF.own hw6 fun g hg => Or.inr (Nat.le_trans hs3 (hw6.lt g hg).1)
      have hg7 := hg6.trans (hF.g.mono hs1)
      obtain ⟨A1, c1, e1, hsb⟩ := hb7.sts
      obtain ⟨A2, c2, e2, hsw⟩ := hw7.sts
      simp only [Value.slice.injEq, true_and] at e1 e2
      obtain ⟨rfl, rfl⟩ := e1
      obtain ⟨rfl, rfl⟩ := e2
      have S1 := sameSteps_any X.1 X.1 Ab Aw cb cw wr hsb hsw
      rw [decide_eq_true rfl] at S1
      clear hin6 hb6 hw6 ha6 hg6 hO hF
      go_wp2_with (go_at_call 20; refine S1.mono ?_; rintro e w7 ⟨rfl, hd7⟩; have hin8 := hin7.drawn hd7; have hg8 := hd7.after hg7)
      clear S1 hsb hsw hb7 hw7 hin7 hg7 hd7 haa hrs hk
      go_loopw [17] (fun v wr => ∃ (k : Nat) (ys : List Pt), k ≤ l.length ∧ v = .int .i64 k ∧ ys.length = l.length ∧ Own wr w.heap.size 36 2 (ys.map prow) (.slice Ai l.length ci) ∧ Below w.heap.size w wr) (fun v _ => l.length - (intOf v).toNat)
      case atStart => exact ⟨0, l, by omega, rfl, rfl, hin8, hg8⟩
      case round =>
        clear hin8 hg8
        obtain ⟨k, ys, hk, rfl, hys, hO, hg⟩ := hrel
        by_cases hkl : k = l.length
        · subst hkl
          obtain ⟨A1, c1, e1, hp⟩ := hO.pts
          simp only [Value.slice.injEq] at e1
          obtain ⟨rfl, e2, rfl⟩ := e1
          clear e2
          have C1 := change_any ys Ai ci i j y _ hp
          have C2 := fun w' (hb : Below _ _ w') => told_any ys Ai ci w' (hp.below hb) (by rw [hys]; exact hr)
          rw [hys] at C1 C2
          generalize hX : chg ys i j y = Y at *
          go_wp2_with (first
            | (go_at_call 18; refine C1.mono ?_; rintro e v1 ⟨va, rfl, ha, hb1⟩; obtain ⟨Ba, ba, rfl, hsa⟩ := ha.sts)
            | (go_at_call 17; refine (C2 _ hb1).mono ?_; rintro e v2 ⟨vt, rfl, ht, hb2⟩; obtain ⟨Bt, bt, rfl, hpt⟩ := ht.pts)
            | (go_at_call 19; have C3 := rchange_any ys Bt bt i j y _ hpt; rw [hys, hX] at C3; (try rw [hys]); refine C3.mono ?_; rintro e v3 ⟨vw, rfl, hw, hb3⟩; obtain ⟨Bw, bw, rfl, hsw⟩ := hw.sts)
            | (go_at_call 20; have S2 := sameSteps_any Y.1 Y.1 Ba Bw ba bw v3 (Sl.below' (Sl.below' hsa hb2) hb3) hsw; rw [decide_eq_true rfl] at S2; refine S2.mono ?_; rintro e w9 ⟨rfl, hd9⟩))
          have hs1 := hg.size
          have hs2 := hb1.size
          have hs3 := hb2.size
          have hfin : Below w.heap.size w v3 := ((hg.trans (hb1.mono hs1)).trans (hb2.mono (by omega))).trans (hb3.mono (by omega))
          go_ret
          exact ⟨rfl, hd9.after hfin⟩
        have hkl : k < l.length := by omega
        obtain ⟨g, u0, u1, rfl, hg1, hg2, c0, c1, f0, f1, hrow, _, hset1⟩ := hO.row2 (by rw [List.length_map]; exact hys) hkl
        rw [List.getElem?_map, List.getElem?_eq_getElem (by omega)] at hrow
        obtain ⟨r, v, hq⟩ : ∃ r v, ys[k] = (r, v) := ⟨_, _, rfl⟩
        rw [hq] at hrow
        simp only [Option.map_some, prow, Option.some.injEq, List.cons.injEq, and_true] at hrow
        obtain ⟨rfl, rfl⟩ := hrow
        go_wp2
        go_roundw
        case rel => exact ⟨k + 1, ys.set k (r, _), by omega, by go_num, by rw [List.length_set]; exact hys, by rw [List.map_set]; exact hset1 _, hg.setCell hg1 _⟩
        case measure => simp [intOf]; omega
    have hkl : k < X.1.length := by omega
    have hnl : X.1.length ≤ 9223372036854775807 := by
      have := hO.sl
      obtain ⟨_, _, _, hs⟩ := this
      have := hs.le
      omega
    obtain ⟨g, u0, u1, rfl, hg1, hg2, c0, c1, f0, f1, _, hset0, _⟩ := hO.row2 hrs hkl
    have hg3 := haa g rfl
    go_wp2
    go_roundw
    case rel => exact ⟨k + 1, _, by omega, by go_num, by rw [List.length_set]; exact hrs, hset0 _ _, (hF.set hg3.1 hg3.2 _).set hg3.1 hg3.2 _⟩
    case measure => simp [intOf]; omega
end Go.Proofs.Ythmdhmknadhjeaa
