/- RailsMeet, walked. -/
import Derived.Test.YtbbjnhajmckjoaaMeet3
namespace Go.Proofs.Ytbbjnhajmckjoaa
open Go.RowKit Go.BigFrame

theorem eq_want (W : World) (a b : Int) : (Op.equalIn 10000 57 (.agg #[.int .i64 a, .int .i64 b]) (.agg #[.int .i64 a, .int .i64 b])).run Try.prog W = .ok true W := by
  rw [show (10000 : Nat) = 9998 + 1 + 1 from rfl, run_equalIn_struct W (9998 + 1) 57 _ _ (by kernel_rfl) (by kernel_rfl)]
  refine eqFields_ints W 9998 _ _ fun f hf => ?_
  have hm := fields_all (P := Try.prog) (t := 57) (L := [(2, 0), (2, 1)]) (by kernel_rfl) hf
  simp only [List.mem_cons, Prod.mk.injEq, List.not_mem_nil, or_false] at hm
  rcases hm with ⟨e1, e2⟩ | ⟨e1, e2⟩
  · rw [e1, e2]; exact ⟨.i64, a, part_int W _ (by kernel_rfl) _ _ _ rfl, by kernel_rfl⟩
  · rw [e1, e2]; exact ⟨.i64, b, part_int W _ (by kernel_rfl) _ _ _ rfl, by kernel_rfl⟩
/-- a block of three numbers -/
structure Box3 (w : World) (g : Nat) (x y z : Int) : Prop where
  lt : g < w.heap.size
  c0 : w.cell? ⟨g, 0, none⟩ = some (.int .i64 x)
  c1 : w.cell? ⟨g, 1, none⟩ = some (.int .i64 y)
  c2 : w.cell? ⟨g, 2, none⟩ = some (.int .i64 z)
theorem Box3.at_ {w w' : World} {g : Nat} {x y z : Int} (h : Box3 w g x y z) {B : Nat} (d : Below B w w') (hB : g < B) : Box3 w' g x y z :=
  ⟨Nat.lt_of_lt_of_le h.lt d.size, (d.cell (p := ⟨g, 0, none⟩) hB).trans h.c0, (d.cell (p := ⟨g, 1, none⟩) hB).trans h.c1, (d.cell (p := ⟨g, 2, none⟩) hB).trans h.c2⟩
theorem Box3.new {w w0 : World} {x y z : Int} {T : TypeId} (h : w.alloc (.cells #[.int .i64 x, .int .i64 y, .int .i64 z] T) = w0) : Box3 w0 w.heap.size x y z := by
  rw [← h]
  exact ⟨by rw [size_al]; omega, cell_of_row _ _ 0 _ T (0, 0) (heap_alloc_at _ _), cell_of_row _ _ 1 _ T (0, 0) (heap_alloc_at _ _), cell_of_row _ _ 2 _ T (0, 0) (heap_alloc_at _ _)⟩

/-- the first cell of row k, to be written -/
theorem Own.rowa {w : World} {base : Nat} {e : TypeId} {rs : List (List Value)} {g n c : Nat} (h : Own w base e 2 rs (.slice (some ⟨g, 0, none⟩) n c)) (hn : rs.length = n) {k : Nat} (hk : k < n) {u0 u1 : Value} (hr : rs[k]? = some [u0, u1]) (x : Value) :
    Own (w.setCell ⟨g, k * 2, none⟩ x) base e 2 (rs.set k [x, u1]) (.slice (some ⟨g, 0, none⟩) n c) := by
  subst hn
  have h1 := h.set hk (f := 0) (by decide) x
  rw [List.getElem?_eq_getElem hk, Option.some.injEq] at hr
  rw [hr] at h1
  exact h1
set_option maxHeartbeats 4000000 in
set_option maxRecDepth 100000 in
theorem mlaw_walk (lo hi st : Int) (l : List Pt) (A : Option Addr) (c : Nat) (w : World) (h : Pts w A l) (hr : l.length * 16 ≤ 140737488351232) :
    Calls Try.prog 4 #[.agg #[.int .i64 lo, .int .i64 hi, .int .i64 st], .slice A l.length c] w fun e w' => e = .returned (.bool true) ∧ Below w.heap.size w w' := by
  have hA0 := Lib.hid h
  have hlen := h.le
  have K1 := fun W => ladder_any lo hi st W
  have K2 := fun W => rladder_any lo hi st W
  have K4 := fun A c W hp => meet_any lo hi st l A c W hp
  have K5 := fun A c W hp => rmeet_any lo hi st l A c W hp
  have hLs : (ladd lo st (rn lo hi st)).length ≤ 1024 := by rw [ladd_len]; exact rn_le _ _ _
  generalize lerr (rn lo hi st) = Er at *
  generalize ladd lo st (rn lo hi st) = Ls at *
  generalize meet lo hi st l = M at *
  have S1 := fun A B c d w ha hb => same64_any Ls Ls A B c d w ha hb
  rw [show decide (Ls = Ls) = true from decide_eq_true rfl] at S1
  have tok := Lib.hid trivial
  go_enter Try.func4, Try.ntmps4
  go_upto_region 1 with fail
  generalize hw0 : w.alloc (.cells #[.int .i64 lo, .int .i64 hi, .int .i64 st] 45) = w0 at *
  have B0 := Box3.new hw0
  have g0 : Below w.heap.size w w0 := by rw [← hw0]; exact below_al (Below.refl _ _) _
  have hs0 : w0.heap.size = w.heap.size + 1 := by rw [← hw0, size_al]
  clear hw0
  have hh0 := h.below g0
  clear h
  have q0 := B0.c0
  have q1 := B0.c1
  have q2 := B0.c2
  go_wp2_with (first
    | (go_at_call 18; clear tok; (with_reducible refine (K1 _).mono ?_); rintro e w1 ⟨va, rfl, ha, hb1⟩; have B1 := B0.at_ hb1 B0.lt; have q0 := B1.c0; have q1 := B1.c1; have q2 := B1.c2; obtain ⟨Aa, ca, rfl, hia, _⟩ := ha.ints)
    | (go_at_call 18; (with_reducible refine (K1 _).mono ?_); rintro e w2 ⟨vb, rfl, hbo, hb2⟩; have B2 := B1.at_ hb2 B1.lt; have q0 := B2.c0; have q1 := B2.c1; have q2 := B2.c2; obtain ⟨Ab, cb, rfl, hib, _⟩ := hbo.ints)
    | (go_at_call 19; (with_reducible refine (K2 _).mono ?_); rintro e w3 ⟨vm, rfl, hmo, hb3⟩; have B3 := B2.at_ hb3 B2.lt; have q0 := B3.c0; have q1 := B3.c1; have q2 := B3.c2; obtain ⟨Am, cm, rfl, him, _⟩ := hmo.ints; have hl3 := ((hh0.below hb1).below hb2).below hb3)
    | (go_at_call 20; (with_reducible refine (given_any l A c _ hl3 hr).mono ?_); rintro e w4 ⟨vi, rfl, hin, hb4⟩; have B4 := B3.at_ hb4 B3.lt; have q0 := B4.c0; have q1 := B4.c1; have q2 := B4.c2; obtain ⟨Ai, ci, rfl, hpi⟩ := hin.pts)
    | (go_at_call 21; (with_reducible refine (K4 _ _ _ hpi).mono ?_); rintro e w5 ⟨rfl, hb5⟩; have B5 := B4.at_ hb5 B4.lt; have q0 := B5.c0; have q1 := B5.c1; have q2 := B5.c2; have hl5 := (hl3.below hb4).below hb5)
    | (go_at_call 22; (with_reducible refine (K5 _ _ _ hl5).mono ?_); rintro e w6 ⟨rfl, hb6⟩; have B6 := B5.at_ hb6 B5.lt; have hia6 := Ints.below (Ints.below (Ints.below (Ints.below (Ints.below hia hb2) hb3) hb4) hb5) hb6; have him6 := Ints.below (Ints.below (Ints.below him hb4) hb5) hb6)
    | (go_at_call 17; (with_reducible refine (S1 _ _ _ _ _ hia6 him6).mono ?_); rintro e w7 ⟨rfl, hd7⟩))
  have z1 := hb1.size
  have z2 := hb2.size
  have z3 := hb3.size
  have z4 := hb4.size
  have z5 := hb5.size
  have z6 := hb6.size
  have z7 : w7.heap.size = w6.heap.size := by rw [hd7.heap]
  have G6 : Below w.heap.size w w6 := (((((g0.trans (hb1.mono (by omega))).trans (hb2.mono (by omega))).trans (hb3.mono (by omega))).trans (hb4.mono (by omega))).trans (hb5.mono (by omega))).trans (hb6.mono (by omega))
  have G7 := hd7.after G6
  have B7 := B6.at_ (hd7.below (w.heap.size + 1)) (by omega)
  have ha7 := (((((ha.below hb2).below hb3).below hb4).below hb5).below hb6).drawn hd7
  have hb7 := ((((hbo.below hb3).below hb4).below hb5).below hb6).drawn hd7
  have hm7 := (((hmo.below hb4).below hb5).below hb6).drawn hd7
  have hi7 := ((hin.below hb5).below hb6).drawn hd7
  have hilt : Hid (∀ g, (Value.slice Ai l.length ci).ownBlock = some g → w3.heap.size ≤ g ∧ g < w4.heap.size) := Lib.hid hin.lt
  have halt : Hid (∀ g, (Value.slice Aa Ls.length ca).ownBlock = some g → w0.heap.size ≤ g ∧ g < w1.heap.size) := Lib.hid ha.lt
  clear K1 K2 K4 K5 B0 B1 B2 B3 B4 B5 B6 hia hib him hl3 hl5 hpi hia6 him6 ha hbo hmo hin hb1 hb2 hb3 hb4 hb5 hb6 hh0 hd7 G6 q0 q1 q2
  go_loopw [16] (fun v wr => ∃ (k : Nat) (rs : List (List Value)), k ≤ Ls.length ∧ v = .int .i64 k ∧ rs.length = Ls.length ∧ Own wr w0.heap.size 2 1 rs (.slice Aa Ls.length ca) ∧ Off w0.heap.size w1.heap.size w7 wr) (fun v _ => Ls.length - (intOf v).toNat)
  case atStart => exact ⟨0, Ls.map irow, by omega, rfl, by simp, ha7, Off.refl _ _ _⟩
  case round =>
    clear ha7
    obtain ⟨k, rs, hk, rfl, hrs, hO, hF⟩ := hrel
    by_cases hkl : k = Ls.length
    · subst hkl
      have hb8 := hF.own hb7 fun g hg => Or.inr (hb7.lt g hg).1
      have hm8 := hF.own hm7 fun g hg => Or.inr (by have := (hm7.lt g hg).1; omega)
      have hi8 := hF.own hi7 fun g hg => Or.inr (by have := (hi7.lt g hg).1; omega)
      have hib : Ints wr Ab Ls := own_sl_at hb8
      have him : Ints wr Am Ls := own_sl_at hm8
      have G8 := G7.trans (hF.g.mono (by omega))
      have B8 := B7.at_ hF.g (by omega)
      have z8 : w7.heap.size ≤ wr.heap.size := hF.g.size
      clear hO hF hrs hk hb7 hm7 hi7 B7 G7
      go_wp2_with (go_at_call 17; (with_reducible refine (S1 _ _ _ _ _ hib him).mono ?_); rintro e w9 ⟨rfl, hd9⟩)
      have hi9 := hi8.drawn hd9
      have G9 := hd9.after G8
      have B9 := B8.at_ (hd9.below (w.heap.size + 1)) (by omega)
      have z9 : w7.heap.size ≤ w9.heap.size := by rw [hd9.heap]; exact z8
      clear hi8 hib him hb8 hm8 G8 B8 hd9 S1
      go_loopw [17, 18] (fun v i wr => ∃ (k : Nat) (ys : List Pt), k ≤ l.length ∧ i = .int .i64 k ∧ ys.length = l.length ∧ (∀ j, k ≤ j → ys[j]? = l[j]?) ∧ Own wr w3.heap.size 58 2 (ys.map prow) (.slice Ai l.length ci) ∧ Own wr w9.heap.size 57 2 ((ys.take k).map prow) v ∧ Off w3.heap.size w4.heap.size w9 wr) (fun _ i _ => l.length - (intOf i).toNat)
      case atStart => exact ⟨0, l, by omega, rfl, rfl, fun _ _ => rfl, hi9, Own.nil _ _ _ _, Off.refl _ _ _⟩
      case round =>
        clear hi9
        obtain ⟨k, ys, hk, rfl, hyl, hyj, hO, hN, hF⟩ := hrel
        replace hyj := Lib.hid hyj
        replace hyl := Lib.hid hyl
        have G10 := G9.trans (hF.g.mono (by omega))
        have B10 := B9.at_ hF.g (by omega)
        by_cases hkl : k = l.length
        · subst hkl
          rw [show ys.take l.length = ys by rw [← hyl.out]; exact List.take_length] at hN
          obtain ⟨An, cn, e3, hNi⟩ := hN.pts
          rw [hyl.out] at e3
          subst e3
          have hpi : Pts wr Ai ys := own_sl_at hO
          have V1 := meet_any lo hi st ys Ai ci wr hpi
          have V2 := fun W hp => rmeet_any lo hi st ys An cn W hp
          rw [hyl.out] at V1 V2
          generalize meet lo hi st ys = Y at *
          have q0 := B10.c0
          have q1 := B10.c1
          have q2 := B10.c2
          go_wp2_with (first
            | (go_at_call 21; (with_reducible refine V1.mono ?_); rintro e v1 ⟨rfl, hb1⟩; have B11 := B10.at_ hb1 B10.lt; have q0 := B11.c0; have q1 := B11.c1; have q2 := B11.c2)
            | (go_at_call 22; (with_reducible refine (V2 _ (hNi.below hb1)).mono ?_); rintro e v2 ⟨rfl, hb2⟩))
          have zz := G10.size
          have zy := hb1.size
          go_ret
          exact ⟨rfl, (G10.trans (hb1.mono (by omega))).trans (hb2.mono (by omega))⟩
        have hkl : k < l.length := by omega
        have hyk : ys[k]? = some l[k] := by rw [hyj.out k (Nat.le_refl _), List.getElem?_eq_getElem hkl]
        obtain ⟨g, u0, u1, rfl, hq1, hq2, c0, c1, f0, f1, hrow, _, _⟩ := hO.row2 (by rw [List.length_map]; exact hyl.out) hkl
        have hset1 := fun x => hO.rowa (by rw [List.length_map]; exact hyl.out) hkl hrow x
        rw [List.getElem?_map, hyk] at hrow
        simp only [Option.map_some, prow, Option.some.injEq, List.cons.injEq, and_true] at hrow
        obtain ⟨rfl, rfl⟩ := hrow
        obtain ⟨b2, o2, rfl, hb2, d0, d1⟩ := (hA0.out.below G10).at_ hkl
        have hgi := hilt.out g rfl
        obtain ⟨An, nk, cn, rfl⟩ : ∃ An nk cn, _ = Value.slice An nk cn := ⟨_, _, _, hN.pts.choose_spec.choose_spec.1⟩
        generalize hp : l[k].1 = p at *
        generalize hq : l[k].2 = q at *
        replace hyk := Lib.hid hyk
        have E := fun W => eq_want W p q
        clear B10
        go_wp2
        go_big_quiet (fail)
        obtain ⟨w14, hw14⟩ : ∃ w14 : World, w14 = wr.drewN nq := ⟨_, rfl⟩
        have hN14 : Own w14 w9.heap.size 57 2 ((ys.take k).map prow) (.slice An nk cn) := hw14 ▸ hN.drawn ⟨nq, rfl⟩
        have hF14 : Off w3.heap.size w4.heap.size w9 w14 := hw14 ▸ hF.drewN nq
        have c14 : w14.cell? ⟨g, k * 2, none⟩ = some (.int .i64 p) := by rw [hw14]; exact c0
        have f14 : w14.frozen? ⟨g, k * 2, none⟩ = false := by rw [hw14]; exact f0
        have hset14 : ∀ x, Own (w14.setCell ⟨g, k * 2, none⟩ x) w3.heap.size 58 2 ((ys.map prow).set k [x, .int .i64 q]) (.slice (some ⟨g, 0, none⟩) l.length ci) := by
          rw [hw14]; exact fun x => (hset1 x).drawn ⟨nq, rfl⟩
        rw [← hw14]
        clear hw14 hO hN hF c0 c1 f0 f1 hset1 d0 d1 E G10
        have s0 := fun x => ((hset14 x).cell2 (by rw [List.length_map]; exact hyl.out) hkl).1
        have s1 := fun x => ((hset14 x).cell2 (by rw [List.length_map]; exact hyl.out) hkl).2
        have hg13 : g < w9.heap.size := by omega
        have hz14 : w9.heap.size ≤ w14.heap.size := hF14.g.size
        have hNs : ∀ x, Own (w14.setCell ⟨g, k * 2, none⟩ x) w9.heap.size 57 2 ((ys.take k).map prow) (.slice An nk cn) := fun x => hN14.keep fun g' hg' => Below.heap_setCell w14 _ _ g' (by have := (hN14.lt g' hg').1; show g' ≠ g; omega)
        go_wp2_with (at_builtin; refine wpList_push elt46 rfl _ _ rfl rfl ((hNs _).alloc _) [.int .i64 (wrap64 (p - 60)), .int .i64 q] w14.heap.size 57 rfl (heap_alloc_at' _ _ _ (by rw [size_set])) rfl (by simp [Value.oneCell']) (by rw [List.length_map, List.length_take]; omega) (by rw [size_al, size_set]; omega) ?_; intro v' w15 ho' hb15 hs15 _ hgr)
        go_roundw
        case rel =>
          have hzk : k < ys.length := by rw [hyl.out]; exact hkl
          refine ⟨k + 1, ys.set k (wrap64 (p - 60), q), by omega, by go_num, by rw [List.length_set]; exact hyl.out, fun j hj => ?_, ?_, ?_, ?_⟩
          · rw [List.getElem?_set_ne (by omega)]; exact hyj.out j (by omega)
          · rw [List.map_set]
            exact ((hset14 _).alloc _).keep fun g' hg' => hb15.block g' (by have := hilt.out g' hg'; omega)
          · have e3 : (ys.take k).map prow ++ [[.int .i64 (wrap64 (p - 60)), .int .i64 q]] = ((ys.set k (wrap64 (p - 60), q)).take (k + 1)).map prow := by
              rw [List.take_succ_eq_append_getElem (by rw [List.length_set]; exact hzk), List.map_append, List.take_set_of_le (Nat.le_refl _), List.getElem_set_self]; rfl
            rw [← e3]
            exact ho'
          · exact (hF14.set hgi.1 hgi.2 _).above (((Below.refl _ _).alloc (by rw [size_set]; exact hz14) _).trans hb15) (by omega)
        case measure => simp [intOf]; omega
    have hkl : k < Ls.length := by omega
    have hnl : Ls.length ≤ 9223372036854775807 := by omega
    obtain ⟨g, u0, rfl, hq1, hq2, c0, f0, _, hset⟩ := hO.row1 hrs hkl
    have hg3 := halt.out g rfl
    go_wp2
    go_roundw
    case rel => exact ⟨k + 1, _, by omega, by go_num, by rw [List.length_set]; exact hrs, hset _, hF.set hg3.1 hg3.2 _⟩
    case measure => simp [intOf]; omega
end Go.Proofs.Ytbbjnhajmckjoaa
