/- RailsMoves, walked. -/
import Derived.Test.YtbbjnhajmckjoaaMove2
namespace Go.Proofs.Ytbbjnhajmckjoaa
open Go.RowKit Go.BigFrame

theorem elt23 : Elt Try.prog 23 2 1 8 := Elt.of (z := .int .i64 0) Try.underlying23 (by kernel_rfl) rfl (by decide) (by decide)
theorem elt22 : Elt Try.prog 22 41 2 16 := Elt.of (z := .agg #[.int .i64 0, .int .i64 0]) Try.underlying22 (by kernel_rfl) rfl (by decide) (by decide)
theorem Off.above {B0 B1 : Nat} {w w' w'' : World} (h : Off B0 B1 w w') (d : Below w.heap.size w' w'') (hb : B0 ≤ w.heap.size) : Off B0 B1 w w'' :=
  ⟨fun b hb hl => by rw [d.block b hl]; exact h.o b hb hl, h.g.trans (d.mono hb)⟩
theorem eqFields_ints {P : Program} (w : World) (d : Nat) (xs : Array Value) : ∀ (fs : List Field), (∀ f ∈ fs, ∃ k n, (part f.type xs f.offset).run P w = .ok (.int k n) w ∧ P.underlying f.type = some (.int k)) → (Op.eqFields (d + 1) xs xs fs).run P w = .ok true w
  | [], _ => by simp [Op.eqFields]
  | f :: fs, h => by
    obtain ⟨k, n, h1, h2⟩ := h f (by simp)
    have ih := eqFields_ints w d xs fs fun g hg => h g (by simp [hg])
    unfold Op.eqFields
    split
    · simp [h1, run_equalIn_int w d f.type k k n n h2, ih]
    · exact ih
/-- a struct's fields, told by their types and offsets -/
theorem fields_all {P : Program} {t : TypeId} {L : List (TypeId × Nat)} (h : ((Program.fieldsOf P t).toList.map fun f => (f.type, f.offset)) = L) {f : Field} (hf : f ∈ (Program.fieldsOf P t).toList) : (f.type, f.offset) ∈ L := by
  rw [← h]; exact List.mem_map_of_mem hf
theorem part_int (W : World) (T : TypeId) (hT : (isAgg T).run Try.prog W = .ok false W) (xs : Array Value) (i : Nat) (v : Value) (hv : xs[i]? = some v) : (part T xs i).run Try.prog W = .ok v W := by
  simp [part, hT, hv]
theorem eq_fed (W : World) (a b : Int) : (Op.equalIn 10000 41 (.agg #[.int .i64 a, .int .i64 b]) (.agg #[.int .i64 a, .int .i64 b])).run Try.prog W = .ok true W := by
  rw [show (10000 : Nat) = 9998 + 1 + 1 from rfl, run_equalIn_struct W (9998 + 1) 41 _ _ (by kernel_rfl) (by kernel_rfl)]
  refine eqFields_ints W 9998 _ _ fun f hf => ?_
  have hm := fields_all (P := Try.prog) (t := 41) (L := [(3, 0), (2, 1)]) (by kernel_rfl) hf
  simp only [List.mem_cons, Prod.mk.injEq, List.not_mem_nil, or_false] at hm
  rcases hm with ⟨e1, e2⟩ | ⟨e1, e2⟩
  · rw [e1, e2]; exact ⟨.i64, a, part_int W _ (by kernel_rfl) _ _ _ rfl, by kernel_rfl⟩
  · rw [e1, e2]; exact ⟨.i64, b, part_int W _ (by kernel_rfl) _ _ _ rfl, by kernel_rfl⟩
theorem Own.cell2 {w : World} {B : Nat} {e : TypeId} {L : List (List Value)} {k g n c : Nat} {a b : Value} (h : Own w B e 2 (L.set k [a, b]) (.slice (some ⟨g, 0, none⟩) n c)) (hn : L.length = n) (hk : k < n) :
    w.cell? ⟨g, k * 2, none⟩ = some a ∧ w.cell? ⟨g, k * 2 + 1, none⟩ = some b := by
  obtain ⟨g', u0, u1, e, _, _, c0, c1, _, _, hr, _⟩ := h.row2 (by rw [List.length_set]; exact hn) hk
  cases e
  rw [List.getElem?_set_self (by omega)] at hr
  simp only [Option.some.injEq, List.cons.injEq, and_true] at hr
  rw [c0, c1, hr.1, hr.2]
  exact ⟨rfl, rfl⟩
theorem one_ints (l : List Int) : ∀ r ∈ l.map irow, ∀ u ∈ r, u.oneCell' = true := by
  intro r hr u hu
  obtain ⟨n, _, rfl⟩ := List.mem_map.1 hr
  simp only [irow, List.mem_singleton] at hu
  subst hu
  rfl
theorem Own.ints {w : World} {B : Nat} {e : TypeId} {l : List Int} {v : Value} (h : Own w B e 1 (l.map irow) v) : ∃ A c, v = .slice A l.length c ∧ Ints w A l ∧ l.length ≤ c := by
  obtain ⟨A, c, hv, hs⟩ := h.sl
  refine ⟨A, c, by rw [hv, List.length_map], hs.mono fun _ _ => trivial, ?_⟩
  rcases Nat.eq_zero_or_pos l.length with q | q
  · omega
  · obtain ⟨g, cap, hv', _, _, hc⟩ := h.form (by rw [List.length_map]; exact q)
    rw [hv] at hv'
    simp only [Value.slice.injEq] at hv'
    rw [List.length_map] at hc
    omega
theorem Own.pts {w : World} {B : Nat} {e : TypeId} {l : List Pt} {v : Value} (h : Own w B e 2 (l.map prow) v) : ∃ A c, v = .slice A l.length c ∧ Pts w A l := by
  obtain ⟨A, c, hv, hs⟩ := h.sl
  exact ⟨A, c, by rw [hv, List.length_map], hs.mono fun _ _ => trivial⟩

set_option maxHeartbeats 4000000 in
set_option maxRecDepth 100000 in
theorem moves_walk (l : List Pt) (f t : List Int) (A B C : Option Addr) (a b c : Nat) (w : World) (h : Pts w A l) (hf : Ints w B f) (ht : Ints w C t) (hr : l.length * 16 ≤ 140737488351232) (hrf : f.length * 8 ≤ 140737488351232) (hrt : t.length * 8 ≤ 140737488351232)
    (hzB : B = none → b = 0) (hzC : C = none → c = 0) :
    Calls Try.prog 3 #[.slice A l.length a, .slice B f.length b, .slice C t.length c] w fun e w' => e = .returned (.bool true) ∧ Below w.heap.size w w' := by
  have hA0 := Lib.hid h
  have hC0 := Lib.hid ht
  go_enter Try.func3, Try.ntmps3
  go_wp2_with fail
  refine (fed_any l A a _ h hr).mono ?_
  rintro e w1 ⟨vin, rfl, hin, hb1⟩
  have hs1 := hb1.size
  have hf1 := Ints.below hf hb1
  have ht1 := Ints.below ht hb1
  have hfl : Hid ((f.map irow).length = f.length) := Lib.hid (by rw [List.length_map])
  have htl : Hid ((t.map irow).length = t.length) := Lib.hid (by rw [List.length_map])
  go_wp2_with (first
    | (at_builtin; refine wpList_app_any elt23 rfl _ _ rfl rfl (Own.lit (w := w1) (base := w1.heap.size) (e := 2) (size := 1) (xs := []) #[] 0 rfl rfl (by simp) (Nat.le_refl _) (by decide)) B b f.length hfl.out.symm rfl hzB (Sl.alloc hf1 _) (one_ints f) (by rw [hfl.out]; simp; omega) (by rw [size_al]; omega) ?_; intro vx w2 hx hb2 hs2 _ _; have ht2 := Sl.below' ht1 (((Below.refl _ _).alloc (Nat.le_refl _) _).trans hb2))
    | (at_builtin; refine wpList_app_any elt23 rfl _ _ rfl rfl (Own.lit (w := w2) (base := w2.heap.size) (e := 2) (size := 1) (xs := []) #[] 0 rfl rfl (by simp) (Nat.le_refl _) (by decide)) C c t.length htl.out.symm rfl hzC (Sl.alloc ht2 _) (one_ints t) (by rw [htl.out]; simp; omega) (by rw [size_al]; omega) ?_; intro vy w3 hy hb3 hs3 _ _))
  rw [List.nil_append] at hx hy
  rw [size_al] at hs2 hs3
  obtain ⟨Ai, ci, rfl, hpi⟩ := hin.pts
  obtain ⟨Ax, cx, rfl, hix, hxc⟩ := hx.ints
  obtain ⟨Ay, cy, rfl, hiy, hyc⟩ := hy.ints
  have hbx : Below w1.heap.size w1 w2 := ((Below.refl _ _).alloc (Nat.le_refl _) _).trans hb2
  have hby : Below w2.heap.size w2 w3 := ((Below.refl _ _).alloc (Nat.le_refl _) _).trans hb3
  have hin3 := (hin.below hbx).below hby
  have hx3 := hx.below hby
  have hpi3 := (hpi.below hbx).below hby
  have hsx := hbx.size
  have hsy := hby.size
  have G3 : Below w.heap.size w w3 := (hb1.trans (hbx.mono hs1)).trans (hby.mono (by omega))
  have hix3 := Ints.below hix hby
  have h3 := ((h.below hb1).below hbx).below hby
  have hf3 := Ints.below (Ints.below hf1 hbx) hby
  have ht3 := Ints.below (Ints.below ht1 hbx) hby
  have K1 := holds_any l f Ai Ax ci cx w3 hpi3 hix3 hxc
  have K2 := fun w' (hb : Below w3.heap.size w3 w') => rholds_any l f A B a b w' (h3.below hb) (Ints.below hf3 hb)
  have K3 := fun w' (hb : Below w3.heap.size w3 w') => moves_any l f t Ai Ax Ay ci cx cy w' (hpi3.below hb) (Ints.below hix3 hb) (Ints.below hiy hb) hxc hyc
  have K5 := fun w' (hb : Below w3.heap.size w3 w') => rmoves_any l f t A B C a b c w' (h3.below hb) (Ints.below hf3 hb) (Ints.below ht3 hb)
  generalize holds l f = H at *
  generalize moves l f t = M at *
  have S1 := fun A B c d w ha hb => sameMoves_any M.1 M.1 A B c d w ha hb
  have S2 := Lib.hid (fun w' (hb : Below w3.heap.size w3 w') => same64_any f f Ax B cx b w' (Ints.below hix3 hb) (Ints.below hf3 hb))
  have S3 := Lib.hid (fun w' (hb : Below w3.heap.size w3 w') => same64_any t t Ay C cy c w' (Ints.below hiy hb) (Ints.below ht3 hb))
  rw [show decide (M.1 = M.1) = true from decide_eq_true rfl] at S1
  have tok := Lib.hid trivial
  clear h hpi hix h3 hf3 ht3 hf1 ht1 ht2 hf ht
  go_wp2_with (first
    | (go_at_call 12; (with_reducible refine K1.mono ?_); rintro e w4 ⟨rfl, g4⟩)
    | (go_at_call 13; (with_reducible refine (K2 _ g4).mono ?_); rintro e w5 ⟨rfl, hd5⟩; have g5 := hd5.after g4)
    | (go_at_call 14; clear tok; (with_reducible refine (K3 _ g5).mono ?_); rintro e w6 ⟨va, rfl, ha, hb⟩; have g6 := g5.trans (hb.mono g5.size); obtain ⟨Aa, ca, rfl, hpa⟩ := ha.pts; clear hb)
    | (go_at_call 14; (with_reducible refine (K3 _ g6).mono ?_); rintro e w7 ⟨vb, rfl, hbo, hb7⟩; have g7 := g6.trans (hb7.mono g6.size); obtain ⟨Ab, cb, rfl, hpb⟩ := hbo.pts)
    | (go_at_call 15; (with_reducible refine (K5 _ g7).mono ?_); rintro e w8 ⟨vm, rfl, hmo, hb8⟩; have g8 := g7.trans (hb8.mono g7.size); obtain ⟨Am, cm, rfl, hpm⟩ := hmo.pts)
    | (go_at_call 16; (with_reducible refine (S1 _ _ _ _ _ ((hpa.below hb7).below hb8) hpm).mono ?_); rintro e w9 ⟨rfl, hd9⟩; have g9 := hd9.after g8; have S2 := S2.out _ g9; rw [show decide True = true from rfl] at S2)
    | (go_at_call 17; (with_reducible refine S2.mono ?_); rintro e w10 ⟨rfl, hd10⟩; have g10 := hd10.after g9; have S3 := S3.out _ g10; rw [show decide True = true from rfl] at S3)
    | (go_at_call 17; (with_reducible refine S3.mono ?_); rintro e w11 ⟨rfl, hd11⟩; have g11 := hd11.after g10))
  have hD : Drawn w8 w11 := (hd9.trans hd10).trans hd11
  have ha11 := ((ha.below hb7).below hb8).drawn hD
  have hb11 := (hbo.below hb8).drawn hD
  have hm11 := hmo.drawn hD
  have z5 := g5.size
  have z7 := hb7.size
  have z8 := hb8.size
  have hin11 := hin3.below g11
  have hx11 := hx3.below g11
  have hy11 := hy.below g11
  have hi5 : ∀ g, (Value.slice Ai l.length ci).ownBlock = some g → g < w5.heap.size := fun g hg => by have := (hin3.lt g hg).2; omega
  have hx5 : ∀ g, (Value.slice Ax f.length cx).ownBlock = some g → g < w5.heap.size := fun g hg => by have := (hx3.lt g hg).2; omega
  have hy5 : ∀ g, (Value.slice Ay t.length cy).ownBlock = some g → g < w5.heap.size := fun g hg => by have := (hy.lt g hg).2; omega
  have hi1 : Hid (∀ g, (Value.slice Ai l.length ci).ownBlock = some g → g < w1.heap.size) := Lib.hid fun g hg => (hin.lt g hg).2
  have hx2 : Hid (∀ g, (Value.slice Ax f.length cx).ownBlock = some g → w1.heap.size ≤ g ∧ g < w2.heap.size) := Lib.hid hx.lt
  have hlt : ∀ g, (Value.slice Aa M.1.length ca).ownBlock = some g → w5.heap.size ≤ g ∧ g < w6.heap.size := ha.lt
  clear K1 K2 K3 K5 S2 S3 hpa hpb hpm ha hbo hmo g4 g5 g6 g7 g8 g9 g10 hd9 hd10 hd11 hb7 hb8 hin3 hx3 hy hix3 hiy hpi3 hx hin hd5
  go_loopw [20] (fun v wr => ∃ (k : Nat) (rs : List (List Value)), k ≤ M.1.length ∧ v = .int .i64 k ∧ rs.length = M.1.length ∧ Own wr w5.heap.size 39 2 rs (.slice Aa M.1.length ca) ∧ Off w5.heap.size w6.heap.size w11 wr) (fun v _ => M.1.length - (intOf v).toNat)
  case atStart => exact ⟨0, M.1.map prow, by omega, rfl, by simp, ha11, Off.refl _ _ _⟩
  case round =>
    obtain ⟨k, rs, hk, rfl, hrs, hO, hF⟩ := hrel
    by_cases hkl : k = M.1.length
    · subst hkl
      have hb12 := hF.own hb11 fun g hg => Or.inr (hb11.lt g hg).1
      have hm12 := hF.own hm11 fun g hg => Or.inr (Nat.le_trans z7 (hm11.lt g hg).1)
      have hin12 := hF.own hin11 fun g hg => Or.inl (hi5 g hg)
      have hx12 := hF.own hx11 fun g hg => Or.inl (hx5 g hg)
      have hy12 := hF.own hy11 fun g hg => Or.inl (hy5 g hg)
      have hpb : Pts wr Ab M.1 := own_sl_at hb12
      have hpm : Pts wr Am M.1 := own_sl_at hm12
      have g12 := g11.trans (hF.g.mono z5)
      clear hb11 hm11 hin11 hx11 hy11 ha11 hO hF
      go_wp2_with (go_at_call 16; (with_reducible refine (S1 _ _ _ _ _ hpb hpm).mono ?_); rintro e w13 ⟨rfl, hd13⟩)
      have hin13 := hin12.drawn hd13
      have hx13 := hx12.drawn hd13
      have hy13 := hy12.drawn hd13
      have g13 := G3.trans ((hd13.after g12).mono (by omega))
      have hs13 := hd13.heap
      have hs12 := g12.size
      have hs13 : w3.heap.size ≤ w13.heap.size := by rw [hs13]; exact hs12
      have hlen := hA0.out.le
      have hC13 := Lib.hid (fun w' (hb : Below w.heap.size w w') => Ints.below hC0.out hb)
      have hA13 := Lib.hid (fun w' (hb : Below w.heap.size w w') => Pts.below hA0.out hb)
      clear hin12 hx12 hy12 g12 hd13 hb12 hm12 hpb hpm S1
      go_loopw [21, 22] (fun v i wr => ∃ (k : Nat) (ys : List Pt), k ≤ l.length ∧ i = .int .i64 k ∧ ys.length = l.length ∧ (∀ j, k ≤ j → ys[j]? = l[j]?) ∧ Own wr w.heap.size 42 2 (ys.map prow) (.slice Ai l.length ci) ∧ Own wr w13.heap.size 41 2 ((ys.take k).map prow) v ∧ Off w.heap.size w1.heap.size w13 wr) (fun _ i _ => l.length - (intOf i).toNat)
      case atStart => exact ⟨0, l, by omega, rfl, rfl, fun _ _ => rfl, hin13, Own.nil _ _ _ _, Off.refl _ _ _⟩
      case round =>
        clear hin13
        obtain ⟨k, ys, hk, rfl, hyl, hyj, hO, hN, hF⟩ := hrel
        replace hyj := Lib.hid hyj
        replace hyl := Lib.hid hyl
        by_cases hkl : k = l.length
        · subst hkl
          have hg14 := g13.trans hF.g
          have hx14 := hF.own hx13 fun g hg => Or.inr (hx13.lt g hg).1
          have hy14 := hF.own hy13 fun g hg => Or.inr (by have := (hy13.lt g hg).1; omega)
          have hs14 : w13.heap.size ≤ wr.heap.size := hF.g.size
          rw [show ys.take l.length = ys by rw [← hyl.out]; exact List.take_length] at hN
          obtain ⟨An, cn, e3, hNi⟩ := hN.pts
          rw [hyl.out] at e3
          subst e3
          clear hNi hF hx13 hy13 hk
          go_wp2
          obtain ⟨w14, rfl⟩ : ∃ w14 : World, w14 = wr := ⟨_, rfl⟩
          go_loopw [23] (fun v wr => ∃ (k : Nat) (ws : List Int), k ≤ f.length ∧ v = .int .i64 k ∧ ws.length = f.length ∧ Own wr w1.heap.size 2 1 (ws.map irow) (.slice Ax f.length cx) ∧ Off w1.heap.size w2.heap.size w14 wr) (fun v _ => f.length - (intOf v).toNat)
          case atStart => exact ⟨0, f, by omega, rfl, rfl, hx14, Off.refl _ _ _⟩
          case round =>
            clear hx14
            obtain ⟨k, ws, hk, rfl, hwl, hO2, hF2⟩ := hrel
            replace hwl := Lib.hid hwl
            by_cases hkl : k = f.length
            · subst hkl
              have hi := hF2.own hO fun g hg => Or.inl (hi1.out g hg)
              have hn := hF2.own hN fun g hg => Or.inr (by have := (hN.lt g hg).1; omega)
              have hy := hF2.own hy14 fun g hg => Or.inr (hy14.lt g hg).1
              have hG := hg14.trans (hF2.g.mono (by omega))
              have hpi : Pts wr Ai ys := own_sl_at hi
              have hpn : Pts wr An ys := own_sl_at hn
              have hiy : Ints wr Ay t := own_sl_at hy
              have hix : Ints wr Ax ws := own_sl_at hO2
              have hAx := Lib.hid hO2.nil0
              have V2 := fun w' (hb : Below wr.heap.size wr w') => moves_any ys ws t Ai Ax Ay ci cx cy w' (hpi.below hb) (Ints.below hix hb) (Ints.below hiy hb) (by rw [hwl.out]; exact hxc) hyc
              rw [hyl.out, hwl.out] at V2
              have V1 := fun w' (hb : Below wr.heap.size wr w') (Az : Option Addr) cz hz => rmoves_any ys ws t An Az C cn cz c w' (hpn.below hb) hz (hC13.out w' (hG.trans (hb.mono hG.size)))
              rw [hyl.out, hwl.out] at V1
              generalize moves ys ws t = Y at *
              have hGs := hG.size
              clear hi hn hy hpi hpn hiy hO hN hO2 hF2 hg14 hy14 hi5 hx5 hy5 hlt
              go_wp2_with (first
                | (at_builtin; refine wpList_app_any elt23 rfl _ _ rfl (base := wr.heap.size) rfl (Own.lit #[] 0 (xs := []) rfl rfl (by simp) (Nat.le_refl _) (by decide)) Ax cx f.length (by rw [List.length_map, hwl.out]) rfl hAx.out (Sl.alloc hix _) (one_ints ws) (by simp; rw [hwl.out]; omega) (by rw [size_al]; omega) ?_; intro vz v2 hoz hbz hsz2 _ _; obtain ⟨Az, cz, ez, hiz, _⟩ := Own.ints (l := ws) hoz; rw [hwl.out] at ez; subst ez; have hb2 : Below wr.heap.size wr v2 := (below_al (Below.refl _ _) _).trans hbz)
                | (go_at_call 15; (with_reducible refine (V1 v2 hb2 Az cz hiz).mono ?_); rintro e v3 ⟨vq, rfl, hq, hb3⟩; have hb3' := hb2.trans (hb3.mono hb2.size); obtain ⟨Bq, bq, rfl, hpq⟩ := hq.pts)
                | (go_at_call 14; (with_reducible refine (V2 v3 hb3').mono ?_); rintro e v4 ⟨va, rfl, ha, hb4⟩; obtain ⟨Ba, ba, rfl, hpa⟩ := ha.pts; have S := sameMoves_any Y.1 Y.1 Ba Bq ba bq v4 hpa (hpq.below hb4); rw [decide_eq_true rfl] at S)
                | (go_at_call 16; (with_reducible refine S.mono ?_); rintro e v5 ⟨rfl, hd5⟩))
              have hs3 := hb3'.size
              go_ret
              exact ⟨rfl, hd5.after ((hG.trans (hb3'.mono (by omega))).trans (hb4.mono (by omega)))⟩
            have hkl : k < f.length := by omega
            have hfl2 : f.length ≤ 9223372036854775807 := by omega
            obtain ⟨g, u0, rfl, hq1, hq2, c0, f0, hr0, hset⟩ := hO2.row1 (by rw [List.length_map]; exact hwl.out) hkl
            rw [List.getElem?_map, List.getElem?_eq_getElem (by rw [hwl.out]; exact hkl)] at hr0
            simp only [Option.map_some, irow, Option.some.injEq, List.cons.injEq, and_true] at hr0
            have hg3 := hx2.out g rfl
            generalize ws[k]'(by rw [hwl.out]; exact hkl) = r at *
            subst hr0
            go_wp2
            go_roundw
            case rel => exact ⟨k + 1, ws.set k (wrap64 (r.tdiv 2)), by omega, by go_num, by rw [List.length_set]; exact hwl.out, by rw [List.map_set]; exact hset _, hF2.set hg3.1 hg3.2 _⟩
            case measure => simp [intOf]; omega
        have hkl : k < l.length := by omega
        have hyk : ys[k]? = some l[k] := by rw [hyj.out k (Nat.le_refl _), List.getElem?_eq_getElem hkl]
        obtain ⟨g, u0, u1, rfl, hq1, hq2, c0, c1, f0, f1, hrow, _, hset1⟩ := hO.row2 (by rw [List.length_map]; exact hyl.out) hkl
        rw [List.getElem?_map, hyk] at hrow
        simp only [Option.map_some, prow, Option.some.injEq, List.cons.injEq, and_true] at hrow
        obtain ⟨rfl, rfl⟩ := hrow
        obtain ⟨b2, o2, rfl, hb2, d0, d1⟩ := (hA13.out _ (g13.trans hF.g)).at_ hkl
        have hgi := hi1.out g rfl
        obtain ⟨An, nk, cn, rfl⟩ : ∃ An nk cn, _ = Value.slice An nk cn := ⟨_, _, _, hN.pts.choose_spec.choose_spec.1⟩
        generalize hp : l[k].1 = p at *
        generalize hq : l[k].2 = q at *
        replace hyk := Lib.hid hyk
        have E := fun W => eq_fed W p q
        go_wp2
        go_big_quiet (fail)
        obtain ⟨w14, hw14⟩ : ∃ w14 : World, w14 = wr.drewN nq := ⟨_, rfl⟩
        have hO14 : Own w14 w.heap.size 42 2 (ys.map prow) (.slice (some ⟨g, 0, none⟩) l.length ci) := hw14 ▸ hO.drawn ⟨nq, rfl⟩
        have hN14 : Own w14 w13.heap.size 41 2 ((ys.take k).map prow) (.slice An nk cn) := hw14 ▸ hN.drawn ⟨nq, rfl⟩
        have hF14 : Off w.heap.size w1.heap.size w13 w14 := hw14 ▸ hF.drewN nq
        have c14 : w14.cell? ⟨g, k * 2 + 1, none⟩ = some (.int .i64 q) := by rw [hw14]; exact c1
        have f14 : w14.frozen? ⟨g, k * 2 + 1, none⟩ = false := by rw [hw14]; exact f1
        have hset14 : ∀ x, Own (w14.setCell ⟨g, k * 2 + 1, none⟩ x) w.heap.size 42 2 ((ys.map prow).set k [.int .i64 p, x]) (.slice (some ⟨g, 0, none⟩) l.length ci) := by
          rw [hw14]; exact fun x => (hset1 x).drawn ⟨nq, rfl⟩
        rw [← hw14]
        clear hw14 hO hN hF c0 c1 f0 f1 hset1 d0 d1 hx5 hy5 hi5 E
        have s0 := fun x => ((hset14 x).cell2 (by rw [List.length_map]; exact hyl.out) hkl).1
        have s1 := fun x => ((hset14 x).cell2 (by rw [List.length_map]; exact hyl.out) hkl).2
        have hg13 : g < w13.heap.size := by omega
        have hz14 : w13.heap.size ≤ w14.heap.size := hF14.g.size
        have hNs : ∀ x, Own (w14.setCell ⟨g, k * 2 + 1, none⟩ x) w13.heap.size 41 2 ((ys.take k).map prow) (.slice An nk cn) := fun x => hN14.keep fun g' hg' => Below.heap_setCell w14 _ _ g' (by have := (hN14.lt g' hg').1; show g' ≠ g; omega)
        go_wp2_with (at_builtin; refine wpList_push elt22 rfl _ _ rfl rfl ((hNs _).alloc _) [.int .i64 p, .int .i64 (wrap64 (q.tdiv 2))] w14.heap.size 41 rfl (heap_alloc_at' _ _ _ (by rw [size_set])) rfl (by simp [Value.oneCell']) (by rw [List.length_map, List.length_take]; omega) (by rw [size_al, size_set]; omega) ?_; intro v' w15 ho' hb15 hs15 _ hgr)
        go_roundw
        case rel =>
          have hzk : k < ys.length := by rw [hyl.out]; exact hkl
          refine ⟨k + 1, ys.set k (p, wrap64 (q.tdiv 2)), by omega, by go_num, by rw [List.length_set]; exact hyl.out, fun j hj => ?_, ?_, ?_, ?_⟩
          · rw [List.getElem?_set_ne (by omega)]; exact hyj.out j (by omega)
          · rw [List.map_set]
            exact ((hset14 _).alloc _).keep fun g' hg' => hb15.block g' (by have := hi1.out g' hg'; omega)
          · have e3 : (ys.take k).map prow ++ [[.int .i64 p, .int .i64 (wrap64 (q.tdiv 2))]] = ((ys.set k (p, wrap64 (q.tdiv 2))).take (k + 1)).map prow := by
              rw [List.take_succ_eq_append_getElem (by rw [List.length_set]; exact hzk), List.map_append, List.take_set_of_le (Nat.le_refl _), List.getElem_set_self]; rfl
            rw [← e3]
            exact ho'
          · exact (hF14.set hq1 hgi _).above (((Below.refl _ _).alloc (by rw [size_set]; exact hz14) _).trans hb15) (by have := g13.size; omega)
        case measure => simp [intOf]; omega
    have hkl : k < M.1.length := by omega
    have hnl : M.1.length ≤ 9223372036854775807 := by
      obtain ⟨_, _, _, hs⟩ := hO.sl
      have := hs.le
      omega
    obtain ⟨g, u0, u1, rfl, hg1, hg2, c0, c1, f0, f1, _, hset0, _⟩ := hO.row2 hrs hkl
    have hg3 := hlt g rfl
    go_wp2
    go_roundw
    case rel => exact ⟨k + 1, _, by omega, by go_num, by rw [List.length_set]; exact hrs, hset0 _ _, (hF.set hg3.1 hg3.2 _).set hg3.1 hg3.2 _⟩
    case measure => simp [intOf]; omega
end Go.Proofs.Ytbbjnhajmckjoaa
