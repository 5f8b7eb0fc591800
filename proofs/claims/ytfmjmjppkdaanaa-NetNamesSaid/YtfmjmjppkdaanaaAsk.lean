/- Net: Each and Z with their refusals; the same rows; walked. -/
import Derived.Test.YtfmjmjppkdaanaaReach
namespace Go.Proofs.Ytfmjmjppkdaanaa
open Go.RowKit Go.BigFrame flt Ieee

theorem i64_in (n : Int) (h : -9223372036854775808 ≤ n ∧ n ≤ 9223372036854775807) : IntKind.i64.wrap n = n := by rw [IntKind.wrap_i64]; omega
/-- what is wrong with a net and a rate -/
def err (l : List Part) (Y : Option Nat) : Int := if Good l then (if isRate Y then 0 else 1) else 290
theorem eachk_bad (l : List Part) (A : Option Addr) (c y : Nat) (w : World) (h : Pn w A l) (he : ¬ (Good l ∧ isRate (cls y) = true)) :
    Calls Try.prog 24 #[.slice A l.length c, .float .f64 y] w fun e w' => e = .returned (.tuple #[.slice none 0 0, .int .i64 (err l (cls y))]) ∧ Below w.heap.size w w' := by
  have hC := check_any l A c w h
  have hR := rate_any y
  clear h
  unfold err chk at *
  by_cases hg : Good l
  · have hr : isRate (cls y) = false := by
      cases hq : isRate (cls y)
      · rfl
      · exact absurd ⟨hg, hq⟩ he
    rw [if_pos hg, hr]
    rw [if_pos hg] at hC
    rw [hr] at hR
    clear he hg hr
    go_enter Try.func24, Try.ntmps24
    go_wp2_with (first | (go_at_call 41; (with_reducible refine (hC).mono ?_); rintro e w1 ⟨rfl, hb⟩) | (go_at_call 36; (with_reducible refine (hR _).mono ?_); rintro e w2 ⟨rfl, hw⟩; subst hw))
    go_ret2
    exact ⟨rfl, hb⟩
  · rw [if_neg hg]
    rw [if_neg hg] at hC
    clear he hg
    go_enter Try.func24, Try.ntmps24
    go_wp2_with (go_at_call 41; (with_reducible refine (hC).mono ?_); rintro e w1 ⟨rfl, hb⟩)
    go_ret2
    exact ⟨rfl, hb⟩
theorem eachk_good (l : List Part) (A : Option Addr) (c y : Nat) (w : World) (h : Pn w A l) (hg : Good l) (hr : isRate (cls y) = true) :
    Calls Try.prog 24 #[.slice A l.length c, .float .f64 y] w fun e w' => ∃ (v : Value) (rs : List (Nat × Nat)), e = .returned (.tuple #[v, .int .i64 0]) ∧ rs.map clsc = zsn (cls y) l l.length ∧ Own w' w.heap.size 34 1 (rs.map crow) v ∧ Below w.heap.size w w' := by
  have hC := check_any l A c w h
  have hR := rate_any y
  have hE := fun W (hW : Below w.heap.size w W) => each_any l hg A c y W (h.below hW)
  clear h
  unfold chk at hC
  rw [if_pos hg] at hC
  rw [hr] at hR
  clear hg hr
  go_enter Try.func24, Try.ntmps24
  go_wp2_with (first | (go_at_call 41; (with_reducible refine (hC).mono ?_); rintro e w1 ⟨rfl, hb⟩) | (go_at_call 36; (with_reducible refine (hR _).mono ?_); rintro e w2 ⟨rfl, hw⟩; subst hw) | (go_at_call 43; (with_reducible refine (hE _ hb).mono ?_); rintro e w3 ⟨v, rs, rfl, hz, ho, hb3⟩; replace hz := Lib.hid hz))
  go_ret2
  exact ⟨v, rs, rfl, hz.out, ho.mono hb.size, hb.trans (hb3.mono hb.size)⟩
theorem z_bad (l : List Part) (A : Option Addr) (c y : Nat) (w : World) (h : Pn w A l) (he : ¬ (Good l ∧ isRate (cls y) = true)) :
    Calls Try.prog 25 #[.slice A l.length c, .float .f64 y] w fun e w' => e = .returned (.tuple #[.complex .f64 0 0, .int .i64 (err l (cls y))]) ∧ Below w.heap.size w w' := by
  have hC := eachk_bad l A c y w h he
  have hn : err l (cls y) = 290 ∨ err l (cls y) = 1 := by
    unfold err
    by_cases hg : Good l
    · rw [if_pos hg]
      cases hq : isRate (cls y)
      · exact Or.inr rfl
      · exact absurd ⟨hg, hq⟩ he
    · rw [if_neg hg]; exact Or.inl rfl
  clear h he
  generalize err l (cls y) = E at *
  rcases hn with rfl | rfl
  all_goals (
    go_enter Try.func25, Try.ntmps25
    go_wp2_with (go_at_call 24; (with_reducible refine (hC).mono ?_); rintro e w1 ⟨rfl, hb⟩)
    go_ret2
    exact ⟨rfl, hb⟩)
theorem z_good (l : List Part) (A : Option Addr) (c y : Nat) (w : World) (h : Pn w A l) (hg : Good l) (hr : isRate (cls y) = true) :
    Calls Try.prog 25 #[.slice A l.length c, .float .f64 y] w fun e w' => ∃ r s, e = .returned (.tuple #[.complex .f64 r s, .int .i64 0]) ∧ (cls r, cls s) = (zsn (cls y) l l.length).getD (l.length - 1) (none, none) ∧ Below w.heap.size w w' := by
  have hE := eachk_good l A c y w h hg hr
  have h1 := hg.1
  have h2 := hg.2.1
  have hz := zsn_len (cls y) l l.length
  clear h hg hr
  generalize zsn (cls y) l l.length = zs at *
  generalize hn : l.length = n at *
  clear hn
  have k1 : IntKind.i64.wrap ((n : Int) - 1) = ((n - 1 : Nat) : Int) := by rw [i64_in _ (by omega)]; omega
  have k2 : ((n : Int) - 1) = ((n - 1 : Nat) : Int) := by omega
  go_enter Try.func25, Try.ntmps25
  go_wp2_with (go_at_call 24; (with_reducible refine (hE).mono ?_); rintro e w1 ⟨v, rs, rfl, hz1, ho, hb⟩; obtain ⟨Av, cv, rfl, hcs⟩ := Cs.of_own ho; have hrl : rs.length = n := (by rw [← List.length_map (f := clsc), hz1, hz]); rw [hz1] at hcs; rw [hrl]; obtain ⟨bb, oo, r, s, rfl, hbl, d, hc⟩ := hcs.2 (n - 1) (by omega); replace hc := Lib.hid hc; replace hrl := Lib.hid hrl; replace hz1 := Lib.hid hz1)
  go_ret2
  exact ⟨r, s, rfl, by rw [hc.out, List.getD_eq_getElem?_getD, List.getElem?_eq_getElem (by omega)]; rfl, hb⟩
set_option maxHeartbeats 1000000 in
theorem rows_any (zs : List Cx) (A B : Option Addr) (ca cb : Nat) (w : World) (hA : Cs w A zs) (hB : Ps w B zs) :
    Calls Try.prog 48 #[.slice A zs.length ca, .slice B zs.length cb] w fun e w' => e = .returned (.bool true) ∧ Below w.heap.size w w' := by
  have hlen := hA.1
  have K := samec_any
  have f0 : ((zs.length : Int) != zs.length) = false := by simp
  go_enter Try.func48, Try.ntmps48
  go_wp2
  go_loopw [5] (fun s wr => ∃ k : Nat, k ≤ zs.length ∧ s = .int .i64 k ∧ Below w.heap.size w wr) (fun s _ => zs.length - (intOf s).toNat)
  case atStart => exact ⟨0, by omega, rfl, Below.refl _ _⟩
  case round =>
    obtain ⟨k, hk, rfl, hd⟩ := hrel
    by_cases hkl : k = zs.length
    · subst hkl
      clear hA hB
      go_wp2
      go_ret
      exact ⟨rfl, hd⟩
    have hlt : k < zs.length := by omega
    obtain ⟨b1, o1, r1, s1, rfl, hb1, c1, e1⟩ := (hA.below hd).2 k hlt
    obtain ⟨b2, o2, r2, s2, rfl, hb2, c2, c3, e2⟩ := (hB.below hd).2 k hlt
    have K1 := fun W => K r1 s1 r2 s2 (by have := e1.trans e2.symm; exact (Prod.mk.inj this).1) (by have := e1.trans e2.symm; exact (Prod.mk.inj this).2) W
    clear hA hB e1 e2 K
    go_upto_region 6 with fail
    go_region_law (go_simp; go_at_call 15; (with_reducible refine (K1 _).mono ?_); rintro e w1 ⟨rfl, hb⟩)
    all_goals go_wp2
    all_goals go_roundw
    all_goals first
      | exact ⟨k + 1, by omega, by go_num, hd.drew.trans (hb.mono hd.size)⟩
      | (simp [intOf]; omega)
set_option maxHeartbeats 4000000 in
theorem fresh_any (zs : List Cx) (r1 r2 r3 : List (Nat × Nat)) (v1 v2 v3 : Value) (B B2 : Nat) (w : World) (h1 : r1.map clsc = zs) (h2 : r2.map clsc = zs) (h3 : r3.map clsc = zs) (h0 : 0 < zs.length) (hle : zs.length ≤ 1000000)
    (o1 : Own w B 34 1 (r1.map crow) v1) (o2 : Own w B2 34 1 (r2.map crow) v2) (o3 : Own w B2 26 2 (r3.map prow) v3) (hlt : ∀ g, v1.ownBlock = some g → g < B2) (hB : B ≤ w.heap.size) :
    Calls Try.prog 35 #[v1, v2, v3] w fun e w' => e = .returned (.bool true) ∧ Below B w w' ∧ Own w' B2 26 2 (r3.map prow) v3 := by
  have l1 : r1.length = zs.length := by rw [← List.length_map (f := clsc), h1]
  have l2 : r2.length = zs.length := by rw [← List.length_map (f := clsc), h2]
  have l3 : r3.length = zs.length := by rw [← List.length_map (f := clsc), h3]
  obtain ⟨g1, c1, e1, hg1, hgs1, _⟩ := o1.form (by rw [List.length_map]; omega)
  obtain ⟨g2, c2, e2, hg2, hgs2, _⟩ := o2.form (by rw [List.length_map]; omega)
  obtain ⟨g3, c3, e3, hg3, hgs3, _⟩ := o3.form (by rw [List.length_map]; omega)
  rw [List.length_map, l1] at e1
  rw [List.length_map, l2] at e2
  rw [List.length_map, l3] at e3
  subst e1 e2 e3
  have hlt1 := hlt g1 rfl
  have hst : ∀ (p : Addr) (a b : Nat) (W : World), (store p (.complex .f64 a b)).run Try.prog W = stored Try.prog W p (.complex .f64 a b) .plain := fun p a b W => run_store Try.prog W p _ _ rfl
  have R1 : ∀ W, Own W B 34 1 (r1.map crow) (.slice (some ⟨g1, 0, none⟩) zs.length c1) → Cs W (some ⟨g1, 0, none⟩) zs := fun W hW => by
    obtain ⟨A, c, e, hc⟩ := Cs.of_own hW
    simp only [Value.slice.injEq] at e
    obtain ⟨rfl, _, _⟩ := e
    rw [h1] at hc
    exact hc
  have R2 : ∀ W, Own W B2 34 1 (r2.map crow) (.slice (some ⟨g2, 0, none⟩) zs.length c2) → Cs W (some ⟨g2, 0, none⟩) zs := fun W hW => by
    obtain ⟨A, c, e, hc⟩ := Cs.of_own hW
    simp only [Value.slice.injEq] at e
    obtain ⟨rfl, _, _⟩ := e
    rw [h2] at hc
    exact hc
  have R3 : ∀ W, Own W B2 26 2 (r3.map prow) (.slice (some ⟨g3, 0, none⟩) zs.length c3) → Ps W (some ⟨g3, 0, none⟩) zs := fun W hW => by
    obtain ⟨A, c, e, hc⟩ := Ps.of_own hW
    simp only [Value.slice.injEq] at e
    obtain ⟨rfl, _, _⟩ := e
    rw [h3] at hc
    exact hc
  have C1 := rows_any zs (some ⟨g1, 0, none⟩) (some ⟨g3, 0, none⟩) c1 c3 w (R1 w o1) (R3 w o3)
  have C2 := fun W o2 o3 => rows_any zs (some ⟨g2, 0, none⟩) (some ⟨g3, 0, none⟩) c2 c3 W (R2 W o2) (R3 W o3)
  clear R1 R2 R3 h1 h2 h3
  generalize zs.length = n at *
  replace l1 := Lib.hid l1
  replace l2 := Lib.hid l2
  replace l3 := Lib.hid l3
  generalize hx1 : r1.map crow = x1 at *
  have hxl : Hid (x1.length = n) := Lib.hid (by rw [← hx1, List.length_map, l1.out])
  clear hx1
  generalize r2.map crow = x2 at *
  generalize r3.map prow = x3 at *
  go_enter Try.func35, Try.ntmps35
  go_upto_region 3 with (first | (go_at_call 48; (with_reducible refine (C1).mono ?_); rintro e w1 ⟨rfl, hb1⟩; replace o1 := o1.below hb1; replace o2 := o2.below hb1; replace o3 := o3.below hb1; have hS := Lib.hid hb1.size) | (go_at_call 48; (with_reducible refine (C2 _ o2 o3).mono ?_); rintro e w2 ⟨rfl, hb2⟩; replace o1 := o1.below hb2; replace o2 := o2.below hb2; replace o3 := o3.below hb2; have hS2 := Lib.hid hb2.size))
  have hV2 : Hid (∀ g, (Value.slice (some ⟨g2, 0, none⟩) n c2).ownBlock = some g → B2 ≤ g) := Lib.hid fun g h => (o2.lt g h).1
  have hV3 : Hid (∀ g, (Value.slice (some ⟨g3, 0, none⟩) n c3).ownBlock = some g → B2 ≤ g) := Lib.hid fun g h => (o3.lt g h).1
  obtain ⟨wo, rfl⟩ : ∃ wo : World, wo = w2 := ⟨_, rfl⟩
  have hbo : Hid (Below B w wo) := Lib.hid ((hb1.mono hB).trans (hb2.mono (by have := hb1.size; omega)))
  have hBo : Hid (B ≤ wo.heap.size) := Lib.hid (by have := hS.out; have := hS2.out; omega)
  clear hb1 hb2 hS hS2 C1
  go_wp2
  go_loopw [7] (fun v wr => ∃ (k : Nat) (xs : List (List Value)), k ≤ n ∧ v = .int .i64 k ∧ xs.length = n ∧ Own wr B 34 1 xs (.slice (some ⟨g1, 0, none⟩) n c1) ∧ Off B B2 wo wr) (fun v _ => n - (intOf v).toNat)
  case atStart => exact ⟨0, x1, by omega, rfl, hxl.out, o1, Off.refl _ _ _⟩
  case round =>
    clear o1
    obtain ⟨k, xs, hk, rfl, hxs, hO, hF⟩ := hrel
    by_cases hkl : k < n
    · obtain ⟨g, u0, eg, hq1, hq2, c0, f0, _, hset⟩ := hO.row1 hxs hkl
      cases eg
      go_wp2
      go_roundw
      case rel => exact ⟨k + 1, _, by omega, by go_num, by rw [List.length_set]; exact hxs, hset _, hF.set hg1 hlt1 _⟩
      case measure => simp [intOf]; omega
    obtain rfl : k = n := by omega
    clear hkl hk
    obtain ⟨wm, rfl⟩ : ∃ wm : World, wm = wr := ⟨_, rfl⟩
    have p2 := hF.own o2 fun g h => Or.inr (hV2.out g h)
    have p3 := hF.own o3 fun g h => Or.inr (hV3.out g h)
    have hbm : Hid (Below B w wm) := Lib.hid (hbo.out.trans hF.g)
    have hBm : Hid (B ≤ wm.heap.size) := Lib.hid (by have := hF.g.size; have := hBo.out; omega)
    have hL2 : Hid (g2 < wm.heap.size) := Lib.hid (p2.lt g2 rfl).2
    have hL3 : Hid (g3 < wm.heap.size) := Lib.hid (p3.lt g3 rfl).2
    clear o2 o3 hF hbo hBo
    go_wp2
    go_loopw [0, 8] (fun s0 s8 wr => ∃ (j : Nat) (xs : List (List Value)), j ≤ 20 ∧ s8 = .int .i64 j ∧ xs.length = k + j ∧ Own wr B 34 1 xs s0 ∧ (∀ g, s0.ownBlock = some g → g < B2 ∨ wm.heap.size ≤ g) ∧
      Own wr B2 34 1 x2 (.slice (some ⟨g2, 0, none⟩) k c2) ∧ Own wr B2 26 2 x3 (.slice (some ⟨g3, 0, none⟩) k c3) ∧ Below B wm wr) (fun _ v _ => 20 - (intOf v).toNat)
    case atStart => exact ⟨0, xs, by omega, rfl, hxs, hO, fun g h => Or.inl (by cases h; exact hlt1), p2, p3, Below.refl _ _⟩
    case round =>
      clear hO hxs
      obtain ⟨j, ys, hj, rfl, hys, hO, hsep, q2, q3, hbr⟩ := hrel
      replace hsep := Lib.hid hsep
      by_cases hjl : j = 20
      · subst hjl
        obtain ⟨g, c, rfl, _, _, _⟩ := hO.form (by omega)
        rw [hys]
        replace hys := Lib.hid hys
        go_wp2_with (go_at_call 48; (with_reducible refine (C2 _ q2 q3).mono ?_); rintro e w3 ⟨rfl, hb3⟩)
        go_ret
        exact ⟨rfl, hbm.out.trans (hbr.trans (hb3.mono (by have := hbr.size; have := hBm.out; omega))), q3.below hb3⟩
      have hbytes : Hid ((ys.length + 1) * 16 ≤ 140737488355328) := Lib.hid (by omega)
      have hBr : Hid (B ≤ wr.heap.size) := Lib.hid (by have := hbr.size; have := hBm.out; omega)
      have hMr : Hid (wm.heap.size ≤ wr.heap.size) := Lib.hid hbr.size
      replace hys := Lib.hid hys
      go_wp2_with (at_builtin; refine wpList_push_at el34 rfl _ _ rfl rfl (hO.alloc _) [.complex .f64 4620693217682128896 4620693217682128896] wr.heap.size 34 rfl (heap_alloc_at _ _) rfl (by simp [Value.oneCell']) hbytes.out (by rw [size_al]; have := hBr.out; omega) ?_; intro v' w3 ho4 hb4 hs4 hn4 hg4 hat4; replace hat4 := Lib.hid hat4; replace hs4 := Lib.hid hs4; clear hn4)
      go_roundw
      case rel =>
        refine ⟨j + 1, _, by omega, by go_num, by rw [List.length_append, hys.out]; rfl, ho4, fun g h => ?_, (q2.alloc _).grown hg4 ?_, (q3.alloc _).grown hg4 ?_, hbr.trans (((Below.refl _ _).alloc hBr.out _).trans hb4)⟩
        · rcases hat4.out with e | e
          · exact hsep.out g (e ▸ h)
          · rw [e] at h
            cases h
            exact Or.inr (by rw [size_al]; have := hMr.out; omega)
        · exact Or.inr fun e => by
            have := hsep.out g2 e.symm
            have := hV2.out g2 rfl
            have := hL2.out
            omega
        · exact Or.inr fun e => by
            have := hsep.out g3 e.symm
            have := hV3.out g3 rfl
            have := hL3.out
            omega
      case measure => simp [intOf]; omega
end Go.Proofs.Ytfmjmjppkdaanaa
