/- NetLonger, walked. -/
import Derived.Test.YtfmjmjppkdaanaaAwake
import Derived.Test.YtfmjmjppkdaanaaWlaw
namespace Go.Proofs.Ytfmjmjppkdaanaa
open Go.RowKit Go.BigFrame flt Ieee

theorem rem_in (t : Int) (n : Nat) (hn1 : 1 ≤ n) (hn2 : n ≤ 1000000) : ∃ k : Nat, wrap64 (1 + (wrap64 (t.tmod n + n)).tmod n) = k ∧ 1 ≤ k ∧ k ≤ n := by
  have a1 := Int.tmod_lt_of_pos t (b := n) (by omega)
  have a2 := Int.lt_tmod_of_pos t (b := n) (by omega)
  have e1 : wrap64 (t.tmod n + n) = t.tmod n + n := by unfold wrap64; omega
  rw [e1]
  have hy : 0 ≤ t.tmod n + n := by omega
  generalize t.tmod n + n = y at *
  have b1 := Int.tmod_lt_of_pos y (b := n) (by omega)
  have b2 : 0 ≤ y.tmod n := Int.tmod_nonneg _ (by omega)
  refine ⟨(1 + y.tmod n).toNat, by unfold wrap64; omega, by omega, by omega⟩
theorem alike_any (a b c d : Nat) (h1 : cls a = cls c) (h2 : cls b = cls d) (w : World) : Calls Try.prog 26 #[.complex .f64 a b, .complex .f64 c d] w fun e w' => e = .returned (.bool true) ∧ w = w' := by
  have K1 := same_any a c h1
  have K2 := same_any b d h2
  clear h1 h2
  go_enter Try.func26, Try.ntmps26
  go_wp2_with (first | (go_at_call 13; (with_reducible refine (K1 _).mono ?_); rintro e w1 ⟨rfl, rfl⟩) | (go_at_call 13; (with_reducible refine (K2 _).mono ?_); rintro e w1 ⟨rfl, rfl⟩))
  go_ret
  exact ⟨rfl, rfl⟩
set_option maxHeartbeats 4000000 in
set_option maxRecDepth 100000 in
theorem longer_bad (l : List Part) (A : Option Addr) (c : Nat) (f s m n t : Int) (w : World) (h : Pcs w A l) (hL : Little l) (he : ¬ SwOk l (cls f.toNat) (cls s.toNat) n) :
    Calls Try.prog 9 #[.slice A l.length c, .agg #[.int .u64 f, .int .u64 s, .int .u64 m, .int .i64 n], .int .i64 t] w fun e w' => e = .returned (.bool true) ∧ Below w.heap.size w w' := by
  have hw0 : Below w.heap.size w (w.alloc (box f s m n)) := below_al (Below.refl _ _) _
  have hP0 := fun W hW => parts_any l A c W ((h.below hw0).below hW) hL
  have hBox := Lib.hid (box_cell w f s m n)
  have hf := fun W => from_run f W
  have hs := fun W => from_run s W
  have hm := fun W => from_run m W
  have K29 := fun A' c' W hp => sweep_bad l A' c' f.toNat s.toNat n W hp he
  have hE : swerr l (cls f.toNat) (cls s.toNat) n = 1 ∨ swerr l (cls f.toNat) (cls s.toNat) n = 290 := by
    unfold swerr
    by_cases hg : Good l
    · rw [if_pos hg, if_neg he]; exact Or.inl rfl
    · rw [if_neg hg]; exact Or.inr rfl
  have hlen := h.1
  clear h he
  generalize swerr l (cls f.toNat) (cls s.toNat) n = E at *
  unfold box at hP0 hBox hw0
  have hn0' : Hid (w.heap.size ≤ (w.alloc (Obj.cells #[.int .u64 f, .int .u64 s, .int .u64 m, .int .i64 n] 61)).heap.size) := Lib.hid (by rw [size_al]; omega)
  replace hw0 := Lib.hid hw0
  replace hP0 := Lib.hid hP0
  rcases hE with rfl | rfl
  all_goals (
    go_enter Try.func9, Try.ntmps9
    go_wp2_with (first
      | (go_at_call 23; (with_reducible refine (awake_any _).mono ?_); rintro e w1 ⟨rfl, hb⟩)
      | (go_at_call 20; (with_reducible refine (hP0.out _ hb).mono ?_); rintro e w1 ⟨g, cap, gs, rfl, hcap, hP, hb1⟩; replace hb := hb.trans (hb1.mono hb.size); obtain ⟨d0, d1, d2, d3⟩ := hBox.out _ hb)
      | (go_at_call 29; (with_reducible refine (K29 _ _ _ hP.pn).mono ?_); rintro e w3 ⟨rfl, hb1⟩; replace hb := hb.trans (hb1.mono hb.size); clear hb1))
    go_ret
    exact ⟨rfl, hw0.out.trans (hb.mono hn0'.out)⟩)
set_option maxHeartbeats 8000000 in
set_option maxRecDepth 100000 in
theorem longer_good (l : List Part) (A : Option Addr) (c : Nat) (f s m : Int) (n : Nat) (t : Int) (w : World) (h : Pcs w A l) (hL : Little l) (hok : SwOk l (cls f.toNat) (cls s.toNat) n) :
    Calls Try.prog 9 #[.slice A l.length c, .agg #[.int .u64 f, .int .u64 s, .int .u64 m, .int .i64 n], .int .i64 t] w fun e w' => e = .returned (.bool true) ∧ Below w.heap.size w w' := by
  have hw0 : Below w.heap.size w (w.alloc (box f s m n)) := below_al (Below.refl _ _) _
  have hP0 := fun W hW => parts_any l A c W ((h.below hw0).below hW) hL
  have hBox := Lib.hid (box_cell w f s m n)
  have hf := fun W => from_run f W
  have hs := fun W => from_run s W
  have hm := fun W => from_run m W
  have hn1 : 1 ≤ n := by have := hok.2.2.2.2.1; omega
  have hn2 : n ≤ 4096 := by have := hok.2.2.2.2.2; omega
  have hokm : ∀ k : Nat, 1 ≤ k → k ≤ n → SwOk l (cls f.toNat) (cls s.toNat) k := fun k h1 h2 => ⟨hok.1, hok.2.1, hok.2.2.1, hok.2.2.2.1, by omega, by omega⟩
  have K29 := fun k h1 h2 A' c' W hp => sweep_good l A' c' f.toNat s.toNat k W hp (hokm k h1 h2)
  have K31 := fun k h1 h2 A' c' W hp => worst_good l A' c' f.toNat s.toNat k W hp (hokm k h1 h2)
  have hlen := h.1
  clear h
  replace K29 := Lib.hid K29
  replace K31 := Lib.hid K31
  replace hokm := Lib.hid hokm
  replace hok := Lib.hid hok
  unfold box at hP0 hBox hw0
  have hn0' : Hid (w.heap.size ≤ (w.alloc (Obj.cells #[.int .u64 f, .int .u64 s, .int .u64 m, .int .i64 n] 61)).heap.size) := Lib.hid (by rw [size_al]; omega)
  replace hw0 := Lib.hid hw0
  replace hP0 := Lib.hid hP0
  have hnz : ((n : Int) == 0) = false := by simp; omega
  have hnz2 : ¬ ((n : Int) = 0) := by omega
  go_enter Try.func9, Try.ntmps9
  go_upto_region 10 with (first
      | (go_at_call 23; (with_reducible refine (awake_any _).mono ?_); rintro e w1 ⟨rfl, hb⟩)
      | (go_at_call 20; (with_reducible refine (hP0.out _ hb).mono ?_); rintro e w1 ⟨g, cap, gs, rfl, hcap, hP, hb1⟩; replace hb := hb.trans (hb1.mono hb.size); obtain ⟨d0, d1, d2, d3⟩ := hBox.out _ hb)
      | (go_at_call 29; (with_reducible refine (K29.out n hn1 (Nat.le_refl _) _ _ _ hP.pn).mono ?_); rintro e w3 ⟨v1, r1, rfl, e1, o1, hb1⟩; replace hP := hP.below hb1; replace hb := hb.trans (hb1.mono hb.size); obtain ⟨d0, d1, d2, d3⟩ := hBox.out _ hb; replace e1 := Lib.hid e1; clear hb1))
  go_quiet (fail)
  obtain ⟨k, hk, hk1, hk2⟩ := rem_in t n hn1 (by omega)
  rw [hk]
  clear hk
  have hsw : Hid (Below w3.heap.size w3 (w3.drewN nq)) := Lib.hid (below_drewN' (Below.refl _ _) _)
  replace hP := hP.below hsw.out
  replace hb := below_drewN' hb nq
  replace o1 := o1.below hsw.out
  clear d0 d1 d2 d3 hsw
  generalize w3.drewN nq = w4 at *
  obtain ⟨d0, d1, d2, d3⟩ := hBox.out _ hb
  obtain ⟨A1, c1, rfl, hcs1⟩ := Cs.of_own o1
  have hr1 : r1.length = n := by rw [← List.length_map (f := clsc), e1.out, swn_len]
  rw [hr1]
  rw [e1.out] at hcs1
  clear o1
  replace hr1 := Lib.hid hr1
  go_upto_region 14 with (first
      | (go_at_call 29; (with_reducible refine (K29.out k hk1 hk2 _ _ _ hP.pn).mono ?_); rintro e w5 ⟨v2, r2, rfl, e2, o2, hb1⟩; replace hP := hP.below hb1; replace hb := hb.trans (hb1.mono hb.size); replace hcs1 := hcs1.below hb1; obtain ⟨d0, d1, d2, d3⟩ := hBox.out _ hb; replace e2 := Lib.hid e2; clear hb1)
      | (go_at_call 31; (with_reducible refine (K31.out n hn1 (Nat.le_refl _) _ _ _ hP.pn).mono ?_); rintro e w6 ⟨q1, rfl, hq1, hb1⟩; replace hP := hP.below hb1; replace hb := hb.trans (hb1.mono hb.size); replace hcs1 := hcs1.below hb1; replace o2 := o2.below hb1; obtain ⟨d0, d1, d2, d3⟩ := hBox.out _ hb; replace hq1 := Lib.hid hq1; clear hb1)
      | (go_at_call 31; (with_reducible refine (K31.out k hk1 hk2 _ _ _ hP.pn).mono ?_); rintro e w7 ⟨q2, rfl, hq2, hb1⟩; replace hP := hP.below hb1; replace hb := hb.trans (hb1.mono hb.size); replace hcs1 := hcs1.below hb1; replace o2 := o2.below hb1; obtain ⟨d0, d1, d2, d3⟩ := hBox.out _ hb; replace hq2 := Lib.hid hq2; clear hb1))
  obtain ⟨A2, c2, rfl, hcs2⟩ := Cs.of_own o2
  have hr2 : r2.length = k := by rw [← List.length_map (f := clsc), e2.out, swn_len]
  rw [hr2]
  rw [e2.out] at hcs2
  clear o2 e1 e2 hr2 hr1
  have hgt : (FloatKind.f64.format.order q2 q1 == some .gt) = false := by
    rw [gt_test, hq1.out, hq2.out]
    exact worst_part (by rw [swn_len]; omega) (by rw [swn_len, swn_len]; omega) (fun j hj => by rw [swn_len] at hj; rw [swn_at _ _ _ _ hj, swn_at _ _ _ _ (by omega)])
  have hbB : Below w.heap.size w w7 := hw0.out.trans (hb.mono hn0'.out)
  obtain ⟨wo, rfl⟩ : ∃ x : World, x = w7 := ⟨_, rfl⟩
  have hcell : Hid (∀ (j : Nat) (W : World), j < k → Below wo.heap.size wo W → ∃ b o r s b' o' r' s', A1 = some ⟨b, o, none⟩ ∧ A2 = some ⟨b', o', none⟩ ∧ W.cell? ⟨b, o + j, none⟩ = some (.complex .f64 r s) ∧ W.cell? ⟨b', o' + j, none⟩ = some (.complex .f64 r' s') ∧ cls r' = cls r ∧ cls s' = cls s) := Lib.hid (fun j W hj hW => by
    obtain ⟨b, o, r, s, e, hbl, c0, hc⟩ := hcs1.2 j (by rw [swn_len]; omega)
    obtain ⟨b', o', r', s', e', hbl', c0', hc'⟩ := hcs2.2 j (by rw [swn_len]; omega)
    rw [zat_get, swn_at _ _ _ _ (by omega)] at hc hc'
    have q := hc'.trans hc.symm
    exact ⟨b, o, r, s, b', o', r', s', e, e', (hW.cell hbl).trans c0, (hW.cell hbl').trans c0', (Prod.mk.inj q).1, (Prod.mk.inj q).2⟩)
  clear hcs1 hcs2 hq2
  go_wp2
  go_loopw [21] (fun v wr => ∃ (j : Nat), j ≤ k ∧ v = .int .i64 j ∧ Below wo.heap.size wo wr) (fun v _ => k - (intOf v).toNat)
  case atStart => exact ⟨0, by omega, rfl, Below.refl _ _⟩
  case round =>
    obtain ⟨j, hj, rfl, hd⟩ := hrel
    obtain ⟨wi, rfl⟩ : ∃ x : World, x = wr := ⟨_, rfl⟩
    by_cases hjl : j = k
    · subst hjl
      have hPi := hP.pn.below hd
      obtain ⟨d0, d1, d2, d3⟩ := hBox.out _ (hb.trans (hd.mono hb.size))
      have hTn := nn_op2 .mul (cls m.toNat) (cls m.toNat)
      have hML := meets_worst hTn (zs := swn (cls f.toNat) (cls s.toNat) l n) (by rw [swn_len]; omega)
      obtain ⟨FM, GM, hmul, cm⟩ := veil (op := .mul) (Or.inr (Or.inr (Or.inl rfl))) 23
      have hbw : Hid (w.heap.size ≤ wi.heap.size) := Lib.hid (by have := hbB.size; have := hd.size; omega)
      cases hg0 : ge0 (cls m.toNat)
      · have K32 := meets_arg l (some ⟨g, 0, none⟩) cap m.toNat f.toNat s.toNat n _ hPi hok.out hg0
        clear hML hTn hg0 cm hPi hP hcell
        go_wp2_with (go_at_call 32; (with_reducible refine (K32).mono ?_); rintro e w8 ⟨rfl, hb8⟩)
        go_ret
        exact ⟨rfl, hbB.trans ((hd.trans (hb8.mono hd.size)).mono hbB.size)⟩
      · have K32 := meets_good l (some ⟨g, 0, none⟩) cap m.toNat f.toNat s.toNat n _ hPi hok.out hg0
        have hcmp : ∀ W, (FloatKind.f64.format.order q1 (FM m.toNat m.toNat W) == some .lt || FloatKind.f64.format.order q1 (FM m.toNat m.toNat W) == some .eq) = (meets (swn (cls f.toNat) (cls s.toNat) l n) (op2 .mul (cls m.toNat) (cls m.toNat))).1 := fun W => by
          rw [le_test, hq1.out, cm, hML]
        clear hML hTn hg0 cm hPi hP hcell hq1
        generalize meets (swn (cls f.toNat) (cls s.toNat) l n) (op2 .mul (cls m.toNat) (cls m.toNat)) = M at *
        obtain ⟨M1, M2⟩ := M
        simp only at K32 hcmp
        cases M1
        all_goals (
          go_wp2_with (go_at_call 32; (with_reducible refine (K32).mono ?_); rintro e w8 ⟨rfl, hb8⟩)
          go_ret
          exact ⟨rfl, below_drewN' (hbB.trans ((hd.trans (hb8.mono hd.size)).mono hbB.size)) _⟩)
    have hjlt : j < k := by omega
    have hjn : j < n := by omega
    obtain ⟨b, o, r, q, b', o', r', q', rfl, rfl, c0, c0', h1, h2⟩ := hcell.out j wi hjlt hd
    have K26 := alike_any r' q' r q h1 h2
    clear h1 h2
    go_upto_region 19 with fail
    go_quiet ((go_at_call 26; exact quiet_same (K26 _)))
    go_wp2
    go_roundw
    case rel => exact ⟨j + 1, by omega, by go_num, below_drewN' hd _⟩
    case measure => simp [intOf]; omega
theorem longer_walk (l : List Part) (A : Option Addr) (c : Nat) (f s m n t : Int) (w : World) (h : Pcs w A l) (hL : Little l) :
    Calls Try.prog 9 #[.slice A l.length c, .agg #[.int .u64 f, .int .u64 s, .int .u64 m, .int .i64 n], .int .i64 t] w fun e w' => e = .returned (.bool true) ∧ Below w.heap.size w w' := by
  by_cases he : SwOk l (cls f.toNat) (cls s.toNat) n
  · obtain ⟨k, rfl⟩ : ∃ k : Nat, n = (k : Int) := ⟨n.toNat, by have := he.2.2.2.2.1; omega⟩
    exact longer_good l A c f s m k t w h hL he
  · exact longer_bad l A c f s m n t w h hL he
end Go.Proofs.Ytfmjmjppkdaanaa
