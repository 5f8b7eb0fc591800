/- NetSweeps, walked. -/
import Derived.Test.YtfmjmjppkdaanaaWorst2
import Derived.Test.YtfmjmjppkdaanaaKept
namespace Go.Proofs.Ytfmjmjppkdaanaa
open Go.RowKit Go.BigFrame flt Ieee

/-- a sweep's numbers, in a box -/
def box (f s m n : Int) : Obj := .cells #[.int .u64 f, .int .u64 s, .int .u64 m, .int .i64 n] 61
theorem box_cell (w : World) (f s m n : Int) (W : World) (h : Below (w.alloc (box f s m n)).heap.size (w.alloc (box f s m n)) W) :
    W.cell? ⟨w.heap.size, 0, none⟩ = some (.int .u64 f) ∧ W.cell? ⟨w.heap.size, 1, none⟩ = some (.int .u64 s) ∧ W.cell? ⟨w.heap.size, 2, none⟩ = some (.int .u64 m) ∧ W.cell? ⟨w.heap.size, 3, none⟩ = some (.int .i64 n) := by
  have hl : w.heap.size < (w.alloc (box f s m n)).heap.size := by rw [size_al]; omega
  have hh : (w.alloc (box f s m n)).heap[w.heap.size]? = some (box f s m n) := heap_alloc_at _ _
  exact ⟨(h.cell hl).trans (cell_of_row _ _ 0 _ 61 (0, 0) hh), (h.cell hl).trans (cell_of_row _ _ 1 _ 61 (0, 0) hh), (h.cell hl).trans (cell_of_row _ _ 2 _ 61 (0, 0) hh), (h.cell hl).trans (cell_of_row _ _ 3 _ 61 (0, 0) hh)⟩
set_option maxHeartbeats 4000000 in
set_option maxRecDepth 100000 in
theorem sweeps_bad (l : List Part) (A : Option Addr) (c : Nat) (f s m n : Int) (w : World) (h : Pcs w A l) (hL : Little l) (he : ¬ SwOk l (cls f.toNat) (cls s.toNat) n) :
    Calls Try.prog 8 #[.slice A l.length c, .agg #[.int .u64 f, .int .u64 s, .int .u64 m, .int .i64 n]] w fun e w' => e = .returned (.bool true) ∧ Below w.heap.size w w' := by
  have hw0 : Below w.heap.size w (w.alloc (box f s m n)) := below_al (Below.refl _ _) _
  have hP0 := parts_any l A c _ (h.below hw0) hL
  have hC := Lib.hid (h.below hw0)
  have hBox := Lib.hid (box_cell w f s m n)
  have hf := fun W => from_run f W
  have hs := fun W => from_run s W
  have hm := fun W => from_run m W
  have hb0 := bits_run 0
  have K30 := fun A' c' W hp => wrong_any l A' c' f.toNat s.toNat n W hp
  have K29 := fun A' c' W hp => sweep_bad l A' c' f.toNat s.toNat n W hp he
  have K31 := fun A' c' W hp => worst_bad l A' c' f.toNat s.toNat n W hp he
  have K32 := fun A' c' W hp => meets_bad l A' c' m.toNat f.toNat s.toNat n W hp he
  have hE : swerr l (cls f.toNat) (cls s.toNat) n = 1 ∨ swerr l (cls f.toNat) (cls s.toNat) n = 290 := by
    unfold swerr
    by_cases hg : Good l
    · rw [if_pos hg, if_neg he]; exact Or.inl rfl
    · rw [if_neg hg]; exact Or.inr rfl
  have hlen := h.1
  clear h he
  generalize swerr l (cls f.toNat) (cls s.toNat) n = E at *
  unfold box at hP0 hBox hC hw0
  have hn0' : Hid (w.heap.size ≤ (w.alloc (Obj.cells #[.int .u64 f, .int .u64 s, .int .u64 m, .int .i64 n] 61)).heap.size) := Lib.hid (by rw [size_al]; omega)
  replace hw0 := Lib.hid hw0
  rcases hE with rfl | rfl
  all_goals (
    go_enter Try.func8, Try.ntmps8
    go_wp2_with (first
      | (go_at_call 20; (with_reducible refine (hP0).mono ?_); rintro e w1 ⟨g, cap, gs, rfl, hcap, hP, hb⟩; obtain ⟨d0, d1, d2, d3⟩ := hBox.out _ hb)
      | (go_at_call 30; (with_reducible refine (K30 _ _ _ hP.pn).mono ?_); rintro e w2 ⟨rfl, hb1⟩; replace hP := hP.below hb1; replace hb := hb.trans (hb1.mono hb.size); obtain ⟨d0, d1, d2, d3⟩ := hBox.out _ hb; clear hb1)
      | (go_at_call 29; (with_reducible refine (K29 _ _ _ hP.pn).mono ?_); rintro e w3 ⟨rfl, hb1⟩; replace hP := hP.below hb1; replace hb := hb.trans (hb1.mono hb.size); obtain ⟨d0, d1, d2, d3⟩ := hBox.out _ hb; clear hb1)
      | (go_at_call 31; (with_reducible refine (K31 _ _ _ hP.pn).mono ?_); rintro e w4 ⟨rfl, hb1⟩; replace hP := hP.below hb1; replace hb := hb.trans (hb1.mono hb.size); obtain ⟨d0, d1, d2, d3⟩ := hBox.out _ hb; clear hb1)
      | (go_at_call 32; (with_reducible refine (K32 _ _ _ hP.pn).mono ?_); rintro e w5 ⟨rfl, hb1⟩; replace hP := hP.below hb1; replace hb := hb.trans (hb1.mono hb.size); obtain ⟨d0, d1, d2, d3⟩ := hBox.out _ hb; clear hb1)
      | (go_at_call 22; (with_reducible refine (kept_any l A c _ g cap gs _ hP hcap (hC.out.below hb)).mono ?_); rintro e w6 ⟨rfl, hd⟩; replace hb := hd.after hb; clear hd))
    go_ret
    exact ⟨rfl, hw0.out.trans (hb.mono hn0'.out)⟩)
set_option maxHeartbeats 8000000 in
set_option maxRecDepth 100000 in
theorem sweeps_good (l : List Part) (A : Option Addr) (c : Nat) (f s m : Int) (n : Nat) (w : World) (h : Pcs w A l) (hL : Little l) (hok : SwOk l (cls f.toNat) (cls s.toNat) n) :
    Calls Try.prog 8 #[.slice A l.length c, .agg #[.int .u64 f, .int .u64 s, .int .u64 m, .int .i64 n]] w fun e w' => e = .returned (.bool true) ∧ Below w.heap.size w w' := by
  have hw0 : Below w.heap.size w (w.alloc (box f s m n)) := below_al (Below.refl _ _) _
  have hP0 := parts_any l A c _ (h.below hw0) hL
  have hC := Lib.hid (h.below hw0)
  have hBox := Lib.hid (box_cell w f s m n)
  have hf := fun W => from_run f W
  have hs := fun W => from_run s W
  have hm := fun W => from_run m W
  obtain ⟨FM, GM, hmul, cm⟩ := veil (op := .mul) (Or.inr (Or.inr (Or.inl rfl))) 23
  have K30 := fun A' c' W hp => wrong_any l A' c' f.toNat s.toNat n W hp
  have hE : swerr l (cls f.toNat) (cls s.toNat) n = 0 := by unfold swerr; rw [if_pos hok.1, if_pos hok]
  rw [hE] at K30
  have K29 := fun A' c' W hp => sweep_good l A' c' f.toNat s.toNat n W hp hok
  have K31 := fun A' c' W hp => worst_good l A' c' f.toNat s.toNat n W hp hok
  have K32a := fun h0 A' c' W hp => meets_arg l A' c' m.toNat f.toNat s.toNat n W hp hok h0
  have K32b := fun h0 A' c' W hp => meets_good l A' c' m.toNat f.toNat s.toNat n W hp hok h0
  have hn1 : 1 ≤ n := by have := hok.2.2.2.2.1; omega
  have hn2 : n ≤ 4096 := by have := hok.2.2.2.2.2; omega
  have K33 := fun A' c' W hp => rsweep_any l hok.1 A' c' f.toNat s.toNat n W hp hn2
  have hge := ge_zero m.toNat
  have hzl := swn_len (cls f.toNat) (cls s.toNat) l n
  have hlen := h.1
  clear h hok hE
  generalize swn (cls f.toNat) (cls s.toNat) l n = zs at *
  have hT : Hid (∀ W, cls (FM m.toNat m.toNat W) = op2 .mul (cls m.toNat) (cls m.toNat)) := Lib.hid (fun W => cm _ _ W)
  generalize op2 .mul (cls m.toNat) (cls m.toNat) = T at *
  have K34 := fun A' c' W hp => rworst_any zs n hzl A' c' W hp hn1
  generalize hX : worst zs = X at *
  have hM : Hid (meets zs T = mt zs T n 0) := Lib.hid (by unfold meets; rw [hzl])
  generalize hMM : meets zs T = M at *
  obtain ⟨M1, M2⟩ := M
  simp only at K32b
  have hzn : Hid (zs.length = n) := Lib.hid hzl
  clear hX hzl cm hMM
  unfold box at hP0 hBox hC hw0
  have hn0' : Hid (w.heap.size ≤ (w.alloc (Obj.cells #[.int .u64 f, .int .u64 s, .int .u64 m, .int .i64 n] 61)).heap.size) := Lib.hid (by rw [size_al]; omega)
  replace hw0 := Lib.hid hw0
  cases hg0 : ge0 (cls m.toNat)
  · have K32 := K32a hg0
    rw [hg0] at hge
    clear K32a K32b hg0
    go_enter Try.func8, Try.ntmps8
    go_upto_region 19 with (first
      | (go_at_call 20; (with_reducible refine (hP0).mono ?_); rintro e w1 ⟨g, cap, gs, rfl, hcap, hP, hb⟩; obtain ⟨d0, d1, d2, d3⟩ := hBox.out _ hb)
      | (go_at_call 30; (with_reducible refine (K30 _ _ _ hP.pn).mono ?_); rintro e w2 ⟨rfl, hb1⟩; replace hP := hP.below hb1; replace hb := hb.trans (hb1.mono hb.size); obtain ⟨d0, d1, d2, d3⟩ := hBox.out _ hb; clear hb1)
      | (go_at_call 29; (with_reducible refine (K29 _ _ _ hP.pn).mono ?_); rintro e w4 ⟨v2, r2, rfl, e2, o2, hb1⟩; have hlt : Hid (∀ g, v1.ownBlock = some g → g < w3.heap.size) := Lib.hid (fun g h => (o1.lt g h).2); replace o1 := o1.below hb1; replace hP := hP.below hb1; have hs4 := Lib.hid hb1.size; replace hb := hb.trans (hb1.mono hb.size); obtain ⟨d0, d1, d2, d3⟩ := hBox.out _ hb; replace e2 := Lib.hid e2; clear hb1)
      | (go_at_call 29; (with_reducible refine (K29 _ _ _ hP.pn).mono ?_); rintro e w3 ⟨v1, r1, rfl, e1, o1, hb1⟩; have hwB := Lib.hid hb.size; have hs3 := Lib.hid hb1.size; replace hP := hP.below hb1; replace hb := hb.trans (hb1.mono hb.size); obtain ⟨d0, d1, d2, d3⟩ := hBox.out _ hb; replace e1 := Lib.hid e1; clear hb1)
      | (go_at_call 31; (with_reducible refine (K31 _ _ _ hP.pn).mono ?_); rintro e w5 ⟨q1, rfl, hq1, hb1⟩; replace o1 := o1.below hb1; replace o2 := o2.below hb1; replace hP := hP.below hb1; have hs5 := Lib.hid hb1.size; replace hb := hb.trans (hb1.mono hb.size); obtain ⟨d0, d1, d2, d3⟩ := hBox.out _ hb; replace hq1 := Lib.hid hq1; clear hb1)
      | (go_at_call 32; (with_reducible refine (K32 _ _ _ hP.pn).mono ?_); rintro e w6 ⟨rfl, hb1⟩; replace o1 := o1.below hb1; replace o2 := o2.below hb1; replace hP := hP.below hb1; have hs6 := Lib.hid hb1.size; replace hb := hb.trans (hb1.mono hb.size); obtain ⟨d0, d1, d2, d3⟩ := hBox.out _ hb; clear hb1)
      | (go_at_call 22; (with_reducible refine (kept_any l A c _ g cap gs _ hP hcap (hC.out.below hb)).mono ?_); rintro e w7 ⟨rfl, hd⟩; replace o1 := o1.drawn hd; replace o2 := o2.drawn hd; have hs7 : Hid (w6.heap.size ≤ w7.heap.size) := Lib.hid (hd.below 0).size; replace hP := hP.below (hd.below _); replace hb := hd.after hb; obtain ⟨d0, d1, d2, d3⟩ := hBox.out _ hb; clear hd)
      | (go_at_call 33; (with_reducible refine (K33 _ _ _ hP.pn).mono ?_); rintro e w8 ⟨v3, r3, rfl, e3, o3, hb1⟩; replace o1 := o1.below hb1; replace o2 := o2.below hb1; have hs8 := Lib.hid hb1.size; replace hb := hb.trans (hb1.mono hb.size); obtain ⟨A3, c3, rfl, p3⟩ := Ps.of_own o3; have hr3 : r3.length = n := (by rw [← List.length_map (f := clsc), e3, hzn.out]); rw [e3] at p3; rw [hr3] at o3; rw [hr3]; replace hr3 := Lib.hid hr3; replace e3 := Lib.hid e3; clear hb1)
      | (go_at_call 34; (with_reducible refine (K34 _ _ _ p3).mono ?_); rintro e w9 ⟨q2, rfl, hq2, hb1⟩; replace o1 := o1.below hb1; replace o2 := o2.below hb1; replace o3 := o3.below hb1; have hs9 := Lib.hid hb1.size; replace p3 := p3.below hb1; replace hb := hb.trans (hb1.mono hb.size); replace hq2 := Lib.hid hq2; clear hb1))
    have F := fresh_any zs r1 r2 r3 v1 v2 _ w2.heap.size w3.heap.size w9 e1.out e2.out e3.out (by rw [hzn.out]; omega) (by rw [hzn.out]; omega) o1 o2 (o3.mono (by have := hs4.out; have := hs5.out; have := hs6.out; have := hs7.out; omega)) hlt.out (by have := hs3.out; have := hs4.out; have := hs5.out; have := hs6.out; have := hs7.out; have := hs8.out; have := hs9.out; omega)
    have hs29 : Hid (w2.heap.size ≤ w9.heap.size) := Lib.hid (by have := hs3.out; have := hs4.out; have := hs5.out; have := hs6.out; have := hs7.out; have := hs8.out; have := hs9.out; omega)
    have SQ := same_any q1 q2 (by rw [hq1.out, hq2.out])
    have p3f := Lib.hid (fun W (hW : Below w9.heap.size w9 W) => p3.below hW)
    replace hb := Lib.hid hb
    have e3k := e3
    clear o1 o2 o3 e1 e2 e3 hlt hs3 hs4 hs5 hs6 hs7 hs8 hs9 hq1 hq2 d0 d1 d2 d3 hP hP0 hC hBox K30 K29 K31 K33 K34 p3
    go_wp2_with (first | (go_at_call 35; (with_reducible refine (F).mono ?_); rintro e w10 ⟨rfl, hb10, o3⟩) | (go_at_call 13; (with_reducible refine (SQ _).mono ?_); rintro e w11 ⟨rfl, hw11⟩; subst hw11))
    go_ret
    exact ⟨rfl, hw0.out.trans ((hb.out.trans (hb10.mono hwB.out)).mono hn0'.out)⟩
  · have K32 := K32b hg0
    rw [hg0] at hge
    clear K32a K32b hg0
    go_enter Try.func8, Try.ntmps8
    go_upto_region 19 with (first
      | (go_at_call 20; (with_reducible refine (hP0).mono ?_); rintro e w1 ⟨g, cap, gs, rfl, hcap, hP, hb⟩; obtain ⟨d0, d1, d2, d3⟩ := hBox.out _ hb)
      | (go_at_call 30; (with_reducible refine (K30 _ _ _ hP.pn).mono ?_); rintro e w2 ⟨rfl, hb1⟩; replace hP := hP.below hb1; replace hb := hb.trans (hb1.mono hb.size); obtain ⟨d0, d1, d2, d3⟩ := hBox.out _ hb; clear hb1)
      | (go_at_call 29; (with_reducible refine (K29 _ _ _ hP.pn).mono ?_); rintro e w4 ⟨v2, r2, rfl, e2, o2, hb1⟩; have hlt : Hid (∀ g, v1.ownBlock = some g → g < w3.heap.size) := Lib.hid (fun g h => (o1.lt g h).2); replace o1 := o1.below hb1; replace hP := hP.below hb1; have hs4 := Lib.hid hb1.size; replace hb := hb.trans (hb1.mono hb.size); obtain ⟨d0, d1, d2, d3⟩ := hBox.out _ hb; replace e2 := Lib.hid e2; clear hb1)
      | (go_at_call 29; (with_reducible refine (K29 _ _ _ hP.pn).mono ?_); rintro e w3 ⟨v1, r1, rfl, e1, o1, hb1⟩; have hwB := Lib.hid hb.size; have hs3 := Lib.hid hb1.size; replace hP := hP.below hb1; replace hb := hb.trans (hb1.mono hb.size); obtain ⟨d0, d1, d2, d3⟩ := hBox.out _ hb; replace e1 := Lib.hid e1; clear hb1)
      | (go_at_call 31; (with_reducible refine (K31 _ _ _ hP.pn).mono ?_); rintro e w5 ⟨q1, rfl, hq1, hb1⟩; replace o1 := o1.below hb1; replace o2 := o2.below hb1; replace hP := hP.below hb1; have hs5 := Lib.hid hb1.size; replace hb := hb.trans (hb1.mono hb.size); obtain ⟨d0, d1, d2, d3⟩ := hBox.out _ hb; replace hq1 := Lib.hid hq1; clear hb1)
      | (go_at_call 32; (with_reducible refine (K32 _ _ _ hP.pn).mono ?_); rintro e w6 ⟨rfl, hb1⟩; replace o1 := o1.below hb1; replace o2 := o2.below hb1; replace hP := hP.below hb1; have hs6 := Lib.hid hb1.size; replace hb := hb.trans (hb1.mono hb.size); obtain ⟨d0, d1, d2, d3⟩ := hBox.out _ hb; clear hb1)
      | (go_at_call 22; (with_reducible refine (kept_any l A c _ g cap gs _ hP hcap (hC.out.below hb)).mono ?_); rintro e w7 ⟨rfl, hd⟩; replace o1 := o1.drawn hd; replace o2 := o2.drawn hd; have hs7 : Hid (w6.heap.size ≤ w7.heap.size) := Lib.hid (hd.below 0).size; replace hP := hP.below (hd.below _); replace hb := hd.after hb; obtain ⟨d0, d1, d2, d3⟩ := hBox.out _ hb; clear hd)
      | (go_at_call 33; (with_reducible refine (K33 _ _ _ hP.pn).mono ?_); rintro e w8 ⟨v3, r3, rfl, e3, o3, hb1⟩; replace o1 := o1.below hb1; replace o2 := o2.below hb1; have hs8 := Lib.hid hb1.size; replace hb := hb.trans (hb1.mono hb.size); obtain ⟨A3, c3, rfl, p3⟩ := Ps.of_own o3; have hr3 : r3.length = n := (by rw [← List.length_map (f := clsc), e3, hzn.out]); rw [e3] at p3; rw [hr3] at o3; rw [hr3]; replace hr3 := Lib.hid hr3; replace e3 := Lib.hid e3; clear hb1)
      | (go_at_call 34; (with_reducible refine (K34 _ _ _ p3).mono ?_); rintro e w9 ⟨q2, rfl, hq2, hb1⟩; replace o1 := o1.below hb1; replace o2 := o2.below hb1; replace o3 := o3.below hb1; have hs9 := Lib.hid hb1.size; replace p3 := p3.below hb1; replace hb := hb.trans (hb1.mono hb.size); replace hq2 := Lib.hid hq2; clear hb1))
    have F := fresh_any zs r1 r2 r3 v1 v2 _ w2.heap.size w3.heap.size w9 e1.out e2.out e3.out (by rw [hzn.out]; omega) (by rw [hzn.out]; omega) o1 o2 (o3.mono (by have := hs4.out; have := hs5.out; have := hs6.out; have := hs7.out; omega)) hlt.out (by have := hs3.out; have := hs4.out; have := hs5.out; have := hs6.out; have := hs7.out; have := hs8.out; have := hs9.out; omega)
    have hs29 : Hid (w2.heap.size ≤ w9.heap.size) := Lib.hid (by have := hs3.out; have := hs4.out; have := hs5.out; have := hs6.out; have := hs7.out; have := hs8.out; have := hs9.out; omega)
    have SQ := same_any q1 q2 (by rw [hq1.out, hq2.out])
    have p3f := Lib.hid (fun W (hW : Below w9.heap.size w9 W) => p3.below hW)
    replace hb := Lib.hid hb
    have e3k := e3
    clear o1 o2 o3 e1 e2 e3 hlt hs3 hs4 hs5 hs6 hs7 hs8 hs9 hq1 hq2 d0 d1 d2 d3 hP hP0 hC hBox K30 K29 K31 K33 K34 p3
    go_upto_region 24 with (first | (go_at_call 35; (with_reducible refine (F).mono ?_); rintro e w10 ⟨rfl, hb10, o3⟩) | (go_at_call 13; (with_reducible refine (SQ _).mono ?_); rintro e w11 ⟨rfl, hw11⟩; subst hw11))
    have hTT := hT.out w11
    generalize FM m.toNat m.toNat w11 = top at *
    replace hTT := Lib.hid hTT
    have hbB : Below w.heap.size w w11 := hw0.out.trans ((hb.out.trans (hb10.mono hwB.out)).mono hn0'.out)
    obtain ⟨A4, c4, e4, p4⟩ := Ps.of_own o3
    simp only [Value.slice.injEq] at e4
    obtain ⟨rfl, hx4, rfl⟩ := e4
    clear hx4
    rw [e3k.out] at p4
    have hcell : Hid (∀ (k : Nat) (W : World), k < n → Below w11.heap.size w11 W → ∃ b o r s, A3 = some ⟨b, o, none⟩ ∧ W.cell? ⟨b, o + k * 2, none⟩ = some (.float .f64 r) ∧ W.cell? ⟨b, o + k * 2 + 1, none⟩ = some (.float .f64 s) ∧ (cls r, cls s) = zat zs k) := Lib.hid (fun k W hk hW => by
      obtain ⟨b, o, r, s, e, hbl, c0, c1, hc⟩ := p4.2 k (by rw [hzn.out]; exact hk)
      exact ⟨b, o, r, s, e, (hW.cell hbl).trans c0, (hW.cell hbl).trans c1, by rw [hc]; exact zat_get _⟩)
    clear p4 o3 p3f hb hb10 hf hs hm
    go_wp2
    go_loopw [25] (fun v wr => ∃ (k : Nat), k ≤ n ∧ v = .int .i64 k ∧ (M1, M2) = mt zs T (n - k) k ∧ Below w11.heap.size w11 wr) (fun v _ => n - (intOf v).toNat)
    case atStart => exact ⟨0, by omega, rfl, hM.out, below_drewN' (Below.refl _ _) _⟩
    case round =>
      obtain ⟨k, hk, rfl, hXk, hd⟩ := hrel
      obtain ⟨wi, rfl⟩ : ∃ x : World, x = wr := ⟨_, rfl⟩
      replace hXk := Lib.hid hXk
      have hsz := Lib.hid hd.size
      have hsz2 := Lib.hid hbB.size
      by_cases hkl : k = n
      · subst hkl
        have hXe : (M1, M2) = (true, 0) := by rw [hXk.out, Nat.sub_self]; rfl
        obtain ⟨rfl, rfl⟩ := Prod.mk.inj hXe
        clear hXe hXk
        go_wp2
        go_ret
        exact ⟨rfl, hbB.trans (hd.mono hsz2.out)⟩
      have hlt : k < n := by omega
      obtain ⟨b, o, r, q, rfl, c0, c1, hc⟩ := hcell.out k wi hlt hd
      replace hc := Lib.hid hc
      have hstep : Hid ((M1, M2) = if le (sz (zat zs k)) T then mt zs T (n - (k + 1)) (k + 1) else (false, k)) := Lib.hid (by
        rw [hXk.out, show n - k = (n - (k + 1)) + 1 by omega]; rfl)
      clear hXk
      have hgen : ∀ r4, cls r4 = size (cls r) (cls q) → (FloatKind.f64.format.order r4 top == some .lt || FloatKind.f64.format.order r4 top == some .eq) = le (sz (zat zs k)) T := fun r4 h4 => by
        rw [le_test, hTT.out, h4]
        show _ = le (size (zat zs k).1 (zat zs k).2) T
        rw [← hc.out]
      generalize le (sz (zat zs k)) T = G at *
      cases G
      · have hXe : (M1, M2) = (false, k) := by rw [hstep.out]; rfl
        obtain ⟨rfl, rfl⟩ := Prod.mk.inj hXe
        clear hXe hstep
        go_wp2_with (go_at_call 19; (with_reducible refine (rsize_any _ _ _).mono ?_); rintro e w4 ⟨r4, rfl, hr4, hd4⟩; have hcmp := hgen r4 hr4; clear hr4)
        go_ret
        exact ⟨rfl, hbB.trans ((hd.trans (hd4.mono hsz.out)).mono hsz2.out)⟩
      · go_wp2_with (go_at_call 19; (with_reducible refine (rsize_any _ _ _).mono ?_); rintro e w4 ⟨r4, rfl, hr4, hd4⟩; have hcmp := hgen r4 hr4; clear hr4)
        go_roundw
        case rel => exact ⟨k + 1, by omega, by go_num, by rw [hstep.out]; rfl, hd.trans (hd4.mono hsz.out)⟩
        case measure => simp [intOf]; omega
theorem sweeps_walk (l : List Part) (A : Option Addr) (c : Nat) (f s m n : Int) (w : World) (h : Pcs w A l) (hL : Little l) :
    Calls Try.prog 8 #[.slice A l.length c, .agg #[.int .u64 f, .int .u64 s, .int .u64 m, .int .i64 n]] w fun e w' => e = .returned (.bool true) ∧ Below w.heap.size w w' := by
  by_cases he : SwOk l (cls f.toNat) (cls s.toNat) n
  · obtain ⟨k, rfl⟩ : ∃ k : Nat, n = (k : Int) := ⟨n.toNat, by have := he.2.2.2.2.1; omega⟩
    exact sweeps_good l A c f s m k w h hL he
  · exact sweeps_bad l A c f s m n w h hL he
end Go.Proofs.Ytfmjmjppkdaanaa
