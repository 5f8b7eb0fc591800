/- Idle: a step of the reference's race: the other arms. Idle: a step of the reference's race: the other arms, not read yet. -/
import Derived.Test.YtgnhddnhcfmipaaRc7
namespace Go.Proofs.Ytgnhddnhcfmipaa
open Go.RowKit Go.BigFrame
section
variable {W0 W : World} {B rb : Nat} {D N : Int} {A : Option Addr} {n c g1 g2 g3 g4 : Nat} {vo : Value} {rd : List VW} {s : Rs} {cs : List (Int × Int)}
set_option maxHeartbeats 8000000 in
set_option maxRecDepth 100000 in
theorem rstep_miss (h : RR W0 W B rb D A n c g1 g2 g3 g4 vo rd s) (hr : Rok s N) (hN : N < 9223372036854775806) (hD : 0 ≤ D ∧ D ≤ 2147483647) (hcl : Cls W0 A cs) (hBW : B = W0.heap.size) (hn : cs.length = n) (hn5 : n ≤ 1000) (hc : Rcnt s)
    (hcc : ∀ j, ((callAt cs j).1 = 1 ∨ (callAt cs j).1 = 2 ∨ (callAt cs j).1 = 3) ∧ 0 ≤ (callAt cs j).2 ∧ (callAt cs j).2 ≤ 2147483647)
    {k : Nat} (hk : k < n) (ho : (s.l.getD k pa0).o = false) (hh : (s.l.getD k pa0).h = true) (hw : s.w ≠ (s.l.getD k pa0).r) :
    Calls Try.prog 46 #[.pointer (some ⟨rb, 0, none⟩), .int .i64 (k : Int)] W (Rp W0 B rb D A n c g1 g2 g3 g4 (rstep D cs s k)) := by
  have hkl : k < s.l.length := by rw [h.len]; exact hk
  obtain ⟨c0, c1, c2, c3, c4, c5, c6, c7, c8, c9, c10⟩ := h.cells
  have hnl : s.l.length = n := h.len
  have d4 := h.o4.cells (by simpa using h.len) hk (map_at hkl) (f := 0) (u := .bool (s.l.getD k pa0).o) rfl
  have d3 := h.o3.cells (by simpa using h.len) hk (map_at hkl) (f := 0) (u := .bool (s.l.getD k pa0).h) rfl
  have d1 := h.o1.cells (by simpa using h.len) hk (map_at hkl) (f := 1) (u := .int .i64 (s.l.getD k pa0).t) rfl
  rw [Nat.mul_one, Nat.add_zero, ho] at d4
  rw [Nat.mul_one, Nat.add_zero, hh] at d3
  have hkr : k < rd.length := by rw [h.rl]; exact hk
  have hrd := h.rh k hh
  have e0 := (h.o2.cells (by simpa using h.rl) hk (vmap_at hkr) (f := 0) (u := .int .i64 (rd.getD k zv).u) rfl).1
  have e1 := (h.o2.cells (by simpa using h.rl) hk (vmap_at hkr) (f := 1) (u := .bool (rd.getD k zv).a) rfl).1
  have e2 := (h.o2.cells (by simpa using h.rl) hk (vmap_at hkr) (f := 2) (u := .int .i64 (rd.getD k zv).s) rfl).1
  have e3 := (h.o2.cells (by simpa using h.rl) hk (vmap_at hkr) (f := 3) (u := .int .i64 (rd.getD k zv).k) rfl).1
  rw [hrd] at e0 e1 e2 e3
  rw [Nat.add_zero] at e0
  have h0 : ¬ (k : Int) < 0 := by omega
  have h1 : ¬ (n : Int) ≤ (k : Int) := by omega
  obtain ⟨d4, f4⟩ := d4
  obtain ⟨d3, f3⟩ := d3
  obtain ⟨d1, f1⟩ := d1
  have hht := hr.t k
  have hw1 : wrap64 ((s.l.getD k pa0).t + 1) = (s.l.getD k pa0).t + 1 := by unfold wrap64; omega
  have n1 := h.n1 hk (p' := { s.l.getD k pa0 with t := (s.l.getD k pa0).t + 1 }) 1 (by decide) (.int .i64 ((s.l.getD k pa0).t + 1)) rfl rfl rfl rfl
  have n2 := n1.n3 hk (p' := { s.l.getD k pa0 with t := (s.l.getD k pa0).t + 1, h := false }) (by rw [getP_set hkl]; rfl) (by rw [getP_set hkl]) (fun q => by cases q)
  simp only [List.set_set] at n2
  have EQ := fun X => eq_view X s.w (rd.getD k zv)
  have hne : decide (s.w = rd.getD k zv) = false := by rw [hrd]; exact decide_eq_false hw
  rw [hne] at EQ
  clear hne
  have hS : Hid (rstep D cs s k = ⟨s.w, s.l.set k { s.l.getD k pa0 with t := (s.l.getD k pa0).t + 1, h := false }, s.ord⟩) := Lib.hid (by
    unfold rstep
    simp only
    rw [if_neg (by rw [ho]; decide), if_pos hh, if_neg hw])
  have hol : s.ord.length ≤ n := by have := hc.le; omega
  clear hcl hr hc hcc n1 e0 e1 e2 e3 f4
  clear hrd hw hBW
  rw [hS.out]
  generalize hp : s.l.getD k pa0 = p at *
  go_enter Try.func46, Try.ntmps46
  go_upto_region 11 with fail
  refine wp_world ?_
  intro wX hX
  try simp only [hw1] at hX
  rw [← hX] at n2
  clear hX c0 c1 c2 c3 c4 c5 c6 c7 c8 c9 c10 d1 d3 d4 f1 f3
  obtain ⟨c0, c1, c2, c3, c4, c5, c6, c7, c8, c9, c10⟩ := n2.cells
  have hkr2 : k < rd.length := by rw [n2.rl]; exact hk
  have e0 := (n2.o2.cells (by simpa using n2.rl) hk (vmap_at hkr2) (f := 0) (u := .int .i64 (rd.getD k zv).u) rfl).1
  have e1 := (n2.o2.cells (by simpa using n2.rl) hk (vmap_at hkr2) (f := 1) (u := .bool (rd.getD k zv).a) rfl).1
  have e2 := (n2.o2.cells (by simpa using n2.rl) hk (vmap_at hkr2) (f := 2) (u := .int .i64 (rd.getD k zv).s) rfl).1
  have e3 := (n2.o2.cells (by simpa using n2.rl) hk (vmap_at hkr2) (f := 3) (u := .int .i64 (rd.getD k zv).k) rfl).1
  rw [Nat.add_zero] at e0
  generalize rd.getD k zv = rv at *
  have hnX := Lib.hid n2.b
  simp only [VW.arr] at EQ
  go_big_quiet (fail)
  go_wp2
  go_end0
  rw [ho] at n2
  exact ⟨rfl, _, _, n2.keep (W' := wX.drewN nq) ⟨rfl, rfl, rfl, Nat.le_refl _, fun _ _ => rfl⟩⟩
end
/-- a view in a box of the call's own -/
def Vb (W X : World) (p : Value) (nv : VW) : Prop := ∃ nb, p = .pointer (some ⟨nb, 0, none⟩) ∧ X.heap[nb]? = some (.cells #[.int .i64 nv.u, .bool nv.a, .int .i64 nv.s, .int .i64 nv.k] 29) ∧ Below W.heap.size W X ∧ W.heap.size ≤ nb
def zrow : Obj := .cells #[.int .i64 0, .bool false, .int .i64 0, .int .i64 0] 29
theorem vb_fresh {W w3 : World} (q3 : Below W.heap.size W w3) (nv : VW) : Vb W (w3.alloc (.cells #[.int .i64 nv.u, .bool nv.a, .int .i64 nv.s, .int .i64 nv.k] 29)) (.pointer (some ⟨w3.heap.size, 0, none⟩)) nv :=
  ⟨_, rfl, heap_alloc_at _ _, q3.alloc q3.size _, q3.size⟩
theorem vb_laid {W w3 : World} {nb : Nat} (q3 : Below W.heap.size W w3) (zb : w3.heap[nb]? = some zrow) (h : W.heap.size ≤ nb) (nv : VW) :
    Vb W ((((w3.setCell ⟨nb, 0, none⟩ (.int .i64 nv.u)).setCell ⟨nb, 1, none⟩ (.bool nv.a)).setCell ⟨nb, 2, none⟩ (.int .i64 nv.s)).setCell ⟨nb, 3, none⟩ (.int .i64 nv.k)) (.pointer (some ⟨nb, 0, none⟩)) nv :=
  ⟨_, rfl, heap_set (heap_set (heap_set (heap_set zb 0 _) 1 _) 2 _) 3 _, (((q3.setCell (p := ⟨nb, 0, none⟩) h _).setCell (p := ⟨nb, 1, none⟩) h _).setCell (p := ⟨nb, 2, none⟩) h _).setCell (p := ⟨nb, 3, none⟩) h _, h⟩
theorem drew_al_lt (W : World) (o : Obj) : W.heap.size < (W.alloc o).drew.heap.size := by
  show W.heap.size < (W.alloc o).heap.size
  rw [size_al]; exact Nat.lt_succ_self _
section
variable {W0 W : World} {B rb : Nat} {D N : Int} {A : Option Addr} {n c g1 g2 g3 g4 : Nat} {vo : Value} {rd : List VW} {s : Rs} {cs : List (Int × Int)}
set_option maxHeartbeats 8000000 in
set_option maxRecDepth 100000 in
theorem rstep_fresh (h : RR W0 W B rb D A n c g1 g2 g3 g4 vo rd s) (hr : Rok s N) (hN : N < 9223372036854775806) (hD : 0 ≤ D ∧ D ≤ 2147483647) (hcl : Cls W0 A cs) (hBW : B = W0.heap.size) (hn : cs.length = n) (hn5 : n ≤ 1000) (hc : Rcnt s)
    (hcc : ∀ j, ((callAt cs j).1 = 1 ∨ (callAt cs j).1 = 2 ∨ (callAt cs j).1 = 3) ∧ 0 ≤ (callAt cs j).2 ∧ (callAt cs j).2 ≤ 2147483647)
    {k : Nat} (hk : k < n) (ho : (s.l.getD k pa0).o = false) (hh : (s.l.getD k pa0).h = false) :
    Calls Try.prog 46 #[.pointer (some ⟨rb, 0, none⟩), .int .i64 (k : Int)] W (Rp W0 B rb D A n c g1 g2 g3 g4 (rstep D cs s k)) := by
  have hkl : k < s.l.length := by rw [h.len]; exact hk
  obtain ⟨c0, c1, c2, c3, c4, c5, c6, c7, c8, c9, c10⟩ := h.cells
  have hnl : s.l.length = n := h.len
  have d4 := h.o4.cells (by simpa using h.len) hk (map_at hkl) (f := 0) (u := .bool (s.l.getD k pa0).o) rfl
  have d3 := h.o3.cells (by simpa using h.len) hk (map_at hkl) (f := 0) (u := .bool (s.l.getD k pa0).h) rfl
  rw [Nat.mul_one, Nat.add_zero, ho] at d4
  rw [Nat.mul_one, Nat.add_zero, hh] at d3
  have h0 : ¬ (k : Int) < 0 := by omega
  have h1 : ¬ (n : Int) ≤ (k : Int) := by omega
  obtain ⟨d4, f4⟩ := d4
  obtain ⟨d3, f3⟩ := d3
  have KD := fun X => rdoes_any s.w hr.w (callAt cs k).1 D (callAt cs k).2 (by have := (hcc k).1; omega) hD X
  have hkc : k < cs.length := by omega
  have hnX := h.b
  obtain ⟨ba, oa, rfl, hbl, x0, x1⟩ := (hcl.below (by rw [← hBW]; exact hnX)).at_ hkc
  rw [← okc_at hkc] at x0 x1
  have hnk := Lib.hid (fun (X : World) (hX : Below W.heap.size W X) => h.keep hX)
  have hrl := heap_lt h.hb
  have hrg := Lib.hid hr
  have hcg := Lib.hid hc
  generalize hS : rstep D cs s k = S'
  replace hS := Lib.hid hS
  clear hcl hr hc hcc hnX hkc hBW
  generalize hp : s.l.getD k pa0 = p at *
  generalize hcca : callAt cs k = cc at *
  obtain ⟨kd, nw⟩ := cc
  simp only [VW.arr] at KD
  replace hp := Lib.hid hp
  replace hcca := Lib.hid hcca
  generalize hnv : act kd D nw s.w = nv at *
  obtain ⟨nv, ec⟩ := nv
  replace hnv := Lib.hid hnv
  simp only at KD
  have hX : ∀ X : World, Below W.heap.size W X → X.cell? ⟨rb, 0, none⟩ = some (.int .i64 D) ∧ X.cell? ⟨rb, 1, none⟩ = some (.slice (some ⟨ba, oa, none⟩) n c) ∧ X.cell? ⟨rb, 2, none⟩ = some (.int .i64 s.w.u) ∧ X.cell? ⟨rb, 3, none⟩ = some (.bool s.w.a) ∧ X.cell? ⟨rb, 4, none⟩ = some (.int .i64 s.w.s) ∧ X.cell? ⟨rb, 5, none⟩ = some (.int .i64 s.w.k) ∧ X.cell? ⟨ba, oa + k * 2, none⟩ = some (.int .u8 kd) ∧ X.cell? ⟨ba, oa + k * 2 + 1, none⟩ = some (.int .i64 nw) := fun X d => by
    have cb : ∀ j, X.cell? ⟨rb, j, none⟩ = W.cell? ⟨rb, j, none⟩ := fun j => World.cell?_of_block (d.block rb hrl)
    have cg : ∀ j, X.cell? ⟨ba, j, none⟩ = W.cell? ⟨ba, j, none⟩ := fun j => World.cell?_of_block (d.block ba hbl)
    exact ⟨(cb _).trans c0, (cb _).trans c1, (cb _).trans c2, (cb _).trans c3, (cb _).trans c4, (cb _).trans c5, (cg _).trans x0, (cg _).trans x1⟩
  have hd1 : Below W.heap.size W W.drew := (Below.refl _ _).drew
  go_enter Try.func46, Try.ntmps46
  go_upto_region 2 with fail
  go_cut [4, 5] from 34 to 52 (fun p q wx => q = .int .i64 ec ∧ Vb W wx p nv)
  case first =>
    go_region_held3 (fun X => X.cell? ⟨rb, 0, none⟩ = some (.int .i64 D) ∧ X.cell? ⟨rb, 1, none⟩ = some (.slice (some ⟨ba, oa, none⟩) n c) ∧ X.cell? ⟨rb, 2, none⟩ = some (.int .i64 s.w.u) ∧ X.cell? ⟨rb, 3, none⟩ = some (.bool s.w.a) ∧ X.cell? ⟨rb, 4, none⟩ = some (.int .i64 s.w.s) ∧ X.cell? ⟨rb, 5, none⟩ = some (.int .i64 s.w.k) ∧ X.cell? ⟨ba, oa + k * 2, none⟩ = some (.int .u8 kd) ∧ X.cell? ⟨ba, oa + k * 2 + 1, none⟩ = some (.int .i64 nw))
      (first | (with_reducible exact hX _ hd1) | (with_reducible exact hX _ q3) | (exact hX _ ((below_al (Below.refl _ W) _).drew)) | (exact hX _ (q3.alloc q3.size _)) | (exact hX _ (vb_laid q3 zb (Nat.le_refl _) nv).choose_spec.2.2.1))
      (first | (go_at_call 13; (with_reducible refine (KD _).mono ?_); rintro e w3 ⟨rfl, hb3⟩; have q3 : Below W.heap.size W w3 := (by (first | (exact ((Below.refl _ W).drew).trans hb3) | (exact ((below_al (Below.refl _ W) _).drew).trans (hb3.mono (drew_al_le _ _))))); (try have zb : w3.heap[W.heap.size]? = some zrow := (by exact (hb3.block W.heap.size (drew_al_lt _ _)).trans (heap_alloc_at W zrow))); (try have u0 := cell_of_row _ _ 0 _ 29 (0, 0) zb); (try have u1 := cell_of_row _ _ 1 _ 29 (0, 0) zb); (try have u2 := cell_of_row _ _ 2 _ 29 (0, 0) zb); (try have u3 := cell_of_row _ _ 3 _ 29 (0, 0) zb); (try have v0 := frozen_row zb 0); (try have v1 := frozen_row zb 1); (try have v2 := frozen_row zb 2); (try have v3 := frozen_row zb 3)))
    all_goals go_wp2
    all_goals go_meet
    all_goals (case rel => (first | exact ⟨rfl, vb_fresh q3 nv⟩ | exact ⟨rfl, vb_laid q3 zb (Nat.le_refl _) nv⟩))
  obtain ⟨rfl, nb, rfl, hv, q6, hnb⟩ := hcut
  obtain ⟨wi, rfl⟩ : ∃ x : World, x = wc := ⟨_, rfl⟩
  have n2 := hnk.out wi q6
  have hS1 : Hid (S' = if nv = s.w then ⟨s.w, s.l.set k { p with c := ec, o := true }, s.ord ++ [(k : Int)]⟩ else ⟨s.w, s.l.set k { p with r := s.w, h := true }, s.ord⟩) := Lib.hid (by
    rw [← hS.out]
    unfold rstep
    simp only
    rw [hp.out, hcca.out, hnv.out, if_neg (by rw [ho]; decide), if_neg (by rw [hh]; decide)])
  have hol : s.ord.length ≤ n := by have := hcg.out.le; omega
  clear c0 c1 c2 c3 c4 c5 c6 c7 c8 c9 c10 d4 f4 d3 f3 x0 x1 KD hX hd1 hbl hrl q6 hnb h
  obtain ⟨c0, c1, c2, c3, c4, c5, c6, c7, c8, c9, c10⟩ := n2.cells
  have m0 := cell_of_row _ _ 0 _ 29 (0, 0) hv
  have m1 := cell_of_row _ _ 1 _ 29 (0, 0) hv
  have m2 := cell_of_row _ _ 2 _ 29 (0, 0) hv
  have m3 := cell_of_row _ _ 3 _ 29 (0, 0) hv
  have hpk : s.l.getD k pa0 = p := hp.out
  have hzv : Hid (k < rd.length) := Lib.hid (by rw [n2.rl]; exact hk)
  by_cases he : nv = s.w
  · have hS2 : Hid (S' = ⟨s.w, s.l.set k { p with c := ec, o := true }, s.ord ++ [(k : Int)]⟩) := Lib.hid (by rw [hS1.out, if_pos he])
    subst he
    have EQ := fun X => eq_view X s.w s.w
    simp only [decide_true] at EQ
    clear hv hS hnk hnv hcca hrg
    go_upto_region 3 with fail
    go_big_quiet (fail)
    go_upto_region 4 with fail
    refine wp_world ?_
    intro wY hY
    have n5 : RR W0 wY B rb D (some ⟨ba, oa, none⟩) n c g1 g2 g3 g4 vo rd s := by rw [hY]; exact n2.keep ⟨rfl, rfl, rfl, Nat.le_refl _, fun _ _ => rfl⟩
    clear n2 hY c0 c1 c2 c3 c4 c5 c6 c7 c8 c9 c10 m0 m1 m2 m3
    obtain ⟨-, -, -, -, -, -, c6, -, -, c9, c10⟩ := n5.cells
    have d1 := n5.o1.cells (by simpa using hnl) hk (map_at hkl) (f := 0) (u := .int .i64 (s.l.getD k pa0).c) rfl
    have d4 := n5.o4.cells (by simpa using hnl) hk (map_at hkl) (f := 0) (u := .bool (s.l.getD k pa0).o) rfl
    have n3 := n5.n1 hk (p' := { p with c := ec }) 0 (by decide) (.int .i64 ec) (by rw [hpk]; rfl) (by rw [hpk]) (by rw [hpk]) (by rw [hpk])
    have n4 := n3.n4 hk (p' := { p with c := ec, o := true }) (by rw [getP_set hkl]; rfl) (by rw [getP_set hkl]) (by rw [getP_set hkl])
    simp only [List.set_set, Nat.add_zero] at n4
    rw [Nat.add_zero, hpk] at d1
    rw [Nat.mul_one, Nat.add_zero, hpk, ho] at d4
    obtain ⟨d1, f1⟩ := d1
    obtain ⟨d4, f4⟩ := d4
    have hg14 : g4 ≠ g1 := fun e => n5.dis.2.2.1 e.symm
    have hr1 : rb ≠ g1 := by have := n5.lt; omega
    clear n3 hpk hS1 hp
    go_upto_region 6 with fail
    refine wp_world ?_
    intro wZ hZ
    rw [← hZ] at n4
    clear hZ c6 c9 c10 d4 f4 d1 f1 n5
    obtain ⟨-, -, -, -, -, -, -, -, -, -, c10⟩ := n4.cells
    have hno : Hid ((s.ord.map nrow).length = s.ord.length) := Lib.hid (List.length_map _)
    have hrz := heap_lt n4.hb
    have hzb := Lib.hid n4.hb
    go_wp2_with (at_builtin; refine wpList_push el3 rfl _ _ rfl rfl (n4.oo.alloc _) [.int .i64 k] wZ.heap.size _ rfl (heap_alloc_at _ _) rfl (by simp [Value.oneCell']) (by rw [hno.out]; omega) (by rw [size_al]; omega) ?_; intro v' w5 ho5 hb5 hs5 _ _; have z5 := (hb5.block rb (by omega)).trans (heap_alloc hzb.out); have y10 := cell_of_row _ _ 10 _ 56 (0, 0) z5; have yf := frozen_row z5 10; clear z5; obtain ⟨g6, cap6, rfl, hg6a, hg6b⟩ := own_form ho5; rw [hno.out] at ho5)
    ((try simp only [Exit.inBlock, Exit.then]); refine bodyPost_ret (results_none rfl _ _ _) rfl ?_)
    rw [hS2.out]
    exact ⟨rfl, _, _, n4.no (below_al (Below.refl _ _) _) k ho5 hb5⟩
  · have hS2 : Hid (S' = ⟨s.w, s.l.set k { p with r := s.w, h := true }, s.ord⟩) := Lib.hid (by rw [hS1.out, if_neg he])
    have EQ := fun X => eq_view X nv s.w
    rw [decide_eq_false he] at EQ
    simp only [VW.arr] at EQ
    clear hv hS hnk hnv hcca hrg he
    go_upto_region 3 with fail
    go_big_quiet (fail)
    go_upto_region 7 with fail
    refine wp_world ?_
    intro wY hY
    have n5 : RR W0 wY B rb D (some ⟨ba, oa, none⟩) n c g1 g2 g3 g4 vo rd s := by rw [hY]; exact n2.keep ⟨rfl, rfl, rfl, Nat.le_refl _, fun _ _ => rfl⟩
    clear n2 hY c0 c1 c2 c3 c4 c5 c6 c7 c8 c9 c10 m0 m1 m2 m3
    obtain ⟨-, -, c2, c3, c4, c5, -, c7, c8, -, -⟩ := n5.cells
    have e0 := n5.o2.cells (by simpa using n5.rl) hk (vmap_at hzv.out) (f := 0) (u := .int .i64 (rd.getD k zv).u) rfl
    have e1 := n5.o2.cells (by simpa using n5.rl) hk (vmap_at hzv.out) (f := 1) (u := .bool (rd.getD k zv).a) rfl
    have e2 := n5.o2.cells (by simpa using n5.rl) hk (vmap_at hzv.out) (f := 2) (u := .int .i64 (rd.getD k zv).s) rfl
    have e3 := n5.o2.cells (by simpa using n5.rl) hk (vmap_at hzv.out) (f := 3) (u := .int .i64 (rd.getD k zv).k) rfl
    have d3 := n5.o3.cells (by simpa using hnl) hk (map_at hkl) (f := 0) (u := .bool (s.l.getD k pa0).h) rfl
    have n3 := n5.n2 hk (by rw [hpk]; exact hh) s.w
    have n4 := n3.n3 hk (p' := { p with r := s.w, h := true }) (by rw [hpk]; rfl) (by rw [hpk]) (fun _ => by rw [List.getD_eq_getElem?_getD, List.getElem?_set_self hzv.out]; rfl)
    rw [Nat.add_zero] at e0
    rw [Nat.mul_one, Nat.add_zero, hpk, hh] at d3
    generalize rd.getD k zv = rv at *
    obtain ⟨e0, i0⟩ := e0
    obtain ⟨e1, i1⟩ := e1
    obtain ⟨e2, i2⟩ := e2
    obtain ⟨e3, i3⟩ := e3
    obtain ⟨d3, f3⟩ := d3
    have hg23 : g3 ≠ g2 := fun e => n5.dis.2.2.2.1 e.symm
    have hr2 : rb ≠ g2 := by have := n5.lt; omega
    clear n3 hpk hS1 hp n5
    go_region_law (fail)
    all_goals go_wp2
    all_goals ((try simp only [Exit.inBlock, Exit.then]); refine bodyPost_ret (results_none rfl _ _ _) rfl ?_)
    all_goals rw [hS2.out]
    all_goals first
      | exact ⟨rfl, _, _, n4⟩
      | exact ⟨rfl, _, _, n4.keep (Below.refl _ _).drew⟩
end
end Go.Proofs.Ytgnhddnhcfmipaa
