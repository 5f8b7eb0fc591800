/- Idle: a step of the reference's race. -/
import Derived.Test.YtgnhddnhcfmipaaRc5
namespace Go.Proofs.Ytgnhddnhcfmipaa
open Go.RowKit Go.BigFrame

/-- as many are done as are over -/
def Rcnt (s : Rs) : Prop := s.ord.length = s.l.countP (·.o)
theorem Rcnt.le {s : Rs} (h : Rcnt s) : s.ord.length ≤ s.l.length := by rw [h]; exact List.countP_le_length
theorem cnt_set {l : List Pa} {k : Nat} (hk : k < l.length) (ho : (l.getD k pa0).o = false) (p : Pa) : (l.set k p).countP (·.o) = l.countP (·.o) + (if p.o = true then 1 else 0) := by
  rw [List.getD_eq_getElem?_getD, List.getElem?_eq_getElem hk] at ho
  have ho' : l[k].o = false := ho
  rw [List.countP_set hk, ho']
  simp
theorem Rcnt.step {D : Int} {cs : List (Int × Int)} {s : Rs} (h : Rcnt s) {k : Nat} (hk : k < s.l.length) : Rcnt (rstep D cs s k) := by
  unfold rstep
  simp only
  cases ho : (s.l.getD k pa0).o
  · unfold Rcnt at h
    simp only [Bool.false_eq_true, if_false]
    split
    · split
      · unfold Rcnt; simp only [List.length_append, List.length_cons, List.length_nil]; rw [cnt_set hk ho]; simp [h]
      · unfold Rcnt; simp only; rw [cnt_set hk ho]; simp [h]
    · split
      · unfold Rcnt; simp only [List.length_append, List.length_cons, List.length_nil]; rw [cnt_set hk ho]; simp [h]
      · unfold Rcnt; simp only; rw [cnt_set hk ho]; simp [h, ho]
  · simpa using h
theorem el3 : Elt Try.prog 42 3 1 8 := Elt.of (z := .int .i64 0) Try.underlying42 (by kernel_rfl) rfl (by decide) (by decide)
section
variable {W0 W : World} {B rb : Nat} {D N : Int} {A : Option Addr} {n c g1 g2 g3 g4 : Nat} {vo : Value} {rd : List VW} {s : Rs} {cs : List (Int × Int)}
theorem RR.cells (h : RR W0 W B rb D A n c g1 g2 g3 g4 vo rd s) : W.cell? ⟨rb, 0, none⟩ = some (.int .i64 D) ∧ W.cell? ⟨rb, 1, none⟩ = some (.slice A n c) ∧ W.cell? ⟨rb, 2, none⟩ = some (.int .i64 s.w.u) ∧ W.cell? ⟨rb, 3, none⟩ = some (.bool s.w.a) ∧ W.cell? ⟨rb, 4, none⟩ = some (.int .i64 s.w.s) ∧ W.cell? ⟨rb, 5, none⟩ = some (.int .i64 s.w.k) ∧
    W.cell? ⟨rb, 6, none⟩ = some (.slice (some ⟨g1, 0, none⟩) n n) ∧ W.cell? ⟨rb, 7, none⟩ = some (.slice (some ⟨g2, 0, none⟩) n n) ∧ W.cell? ⟨rb, 8, none⟩ = some (.slice (some ⟨g3, 0, none⟩) n n) ∧ W.cell? ⟨rb, 9, none⟩ = some (.slice (some ⟨g4, 0, none⟩) n n) ∧ W.cell? ⟨rb, 10, none⟩ = some vo :=
  ⟨h.cl 0 rfl, h.cl 1 rfl, h.cl 2 rfl, h.cl 3 rfl, h.cl 4 rfl, h.cl 5 rfl, h.cl 6 rfl, h.cl 7 rfl, h.cl 8 rfl, h.cl 9 rfl, h.cl 10 rfl⟩
theorem results0 {fn : Func} (h : fn.results = #[]) (tmps : Array Value) (P : Program) (w : World) : (results fn tmps).run P w = .ok (.tuple #[]) w := results_none h tmps P w
/-- what a step leaves -/
def Rp (W0 : World) (B rb : Nat) (D : Int) (A : Option Addr) (n c g1 g2 g3 g4 : Nat) (s : Rs) (e : Ending) (w' : World) : Prop := e = .returned (.tuple #[]) ∧ ∃ vo' rd', RR W0 w' B rb D A n c g1 g2 g3 g4 vo' rd' s
set_option maxHeartbeats 8000000 in
set_option maxRecDepth 100000 in
theorem rstep_out (h : RR W0 W B rb D A n c g1 g2 g3 g4 vo rd s) (i : Int) (hi : ¬ (0 ≤ i ∧ i < (n : Int))) :
    Calls Try.prog 46 #[.pointer (some ⟨rb, 0, none⟩), .int .i64 i] W (Rp W0 B rb D A n c g1 g2 g3 g4 s) := by
  obtain ⟨-, c1, -⟩ := h.cells
  unfold Rp
  by_cases h0 : i < 0
  · go_enter Try.func46, Try.ntmps46
    go_wp2
    ((try simp only [Exit.inBlock, Exit.then]); refine bodyPost_ret (results_none rfl _ _ _) rfl ?_)
    exact ⟨rfl, _, _, h⟩
  · have hn : (n : Int) ≤ i := by omega
    go_enter Try.func46, Try.ntmps46
    go_wp2
    ((try simp only [Exit.inBlock, Exit.then]); refine bodyPost_ret (results_none rfl _ _ _) rfl ?_)
    exact ⟨rfl, _, _, h⟩
set_option maxHeartbeats 8000000 in
set_option maxRecDepth 100000 in
theorem rstep_none (h : RR W0 W B rb D A n c g1 g2 g3 g4 vo rd s) {k : Nat} (hk : k < n) (ho : (s.l.getD k pa0).o = true) :
    Calls Try.prog 46 #[.pointer (some ⟨rb, 0, none⟩), .int .i64 (k : Int)] W (Rp W0 B rb D A n c g1 g2 g3 g4 s) := by
  have hkl : k < s.l.length := by rw [h.len]; exact hk
  obtain ⟨-, c1, -, -, -, -, -, -, -, c9, -⟩ := h.cells
  have d4 := (h.o4.cells (by simpa using h.len) hk (map_at hkl) (f := 0) (u := .bool (s.l.getD k pa0).o) rfl).1
  rw [Nat.mul_one, Nat.add_zero, ho] at d4
  have h0 : ¬ (k : Int) < 0 := by omega
  have h1 : ¬ (n : Int) ≤ (k : Int) := by omega
  unfold Rp
  go_enter Try.func46, Try.ntmps46
  go_wp2
  ((try simp only [Exit.inBlock, Exit.then]); refine bodyPost_ret (results_none rfl _ _ _) rfl ?_)
  exact ⟨rfl, _, _, h⟩
set_option maxHeartbeats 8000000 in
set_option maxRecDepth 100000 in
theorem rstep_hit (h : RR W0 W B rb D A n c g1 g2 g3 g4 vo rd s) (hr : Rok s N) (hN : N < 9223372036854775806) (hD : 0 ≤ D ∧ D ≤ 2147483647) (hcl : Cls W0 A cs) (hBW : B = W0.heap.size) (hn : cs.length = n) (hn5 : n ≤ 1000) (hc : Rcnt s)
    (hcc : ∀ j, ((callAt cs j).1 = 1 ∨ (callAt cs j).1 = 2 ∨ (callAt cs j).1 = 3) ∧ 0 ≤ (callAt cs j).2 ∧ (callAt cs j).2 ≤ 2147483647)
    {k : Nat} (hk : k < n) (ho : (s.l.getD k pa0).o = false) (hh : (s.l.getD k pa0).h = true) (hw : s.w = (s.l.getD k pa0).r) :
    Calls Try.prog 46 #[.pointer (some ⟨rb, 0, none⟩), .int .i64 (k : Int)] W (Rp W0 B rb D A n c g1 g2 g3 g4 (rstep D cs s k)) := by
  have hkl : k < s.l.length := by rw [h.len]; exact hk
  obtain ⟨c0, c1, c2, c3, c4, c5, c6, c7, c8, c9, c10⟩ := h.cells
  have hnl : s.l.length = n := h.len
  have d4 := h.o4.cells (by simpa using h.len) hk (map_at hkl) (f := 0) (u := .bool (s.l.getD k pa0).o) rfl
  have d3 := h.o3.cells (by simpa using h.len) hk (map_at hkl) (f := 0) (u := .bool (s.l.getD k pa0).h) rfl
  have d1 := h.o1.cells (by simpa using h.len) hk (map_at hkl) (f := 1) (u := .int .i64 (s.l.getD k pa0).t) rfl
  rw [Nat.mul_one, Nat.add_zero, ho] at d4
  rw [Nat.mul_one, Nat.add_zero, hh] at d3
  have hkr : k < rd.length := by rw [h.rl]; exact hk
  have hrd := h.rh k hh
  have e0 := (h.o2.cells (by simpa using h.rl) hk (vmap_at hkr) (f := 0) (u := .int .i64 (rd.getD k zv).u) rfl).1
  have e1 := (h.o2.cells (by simpa using h.rl) hk (vmap_at hkr) (f := 1) (u := .bool (rd.getD k zv).a) rfl).1
  have e2 := (h.o2.cells (by simpa using h.rl) hk (vmap_at hkr) (f := 2) (u := .int .i64 (rd.getD k zv).s) rfl).1
  have e3 := (h.o2.cells (by simpa using h.rl) hk (vmap_at hkr) (f := 3) (u := .int .i64 (rd.getD k zv).k) rfl).1
  rw [hrd, ← hw] at e0 e1 e2 e3
  rw [Nat.add_zero] at e0
  have h0 : ¬ (k : Int) < 0 := by omega
  have h1 : ¬ (n : Int) ≤ (k : Int) := by omega
  obtain ⟨d4, f4⟩ := d4
  obtain ⟨d3, f3⟩ := d3
  obtain ⟨d1, f1⟩ := d1
  have hht := hr.t k
  have hw1 : wrap64 ((s.l.getD k pa0).t + 1) = (s.l.getD k pa0).t + 1 := by unfold wrap64; omega
  have n1 := h.n1 hk (p' := { s.l.getD k pa0 with t := (s.l.getD k pa0).t + 1 }) 1 (by decide) (.int .i64 ((s.l.getD k pa0).t + 1)) rfl rfl rfl rfl
  have n2 := n1.n3 hk (p' := { s.l.getD k pa0 with t := (s.l.getD k pa0).t + 1, h := false }) (by rw [getP_set hkl]; rfl) (by rw [getP_set hkl]) (fun q => by cases q)
  simp only [List.set_set] at n2
  have EQ := fun X => eq_view X s.w s.w
  simp only [decide_true] at EQ
  have hS : Hid (rstep D cs s k = ⟨(act (callAt cs k).1 D (callAt cs k).2 s.w).1, s.l.set k { s.l.getD k pa0 with t := (s.l.getD k pa0).t + 1, h := false, o := true }, s.ord ++ [(k : Int)]⟩) := Lib.hid (by
    unfold rstep
    simp only
    rw [if_neg (by rw [ho]; decide), if_pos hh, if_pos hw])
  have hol : s.ord.length ≤ n := by have := hc.le; omega
  have KD := fun X => rdoes_any s.w hr.w (callAt cs k).1 D (callAt cs k).2 (by have := (hcc k).1; omega) hD X
  have hkc : k < cs.length := by omega
  have hcd := Lib.hid (fun (X : World) (hX : Below W0.heap.size W0 X) => (hcl.below hX).at_ hkc)
  have hca : callAt cs k = cs[k] := okc_at hkc
  rw [← hca] at hcd
  clear hcl hca hr hc hcc n1 e0 e1 e2 e3 f4
  have hrw : Hid (rd.getD k zv = s.w) := Lib.hid (by rw [hrd, hw])
  clear hrd
  rw [hS.out]
  generalize hp : s.l.getD k pa0 = p at *
  generalize callAt cs k = cc at *
  obtain ⟨kd, nw⟩ := cc
  simp only [VW.arr] at KD
  replace hw := Lib.hid hw
  go_enter Try.func46, Try.ntmps46
  go_upto_region 11 with fail
  refine wp_world ?_
  intro wX hX
  try simp only [hw1] at hX
  rw [← hX] at n2
  clear hX c0 c1 c2 c3 c4 c5 c6 c7 c8 c9 c10 d1 d3 d4 f1 f3
  obtain ⟨c0, c1, c2, c3, c4, c5, c6, c7, c8, c9, c10⟩ := n2.cells
  have hkr2 : k < rd.length := by rw [n2.rl]; exact hk
  have e0 := (n2.o2.cells (by simpa using n2.rl) hk (vmap_at hkr2) (f := 0) (u := .int .i64 (rd.getD k zv).u) rfl).1
  have e1 := (n2.o2.cells (by simpa using n2.rl) hk (vmap_at hkr2) (f := 1) (u := .bool (rd.getD k zv).a) rfl).1
  have e2 := (n2.o2.cells (by simpa using n2.rl) hk (vmap_at hkr2) (f := 2) (u := .int .i64 (rd.getD k zv).s) rfl).1
  have e3 := (n2.o2.cells (by simpa using n2.rl) hk (vmap_at hkr2) (f := 3) (u := .int .i64 (rd.getD k zv).k) rfl).1
  rw [hrw.out] at e0 e1 e2 e3
  rw [Nat.add_zero] at e0
  clear hrw hkr2
  have hnX := Lib.hid n2.b
  go_big_quiet (fail)
  go_wp2
  obtain ⟨ba, oa, rfl, hbl, x0, x1⟩ := hcd.out wX (by rw [← hBW]; exact hnX.out)
  clear e0 e1 e2 e3 c6 c7 c8 EQ hcd hS hbl
  go_region_law (go_simp; go_at_call 13; (with_reducible refine (KD _).mono ?_); rintro e w1 ⟨rfl, hb1⟩; have n3 : RR W0 w1 B rb D (some ⟨ba, oa, none⟩) n c g1 g2 g3 g4 vo rd ⟨s.w, s.l.set k { h := false, o := p.o, r := p.r, c := p.c, t := p.t + 1 }, s.ord⟩ := n2.keep ⟨hb1.os, hb1.tape, hb1.output, hb1.size, hb1.block⟩; obtain ⟨-, -, y2, y3, y4, y5, -⟩ := n3.cells; have f2 := n3.fz 2; have f3 := n3.fz 3; have f4 := n3.fz 4; have f5 := n3.fz 5)
  all_goals have n4 := n3.nw (act kd D nw s.w).1
  all_goals generalize ((((w1.setCell ⟨rb, 2, none⟩ (.int .i64 (act kd D nw s.w).1.u)).setCell ⟨rb, 3, none⟩ (.bool (act kd D nw s.w).1.a)).setCell ⟨rb, 4, none⟩ (.int .i64 (act kd D nw s.w).1.s)).setCell ⟨rb, 5, none⟩ (.int .i64 (act kd D nw s.w).1.k)) = wY at *
  all_goals clear n3 y2 y3 y4 y5 f2 f3 f4 f5 hb1 c0 c1 c2 c3 c4 c5 c9 c10 n2 x0 x1 KD hnX
  all_goals obtain ⟨-, -, -, -, -, -, -, -, -, c9, c10⟩ := n4.cells
  all_goals have hln : (s.l.set k { h := false, o := p.o, r := p.r, c := p.c, t := p.t + 1 }).length = n := by rw [List.length_set]; exact hnl
  all_goals have hkl' : k < (s.l.set k { h := false, o := p.o, r := p.r, c := p.c, t := p.t + 1 }).length := by rw [hln]; exact hk
  all_goals have d4 := n4.o4.cells (by simpa using hnl) hk (map_at hkl') (f := 0) (u := .bool p.o) (by rw [getP_set hkl]; rfl)
  all_goals rw [Nat.mul_one, Nat.add_zero] at d4
  all_goals obtain ⟨d4, f4⟩ := d4
  all_goals have n5 := n4.n4 hk (p' := { h := false, o := true, r := p.r, c := p.c, t := p.t + 1 }) (by rw [getP_set hkl]; rfl) (by rw [getP_set hkl]) (by rw [getP_set hkl])
  all_goals simp only [List.set_set] at n5
  all_goals go_upto_region 14 with fail
  all_goals refine wp_world ?_
  all_goals intro wZ hZ
  all_goals rw [← hZ] at n5
  all_goals clear hZ c9 c10 d4 f4 n4
  all_goals obtain ⟨-, -, -, -, -, -, -, -, -, -, c10⟩ := n5.cells
  all_goals have hno : Hid ((s.ord.map nrow).length = s.ord.length) := Lib.hid (List.length_map _)
  all_goals have hrz := heap_lt n5.hb
  all_goals have hzb := Lib.hid n5.hb
  all_goals go_wp2_with (at_builtin; refine wpList_push el3 rfl _ _ rfl rfl (n5.oo.alloc _) [.int .i64 k] wZ.heap.size _ rfl (heap_alloc_at _ _) rfl (by simp [Value.oneCell']) (by rw [hno.out]; omega) (by rw [size_al]; omega) ?_; intro v' w5 ho5 hb5 hs5 _ _; have z5 := (hb5.block rb (by omega)).trans (heap_alloc hzb.out); have y10 := cell_of_row _ _ 10 _ 56 (0, 0) z5; have yf := frozen_row z5 10; clear z5; obtain ⟨g6, cap6, rfl, hg6a, hg6b⟩ := own_form ho5; rw [hno.out] at ho5)
  all_goals go_end0
  all_goals exact ⟨rfl, _, _, n5.no (below_al (Below.refl _ _) _) k ho5 hb5⟩
end
end Go.Proofs.Ytgnhddnhcfmipaa
