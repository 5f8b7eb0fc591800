/- IdleStorms: View, New, the document's Storm, alike, under the judgement. Printed by wip/tools/gen_ids24.py. -/
import Derived.Test.YtgnhddnhcfmipaaIds21
namespace Go.Proofs.Ytgnhddnhcfmipaa.Ids
open Go Go.Conc Go.RowKit Go.Proofs.Ytgnhddnhcfmipaa.Eg Go.Proofs.Ytgnhddnhcfmipaa

theorem Ctx.swap2 {N : Nat} {F : Nat → World → Prop} {y : Gh Role} {K : Nat} {w : World} {p q : Row} {l : List Row} (H : Ctx N F y K w (p :: q :: l)) : Ctx N F y K w (q :: p :: l) :=
  ⟨⟨by have := H.rows.nd; simp only [List.map_cons, List.nodup_cons, List.mem_cons, not_or] at this ⊢; exact ⟨⟨fun e => this.1.1 e.symm, this.2.1⟩, this.1.2, this.2.2⟩, fun x hx => H.rows.at_ x (by simp only [List.mem_cons] at hx ⊢; rcases hx with h | h | h <;> simp [h])⟩, H.st, H.hi, H.lo, H.big, H.keeps, H.mem⟩

set_option maxHeartbeats 8000000 in
set_option maxRecDepth 100000 in
theorem view_o : ∃ nf, ∀ {N : Nat} {F : Nat → World → Prop} {m : Bool} {y : Gh Role} {K : Nat} {w : World} {l : List Row} (sh : Nat → Prop) (g : Nat) (d u s k : Int) (e : Bool) (_ : (⟨u, e, s, k⟩ : VW).ok) (_ : y.role = .alone sh) (_ : Ctx N F y K w ((g, #[.int .i64 d, .int .u64 (⟨u, e, s, k⟩ : VW).num], 100) :: l)), CJ (S N) m 18 #[.pointer (some ⟨g, 0, none⟩)] nf (fun r K' y' w' => r = .agg #[.int .i64 u, .bool e, .int .i64 s, .int .i64 k] ∧ Gr y y' ∧ Ctx N F y' K' w' ((g, #[.int .i64 d, .int .u64 (⟨u, e, s, k⟩ : VW).num], 100) :: l)) K y w := by
  obtain ⟨nl, hload⟩ := load_o
  obtain ⟨nv, hview⟩ := view_c
  co_apply Exists.intro
  intro N F m y K w l sh g d u s k e hv hr H
  have hg := Gr.refl y
  have hq : y.role.quiet = false := by rw [hr]; rfl
  co_apply CJ.of_WF Try.func18 (by kernel_rfl) (by rfl)
  simp only [show Try.f18.ntmps = 11 from rfl]
  try walk_nrm
  co_apply WF.seqP
  co_apply WF.region
  try simp only [List.size_toArray, List.length_cons, List.length_nil, Nat.zero_add, List.range, List.range.loop]
  co_applyP OF.al rfl (by rfl) H hq (fun _ => run_eq_of ?run) (fun _ => by simp [go_sem, *])
  case run => intro K hK; go_simp; exact hK
  intro K w₁ y' w b2 hK1 hr1 hg1 hq1 hb1 hw1 H1
  replace hg := hg.trans hg1
  replace hr := hg1.role.trans hr
  replace hq := hq1
  replace H := H1
  clear hb1 hw1 hr1 hK1 hg1 hq1 H1
  try walk_nrm
  co_apply OF.nil
  try simp only [thenF]
  co_apply WF.seqP
  co_apply WF.seqP
  co_apply WF.region
  try simp only [List.size_toArray, List.length_cons, List.length_nil, Nat.reduceAdd, Nat.zero_add, List.range, List.range.loop]
  co_applyP OF.pu rfl (by rfl) (fun _ => run_eq_of ?run) (fun _ => by simp [go_sem, *])
  case run => intro K hK; go_simp; exact hK
  try walk_nrm
  co_applyP OF.pu (v := .bool false) rfl (by rfl) (fun _ => by kernel_rfl) (fun _ => by kernel_rfl)
  try walk_nrm
  co_apply OF.nil
  try simp only [thenF]
  co_apply WF.cond (t := false) rfl
  simp only [Bool.false_eq_true, ↓reduceIte]
  co_apply WF.skip
  try simp only [thenF]
  co_apply WF.seqP
  co_apply WF.region
  try simp only [List.size_toArray, List.length_cons, List.length_nil, Nat.reduceAdd, Nat.zero_add, List.range, List.range.loop]
  co_applyP OF.pu rfl (by rfl) (fun _ => run_eq_of ?run) (fun _ => by simp [go_sem, *])
  case run => intro K hK; go_simp; exact hK
  try walk_nrm
  co_applyP OF.pu rfl (by rfl) (fun _ => run_eq_of ?run) (fun _ => by simp [go_sem, *])
  case run => intro K hK; go_simp; exact hK
  try walk_nrm
  co_applyP OF.pu rfl (by rfl) (fun _ => run_eq_of ?run) (fun _ => by simp [go_sem, *])
  case run => intro K hK; go_simp; exact hK
  try walk_nrm
  co_applyP OF.callJ rfl (by rfl) rfl
  · walk_nrm
    exact hload sh g d _ hr H.swap2
  rintro _ K y' w hK1 ⟨rfl, hg1, H1⟩
  replace hg := hg.trans hg1
  replace hr := hg1.role.trans hr
  have hq1 : y'.role.quiet = false := by rw [hr]; rfl
  replace hq := hq1
  replace H := H1
  replace H := H.swap2
  clear hg1 H1 hq1 hK1
  try walk_nrm
  co_applyP OF.callJ rfl (by rfl) rfl
  · walk_nrm
    exact hview ⟨u, e, s, k⟩ hv H hq
  rintro _ K y' w hK1 ⟨rfl, hg1, H1⟩
  replace hg := hg.trans hg1
  replace hr := hg1.role.trans hr
  have hq1 : y'.role.quiet = false := by rw [hr]; rfl
  replace hq := hq1
  replace H := H1
  clear hg1 H1 hq1 hK1
  try walk_nrm
  co_applyP OF.str 0 rfl (by rfl) rfl H hq rfl rfl rfl (by kernel_rfl) (by rfl) (by kernel_rfl)
  intro K w₁ w hK1 hr1 hu1 H1
  replace H := H1
  clear hr1 hK1 hu1 H1
  simp only [List.set_cons_zero] at H
  try walk_nrm
  co_apply OF.nil
  try simp only [thenF]
  co_apply WF.ret
  exact retG_cell 0 rfl H hq rfl rfl rfl Try.underlying38 rfl (by kernel_rfl) fun K₁ hK w₁ r H => ⟨rfl, hg, H.tail⟩

set_option maxHeartbeats 8000000 in
set_option maxRecDepth 100000 in
theorem new_ok : ∃ nf, ∀ {N : Nat} {F : Nat → World → Prop} {m : Bool} {y : Gh Role} {K : Nat} {w : World} {l : List Row} (sh : Nat → Prop) (d : Int) (_ : 0 ≤ d) (_ : d ≤ 2147483647) (_ : y.role = .alone sh) (_ : Ctx N F y K w (l)), CJ (S N) m 11 #[.int .i64 d] nf (fun r K' y' w' => ∃ g : Nat, r = .tuple #[.pointer (some ⟨g, 0, none⟩), .int .i64 0] ∧ Gr y y' ∧ Ctx N F y' K' w' ((g, #[.int .i64 d, .int .u64 0], 100) :: l)) K y w := by
  obtain ⟨nt, htick⟩ := tick_0
  co_apply Exists.intro
  intro N F m y K w l sh d h0 h1 hr H
  have hg := Gr.refl y
  have hq : y.role.quiet = false := by rw [hr]; rfl
  co_apply CJ.of_WF Try.func11 (by kernel_rfl) (by rfl)
  simp only [show Try.f11.ntmps = 10 from rfl]
  try walk_nrm
  co_apply WF.seqP
  co_apply WF.region
  try simp only [List.size_toArray, List.length_cons, List.length_nil, Nat.reduceAdd, Nat.zero_add, List.range, List.range.loop]
  co_applyP OF.pu rfl (by rfl) (fun _ => run_eq_of ?run) (fun _ => by simp [go_sem, *])
  case run => intro K hK; go_simp; exact hK
  try walk_nrm
  co_applyP OF.pu rfl (by rfl) (fun _ => run_eq_of ?run) (fun _ => by simp [go_sem, *])
  case run => intro K hK; go_simp; exact hK
  try walk_nrm
  co_apply OF.nil
  try simp only [thenF]
  co_apply WF.seqP
  co_apply WF.seqP
  co_apply WF.region
  try simp only [List.size_toArray, List.length_cons, List.length_nil, Nat.reduceAdd, Nat.zero_add, List.range, List.range.loop]
  co_applyP OF.pu rfl (by rfl) (fun _ => run_eq_of ?run) (fun _ => by simp [go_sem, *])
  case run => intro K hK; go_simp; exact hK
  try walk_nrm
  co_applyP OF.callJ rfl (by rfl) rfl
  · walk_nrm
    exact htick d h0 h1 H hq
  rintro _ K y' w hK1 ⟨rfl, hg1, H1⟩
  replace hg := hg.trans hg1
  replace hr := hg1.role.trans hr
  have hq1 : y'.role.quiet = false := by rw [hr]; rfl
  replace hq := hq1
  replace H := H1
  clear hg1 H1 hq1 hK1
  try walk_nrm
  co_applyP OF.pu rfl (by rfl) (fun _ => run_eq_of ?run) (fun _ => by simp [go_sem, *])
  case run => intro K hK; go_simp; exact hK
  try walk_nrm
  co_apply OF.nil
  try simp only [thenF]
  co_apply WF.cond (t := false) rfl
  simp only [Bool.false_eq_true, ↓reduceIte]
  co_apply WF.skip
  try simp only [thenF]
  co_apply WF.seqP
  co_apply WF.region
  try simp only [List.size_toArray, List.length_cons, List.length_nil, Nat.reduceAdd, Nat.zero_add, List.range, List.range.loop]
  co_applyP OF.pu rfl (by rfl) (fun _ => run_eq_of ?run) (fun _ => by simp [go_sem, *])
  case run => intro K hK; go_simp; exact hK
  try walk_nrm
  co_applyP OF.pu rfl (by rfl) (fun _ => run_eq_of ?run) (fun _ => by simp [go_sem, *])
  case run => intro K hK; go_simp; exact hK
  try walk_nrm
  co_applyP OF.al rfl (by rfl) H hq (fun _ => run_eq_of ?run) (fun _ => by simp [go_sem, *])
  case run => intro K hK; go_simp; exact hK
  intro K w₁ y' w b9 hK1 hr1 hg1 hq1 hb1 hw1 H1
  replace hg := hg.trans hg1
  replace hr := hg1.role.trans hr
  replace hq := hq1
  replace H := H1
  clear hb1 hw1 hr1 hK1 hg1 hq1 H1
  try walk_nrm
  co_applyP OF.pu rfl (by rfl) (fun _ => run_eq_of ?run) (fun _ => by simp [go_sem, *])
  case run => intro K hK; go_simp; exact hK
  try walk_nrm
  co_applyP OF.pu rfl (by rfl) (fun _ => run_eq_of ?run) (fun _ => by simp [go_sem, *])
  case run => intro K hK; go_simp; exact hK
  try walk_nrm
  co_apply OF.nil
  try simp only [thenF]
  co_apply WF.ret
  exact retG_of rfl (resultsC_tmp2 (by rfl) _) (fun K₂ hK₂ w₂ r₂ => ⟨_, rfl, hg, H.rely r₂⟩)

set_option maxHeartbeats 8000000 in
set_option maxRecDepth 100000 in
theorem new_bad0 : ∃ nf, ∀ {N : Nat} {F : Nat → World → Prop} {m : Bool} {y : Gh Role} {K : Nat} {w : World} {l : List Row} (sh : Nat → Prop) (d : Int) (_ : 0 ≤ d) (_ : ¬ d ≤ 2147483647) (_ : y.role = .alone sh) (_ : Ctx N F y K w (l)), CJ (S N) m 11 #[.int .i64 d] nf (fun r K' y' w' => r = .tuple #[.pointer none, .int .i64 1] ∧ Gr y y' ∧ Ctx N F y' K' w' l) K y w := by
  obtain ⟨nt, htick⟩ := tick_1
  co_apply Exists.intro
  intro N F m y K w l sh d h0 h1 hr H
  have hg := Gr.refl y
  have hq : y.role.quiet = false := by rw [hr]; rfl
  co_apply CJ.of_WF Try.func11 (by kernel_rfl) (by rfl)
  simp only [show Try.f11.ntmps = 10 from rfl]
  try walk_nrm
  co_apply WF.seqP
  co_apply WF.region
  try simp only [List.size_toArray, List.length_cons, List.length_nil, Nat.reduceAdd, Nat.zero_add, List.range, List.range.loop]
  co_applyP OF.pu rfl (by rfl) (fun _ => run_eq_of ?run) (fun _ => by simp [go_sem, *])
  case run => intro K hK; go_simp; exact hK
  try walk_nrm
  co_applyP OF.pu rfl (by rfl) (fun _ => run_eq_of ?run) (fun _ => by simp [go_sem, *])
  case run => intro K hK; go_simp; exact hK
  try walk_nrm
  co_apply OF.nil
  try simp only [thenF]
  co_apply WF.seqP (n₂ := 0)
  co_apply WF.seqP
  co_apply WF.region
  try simp only [List.size_toArray, List.length_cons, List.length_nil, Nat.reduceAdd, Nat.zero_add, List.range, List.range.loop]
  co_applyP OF.pu rfl (by rfl) (fun _ => run_eq_of ?run) (fun _ => by simp [go_sem, *])
  case run => intro K hK; go_simp; exact hK
  try walk_nrm
  co_applyP OF.callJ rfl (by rfl) rfl
  · walk_nrm
    exact htick d h0 h1 H hq
  rintro _ K y' w hK1 ⟨rfl, hg1, H1⟩
  replace hg := hg.trans hg1
  replace hr := hg1.role.trans hr
  have hq1 : y'.role.quiet = false := by rw [hr]; rfl
  replace hq := hq1
  replace H := H1
  clear hg1 H1 hq1 hK1
  try walk_nrm
  co_applyP OF.pu rfl (by rfl) (fun _ => run_eq_of ?run) (fun _ => by simp [go_sem, *])
  case run => intro K hK; go_simp; exact hK
  try walk_nrm
  co_apply OF.nil
  try simp only [thenF]
  co_apply WF.cond (t := true) rfl
  simp only [↓reduceIte]
  co_apply WF.seqP
  co_apply WF.region
  try simp only [List.size_toArray, List.length_cons, List.length_nil, Nat.reduceAdd, Nat.zero_add, List.range, List.range.loop]
  co_applyP OF.pu rfl (by rfl) (fun _ => run_eq_of ?run) (fun _ => by simp [go_sem, *])
  case run => intro K hK; go_simp; exact hK
  try walk_nrm
  co_applyP OF.pu rfl (by rfl) (fun _ => run_eq_of ?run) (fun _ => by simp [go_sem, *])
  case run => intro K hK; go_simp; exact hK
  try walk_nrm
  co_apply OF.nil
  try simp only [thenF]
  co_apply WF.ret
  try simp only [thenF]
  exact retG_of rfl (resultsC_tmp2 (by rfl) _) (fun K₂ hK₂ w₂ r₂ => ⟨rfl, hg, H.rely r₂⟩)

set_option maxHeartbeats 8000000 in
set_option maxRecDepth 100000 in
theorem new_bad1 : ∃ nf, ∀ {N : Nat} {F : Nat → World → Prop} {m : Bool} {y : Gh Role} {K : Nat} {w : World} {l : List Row} (sh : Nat → Prop) (d : Int) (_ : ¬ 0 ≤ d) (_ : y.role = .alone sh) (_ : Ctx N F y K w (l)), CJ (S N) m 11 #[.int .i64 d] nf (fun r K' y' w' => r = .tuple #[.pointer none, .int .i64 1] ∧ Gr y y' ∧ Ctx N F y' K' w' l) K y w := by
  obtain ⟨nt, htick⟩ := tick_2
  co_apply Exists.intro
  intro N F m y K w l sh d h0 hr H
  have hg := Gr.refl y
  have hq : y.role.quiet = false := by rw [hr]; rfl
  co_apply CJ.of_WF Try.func11 (by kernel_rfl) (by rfl)
  simp only [show Try.f11.ntmps = 10 from rfl]
  try walk_nrm
  co_apply WF.seqP
  co_apply WF.region
  try simp only [List.size_toArray, List.length_cons, List.length_nil, Nat.reduceAdd, Nat.zero_add, List.range, List.range.loop]
  co_applyP OF.pu rfl (by rfl) (fun _ => run_eq_of ?run) (fun _ => by simp [go_sem, *])
  case run => intro K hK; go_simp; exact hK
  try walk_nrm
  co_applyP OF.pu rfl (by rfl) (fun _ => run_eq_of ?run) (fun _ => by simp [go_sem, *])
  case run => intro K hK; go_simp; exact hK
  try walk_nrm
  co_apply OF.nil
  try simp only [thenF]
  co_apply WF.seqP (n₂ := 0)
  co_apply WF.seqP
  co_apply WF.region
  try simp only [List.size_toArray, List.length_cons, List.length_nil, Nat.reduceAdd, Nat.zero_add, List.range, List.range.loop]
  co_applyP OF.pu rfl (by rfl) (fun _ => run_eq_of ?run) (fun _ => by simp [go_sem, *])
  case run => intro K hK; go_simp; exact hK
  try walk_nrm
  co_applyP OF.callJ rfl (by rfl) rfl
  · walk_nrm
    exact htick d h0 H hq
  rintro _ K y' w hK1 ⟨rfl, hg1, H1⟩
  replace hg := hg.trans hg1
  replace hr := hg1.role.trans hr
  have hq1 : y'.role.quiet = false := by rw [hr]; rfl
  replace hq := hq1
  replace H := H1
  clear hg1 H1 hq1 hK1
  try walk_nrm
  co_applyP OF.pu rfl (by rfl) (fun _ => run_eq_of ?run) (fun _ => by simp [go_sem, *])
  case run => intro K hK; go_simp; exact hK
  try walk_nrm
  co_apply OF.nil
  try simp only [thenF]
  co_apply WF.cond (t := true) rfl
  simp only [↓reduceIte]
  co_apply WF.seqP
  co_apply WF.region
  try simp only [List.size_toArray, List.length_cons, List.length_nil, Nat.reduceAdd, Nat.zero_add, List.range, List.range.loop]
  co_applyP OF.pu rfl (by rfl) (fun _ => run_eq_of ?run) (fun _ => by simp [go_sem, *])
  case run => intro K hK; go_simp; exact hK
  try walk_nrm
  co_applyP OF.pu rfl (by rfl) (fun _ => run_eq_of ?run) (fun _ => by simp [go_sem, *])
  case run => intro K hK; go_simp; exact hK
  try walk_nrm
  co_apply OF.nil
  try simp only [thenF]
  co_apply WF.ret
  try simp only [thenF]
  exact retG_of rfl (resultsC_tmp2 (by rfl) _) (fun K₂ hK₂ w₂ r₂ => ⟨rfl, hg, H.rely r₂⟩)

set_option maxHeartbeats 8000000 in
set_option maxRecDepth 100000 in
theorem alike_t : ∃ nf, ∀ {N : Nat} {F : Nat → World → Prop} {m : Bool} {y : Gh Role} {K : Nat} {w : World} {l : List Row} (sh : Nat → Prop) (u s k : Int) (_ : y.role = .alone sh) (_ : Ctx N F y K w (l)), CJ (S N) m 17 #[.agg #[.int .i64 u, .bool true, .int .i64 s, .int .i64 k], .agg #[.int .i64 u, .bool true, .int .i64 s, .int .i64 k]] nf (fun r K' y' w' => r = .bool true ∧ Gr y y' ∧ Ctx N F y' K' w' l) K y w := by
  co_apply Exists.intro
  intro N F m y K w l sh u s k hr H
  have hg := Gr.refl y
  have hq : y.role.quiet = false := by rw [hr]; rfl
  have hb1 : (u == u) = true := by simp
  have hb2 : (s == s) = true := by simp
  have hb3 : (k == k) = true := by simp
  co_apply CJ.of_WF Try.func17 (by kernel_rfl) (by rfl)
  simp only [show Try.f17.ntmps = 31 from rfl]
  try walk_nrm
  co_apply WF.seqP
  co_apply WF.region
  try simp only [List.size_toArray, List.length_cons, List.length_nil, Nat.reduceAdd, Nat.zero_add, List.range, List.range.loop]
  co_applyP OF.al rfl (by rfl) H hq (fun _ => run_eq_of ?run) (fun _ => by simp [go_sem, *])
  case run => intro K hK; go_simp; exact hK
  intro K w₁ y' w b2 hK1 hr1 hg1 hq1 hb1 hw1 H1
  replace hg := hg.trans hg1
  replace hr := hg1.role.trans hr
  replace hq := hq1
  replace H := H1
  clear hb1 hw1 hr1 hK1 hg1 hq1 H1
  try walk_nrm
  co_applyP OF.al rfl (by rfl) H hq (fun _ => run_eq_of ?run) (fun _ => by simp [go_sem, *])
  case run => intro K hK; go_simp; exact hK
  intro K w₁ y' w b3 hK1 hr1 hg1 hq1 hb1 hw1 H1
  replace hg := hg.trans hg1
  replace hr := hg1.role.trans hr
  replace hq := hq1
  replace H := H1
  clear hb1 hw1 hr1 hK1 hg1 hq1 H1
  try walk_nrm
  co_applyP OF.pu rfl (by rfl) (fun _ => run_eq_of ?run) (fun _ => by simp [go_sem, *])
  case run => intro K hK; go_simp; exact hK
  try walk_nrm
  co_apply OF.nil
  try simp only [thenF]
  co_apply WF.seqP
  co_apply WF.region
  try simp only [List.size_toArray, List.length_cons, List.length_nil, Nat.reduceAdd, Nat.zero_add, List.range, List.range.loop]
  co_applyP OF.pu rfl (by rfl) (fun _ => run_eq_of ?run) (fun _ => by simp [go_sem, *])
  case run => intro K hK; go_simp; exact hK
  try walk_nrm
  co_applyP OF.ld1 1 0 rfl (by rfl) rfl H hq rfl rfl rfl Try.underlying3 rfl
  intro K w hK1 hr1 H1
  replace H := H1
  clear hr1 hK1 H1
  try walk_nrm
  co_applyP OF.pu rfl (by rfl) (fun _ => run_eq_of ?run) (fun _ => by simp [go_sem, *])
  case run => intro K hK; go_simp; exact hK
  try walk_nrm
  co_applyP OF.ld1 0 0 rfl (by rfl) rfl H hq rfl rfl rfl Try.underlying3 rfl
  intro K w hK1 hr1 H1
  replace H := H1
  clear hr1 hK1 H1
  try walk_nrm
  co_applyP OF.pu rfl (by rfl) (fun _ => run_eq_of ?run) (fun _ => by simp [go_sem, *])
  case run => intro K hK; go_simp; exact hK
  try walk_nrm
  co_applyP OF.pu rfl (by rfl) (fun _ => run_eq_of ?run) (fun _ => by simp [go_sem, *])
  case run => intro K hK; go_simp; exact hK
  try walk_nrm
  first
  | (co_applyP OF.pu rfl (by rfl) (fun _ => run_eq_of ?run) (fun _ => by simp [go_sem, *]); case run => intro K hK; go_simp; exact hK)
  | co_apply OF.unwanted rfl (by rfl)
  try walk_nrm
  first
  | (co_applyP OF.ld1 1 1 rfl (by rfl) rfl H hq rfl rfl rfl Try.underlying4 rfl; intro K w hK1 hr1 H1; replace H := H1; skip; clear hr1 hK1 H1)
  | co_apply OF.unwanted rfl (by rfl)
  try walk_nrm
  first
  | (co_applyP OF.pu rfl (by rfl) (fun _ => run_eq_of ?run) (fun _ => by simp [go_sem, *]); case run => intro K hK; go_simp; exact hK)
  | co_apply OF.unwanted rfl (by rfl)
  try walk_nrm
  first
  | (co_applyP OF.ld1 0 1 rfl (by rfl) rfl H hq rfl rfl rfl Try.underlying4 rfl; intro K w hK1 hr1 H1; replace H := H1; skip; clear hr1 hK1 H1)
  | co_apply OF.unwanted rfl (by rfl)
  try walk_nrm
  co_applyP OF.pu (v := .bool true) rfl (by rfl) (fun _ => by kernel_rfl) (fun _ => by kernel_rfl)
  try walk_nrm
  co_applyP OF.pu rfl (by rfl) (fun _ => run_eq_of ?run) (fun _ => by simp [go_sem, *])
  case run => intro K hK; go_simp; exact hK
  try walk_nrm
  co_applyP OF.pu rfl (by rfl) (fun _ => run_eq_of ?run) (fun _ => by simp [go_sem, *])
  case run => intro K hK; go_simp; exact hK
  try walk_nrm
  first
  | (co_applyP OF.pu rfl (by rfl) (fun _ => run_eq_of ?run) (fun _ => by simp [go_sem, *]); case run => intro K hK; go_simp; exact hK)
  | co_apply OF.unwanted rfl (by rfl)
  try walk_nrm
  first
  | (co_applyP OF.ld1 1 2 rfl (by rfl) rfl H hq rfl rfl rfl Try.underlying3 rfl; intro K w hK1 hr1 H1; replace H := H1; skip; clear hr1 hK1 H1)
  | co_apply OF.unwanted rfl (by rfl)
  try walk_nrm
  first
  | (co_applyP OF.pu rfl (by rfl) (fun _ => run_eq_of ?run) (fun _ => by simp [go_sem, *]); case run => intro K hK; go_simp; exact hK)
  | co_apply OF.unwanted rfl (by rfl)
  try walk_nrm
  first
  | (co_applyP OF.ld1 0 2 rfl (by rfl) rfl H hq rfl rfl rfl Try.underlying3 rfl; intro K w hK1 hr1 H1; replace H := H1; skip; clear hr1 hK1 H1)
  | co_apply OF.unwanted rfl (by rfl)
  try walk_nrm
  first
  | (co_applyP OF.pu rfl (by rfl) (fun _ => run_eq_of ?run) (fun _ => by simp [go_sem, *]); case run => intro K hK; go_simp; exact hK)
  | co_apply OF.unwanted rfl (by rfl)
  try walk_nrm
  co_applyP OF.pu rfl (by rfl) (fun _ => run_eq_of ?run) (fun _ => by simp [go_sem, *])
  case run => intro K hK; go_simp; exact hK
  try walk_nrm
  co_applyP OF.pu rfl (by rfl) (fun _ => run_eq_of ?run) (fun _ => by simp [go_sem, *])
  case run => intro K hK; go_simp; exact hK
  try walk_nrm
  first
  | (co_applyP OF.pu rfl (by rfl) (fun _ => run_eq_of ?run) (fun _ => by simp [go_sem, *]); case run => intro K hK; go_simp; exact hK)
  | co_apply OF.unwanted rfl (by rfl)
  try walk_nrm
  first
  | (co_applyP OF.ld1 1 3 rfl (by rfl) rfl H hq rfl rfl rfl Try.underlying3 rfl; intro K w hK1 hr1 H1; replace H := H1; skip; clear hr1 hK1 H1)
  | co_apply OF.unwanted rfl (by rfl)
  try walk_nrm
  first
  | (co_applyP OF.pu rfl (by rfl) (fun _ => run_eq_of ?run) (fun _ => by simp [go_sem, *]); case run => intro K hK; go_simp; exact hK)
  | co_apply OF.unwanted rfl (by rfl)
  try walk_nrm
  first
  | (co_applyP OF.ld1 0 3 rfl (by rfl) rfl H hq rfl rfl rfl Try.underlying3 rfl; intro K w hK1 hr1 H1; replace H := H1; skip; clear hr1 hK1 H1)
  | co_apply OF.unwanted rfl (by rfl)
  try walk_nrm
  first
  | (co_applyP OF.pu rfl (by rfl) (fun _ => run_eq_of ?run) (fun _ => by simp [go_sem, *]); case run => intro K hK; go_simp; exact hK)
  | co_apply OF.unwanted rfl (by rfl)
  try walk_nrm
  co_applyP OF.pu rfl (by rfl) (fun _ => run_eq_of ?run) (fun _ => by simp [go_sem, *])
  case run => intro K hK; go_simp; exact hK
  try walk_nrm
  co_applyP OF.pu rfl (by rfl) (fun _ => run_eq_of ?run) (fun _ => by simp [go_sem, *])
  case run => intro K hK; go_simp; exact hK
  try walk_nrm
  co_apply OF.nil
  try simp only [thenF]
  co_apply WF.ret
  exact retG_of rfl (resultsC_tmp (by rfl) _) (fun K₂ hK₂ w₂ r₂ => ⟨rfl, hg, (H.rely r₂).tail.tail⟩)

set_option maxHeartbeats 8000000 in
set_option maxRecDepth 100000 in
theorem alike_f : ∃ nf, ∀ {N : Nat} {F : Nat → World → Prop} {m : Bool} {y : Gh Role} {K : Nat} {w : World} {l : List Row} (sh : Nat → Prop) (u s k : Int) (_ : y.role = .alone sh) (_ : Ctx N F y K w (l)), CJ (S N) m 17 #[.agg #[.int .i64 u, .bool false, .int .i64 s, .int .i64 k], .agg #[.int .i64 u, .bool false, .int .i64 s, .int .i64 k]] nf (fun r K' y' w' => r = .bool true ∧ Gr y y' ∧ Ctx N F y' K' w' l) K y w := by
  co_apply Exists.intro
  intro N F m y K w l sh u s k hr H
  have hg := Gr.refl y
  have hq : y.role.quiet = false := by rw [hr]; rfl
  have hb1 : (u == u) = true := by simp
  have hb2 : (s == s) = true := by simp
  have hb3 : (k == k) = true := by simp
  co_apply CJ.of_WF Try.func17 (by kernel_rfl) (by rfl)
  simp only [show Try.f17.ntmps = 31 from rfl]
  try walk_nrm
  co_apply WF.seqP
  co_apply WF.region
  try simp only [List.size_toArray, List.length_cons, List.length_nil, Nat.reduceAdd, Nat.zero_add, List.range, List.range.loop]
  co_applyP OF.al rfl (by rfl) H hq (fun _ => run_eq_of ?run) (fun _ => by simp [go_sem, *])
  case run => intro K hK; go_simp; exact hK
  intro K w₁ y' w b2 hK1 hr1 hg1 hq1 hb1 hw1 H1
  replace hg := hg.trans hg1
  replace hr := hg1.role.trans hr
  replace hq := hq1
  replace H := H1
  clear hb1 hw1 hr1 hK1 hg1 hq1 H1
  try walk_nrm
  co_applyP OF.al rfl (by rfl) H hq (fun _ => run_eq_of ?run) (fun _ => by simp [go_sem, *])
  case run => intro K hK; go_simp; exact hK
  intro K w₁ y' w b3 hK1 hr1 hg1 hq1 hb1 hw1 H1
  replace hg := hg.trans hg1
  replace hr := hg1.role.trans hr
  replace hq := hq1
  replace H := H1
  clear hb1 hw1 hr1 hK1 hg1 hq1 H1
  try walk_nrm
  co_applyP OF.pu rfl (by rfl) (fun _ => run_eq_of ?run) (fun _ => by simp [go_sem, *])
  case run => intro K hK; go_simp; exact hK
  try walk_nrm
  co_apply OF.nil
  try simp only [thenF]
  co_apply WF.seqP
  co_apply WF.region
  try simp only [List.size_toArray, List.length_cons, List.length_nil, Nat.reduceAdd, Nat.zero_add, List.range, List.range.loop]
  co_applyP OF.pu rfl (by rfl) (fun _ => run_eq_of ?run) (fun _ => by simp [go_sem, *])
  case run => intro K hK; go_simp; exact hK
  try walk_nrm
  co_applyP OF.ld1 1 0 rfl (by rfl) rfl H hq rfl rfl rfl Try.underlying3 rfl
  intro K w hK1 hr1 H1
  replace H := H1
  clear hr1 hK1 H1
  try walk_nrm
  co_applyP OF.pu rfl (by rfl) (fun _ => run_eq_of ?run) (fun _ => by simp [go_sem, *])
  case run => intro K hK; go_simp; exact hK
  try walk_nrm
  co_applyP OF.ld1 0 0 rfl (by rfl) rfl H hq rfl rfl rfl Try.underlying3 rfl
  intro K w hK1 hr1 H1
  replace H := H1
  clear hr1 hK1 H1
  try walk_nrm
  co_applyP OF.pu rfl (by rfl) (fun _ => run_eq_of ?run) (fun _ => by simp [go_sem, *])
  case run => intro K hK; go_simp; exact hK
  try walk_nrm
  co_applyP OF.pu rfl (by rfl) (fun _ => run_eq_of ?run) (fun _ => by simp [go_sem, *])
  case run => intro K hK; go_simp; exact hK
  try walk_nrm
  first
  | (co_applyP OF.pu rfl (by rfl) (fun _ => run_eq_of ?run) (fun _ => by simp [go_sem, *]); case run => intro K hK; go_simp; exact hK)
  | co_apply OF.unwanted rfl (by rfl)
  try walk_nrm
  first
  | (co_applyP OF.ld1 1 1 rfl (by rfl) rfl H hq rfl rfl rfl Try.underlying4 rfl; intro K w hK1 hr1 H1; replace H := H1; skip; clear hr1 hK1 H1)
  | co_apply OF.unwanted rfl (by rfl)
  try walk_nrm
  first
  | (co_applyP OF.pu rfl (by rfl) (fun _ => run_eq_of ?run) (fun _ => by simp [go_sem, *]); case run => intro K hK; go_simp; exact hK)
  | co_apply OF.unwanted rfl (by rfl)
  try walk_nrm
  first
  | (co_applyP OF.ld1 0 1 rfl (by rfl) rfl H hq rfl rfl rfl Try.underlying4 rfl; intro K w hK1 hr1 H1; replace H := H1; skip; clear hr1 hK1 H1)
  | co_apply OF.unwanted rfl (by rfl)
  try walk_nrm
  co_applyP OF.pu (v := .bool true) rfl (by rfl) (fun _ => by kernel_rfl) (fun _ => by kernel_rfl)
  try walk_nrm
  co_applyP OF.pu rfl (by rfl) (fun _ => run_eq_of ?run) (fun _ => by simp [go_sem, *])
  case run => intro K hK; go_simp; exact hK
  try walk_nrm
  co_applyP OF.pu rfl (by rfl) (fun _ => run_eq_of ?run) (fun _ => by simp [go_sem, *])
  case run => intro K hK; go_simp; exact hK
  try walk_nrm
  first
  | (co_applyP OF.pu rfl (by rfl) (fun _ => run_eq_of ?run) (fun _ => by simp [go_sem, *]); case run => intro K hK; go_simp; exact hK)
  | co_apply OF.unwanted rfl (by rfl)
  try walk_nrm
  first
  | (co_applyP OF.ld1 1 2 rfl (by rfl) rfl H hq rfl rfl rfl Try.underlying3 rfl; intro K w hK1 hr1 H1; replace H := H1; skip; clear hr1 hK1 H1)
  | co_apply OF.unwanted rfl (by rfl)
  try walk_nrm
  first
  | (co_applyP OF.pu rfl (by rfl) (fun _ => run_eq_of ?run) (fun _ => by simp [go_sem, *]); case run => intro K hK; go_simp; exact hK)
  | co_apply OF.unwanted rfl (by rfl)
  try walk_nrm
  first
  | (co_applyP OF.ld1 0 2 rfl (by rfl) rfl H hq rfl rfl rfl Try.underlying3 rfl; intro K w hK1 hr1 H1; replace H := H1; skip; clear hr1 hK1 H1)
  | co_apply OF.unwanted rfl (by rfl)
  try walk_nrm
  first
  | (co_applyP OF.pu rfl (by rfl) (fun _ => run_eq_of ?run) (fun _ => by simp [go_sem, *]); case run => intro K hK; go_simp; exact hK)
  | co_apply OF.unwanted rfl (by rfl)
  try walk_nrm
  co_applyP OF.pu rfl (by rfl) (fun _ => run_eq_of ?run) (fun _ => by simp [go_sem, *])
  case run => intro K hK; go_simp; exact hK
  try walk_nrm
  co_applyP OF.pu rfl (by rfl) (fun _ => run_eq_of ?run) (fun _ => by simp [go_sem, *])
  case run => intro K hK; go_simp; exact hK
  try walk_nrm
  first
  | (co_applyP OF.pu rfl (by rfl) (fun _ => run_eq_of ?run) (fun _ => by simp [go_sem, *]); case run => intro K hK; go_simp; exact hK)
  | co_apply OF.unwanted rfl (by rfl)
  try walk_nrm
  first
  | (co_applyP OF.ld1 1 3 rfl (by rfl) rfl H hq rfl rfl rfl Try.underlying3 rfl; intro K w hK1 hr1 H1; replace H := H1; skip; clear hr1 hK1 H1)
  | co_apply OF.unwanted rfl (by rfl)
  try walk_nrm
  first
  | (co_applyP OF.pu rfl (by rfl) (fun _ => run_eq_of ?run) (fun _ => by simp [go_sem, *]); case run => intro K hK; go_simp; exact hK)
  | co_apply OF.unwanted rfl (by rfl)
  try walk_nrm
  first
  | (co_applyP OF.ld1 0 3 rfl (by rfl) rfl H hq rfl rfl rfl Try.underlying3 rfl; intro K w hK1 hr1 H1; replace H := H1; skip; clear hr1 hK1 H1)
  | co_apply OF.unwanted rfl (by rfl)
  try walk_nrm
  first
  | (co_applyP OF.pu rfl (by rfl) (fun _ => run_eq_of ?run) (fun _ => by simp [go_sem, *]); case run => intro K hK; go_simp; exact hK)
  | co_apply OF.unwanted rfl (by rfl)
  try walk_nrm
  co_applyP OF.pu rfl (by rfl) (fun _ => run_eq_of ?run) (fun _ => by simp [go_sem, *])
  case run => intro K hK; go_simp; exact hK
  try walk_nrm
  co_applyP OF.pu rfl (by rfl) (fun _ => run_eq_of ?run) (fun _ => by simp [go_sem, *])
  case run => intro K hK; go_simp; exact hK
  try walk_nrm
  co_apply OF.nil
  try simp only [thenF]
  co_apply WF.ret
  exact retG_of rfl (resultsC_tmp (by rfl) _) (fun K₂ hK₂ w₂ r₂ => ⟨rfl, hg, (H.rely r₂).tail.tail⟩)

set_option maxHeartbeats 8000000 in
set_option maxRecDepth 100000 in
theorem rstorm_bad0 : ∃ nf, ∀ {N : Nat} {F : Nat → World → Prop} {m : Bool} {y : Gh Role} {K : Nat} {w : World} {l : List Row} (sh : Nat → Prop) (d wn tn kn : Int) (_ : isTick d = false) (_ : y.role = .alone sh) (_ : Ctx N F y K w (l)), CJ (S N) m 39 #[.int .i64 d, .int .i64 wn, .int .i64 tn, .int .i64 kn] nf (fun r K' y' w' => r = .tuple #[.agg #[.int .i64 0, .bool false, .int .i64 0, .int .i64 0], .int .i64 1] ∧ Gr y y' ∧ Ctx N F y' K' w' l) K y w := by
  obtain ⟨nt, htick⟩ := rtick_c
  co_apply Exists.intro
  intro N F m y K w l sh d wn tn kn ht hr H
  have hg := Gr.refl y
  have hq : y.role.quiet = false := by rw [hr]; rfl
  have ht2 := ht
  co_apply CJ.of_WF Try.func39 (by kernel_rfl) (by rfl)
  simp only [show Try.f39.ntmps = 51 from rfl]
  try walk_nrm
  co_apply WF.seqP
  co_apply WF.region
  try simp only [List.size_toArray, List.length_cons, List.length_nil, Nat.reduceAdd, Nat.zero_add, List.range, List.range.loop]
  co_applyP OF.al rfl (by rfl) H hq (fun _ => run_eq_of ?run) (fun _ => by simp [go_sem, *])
  case run => intro K hK; go_simp; exact hK
  intro K w₁ y' w b8 hK1 hr1 hg1 hq1 hb1 hw1 H1
  replace hg := hg.trans hg1
  replace hr := hg1.role.trans hr
  replace hq := hq1
  replace H := H1
  clear hb1 hw1 hr1 hK1 hg1 hq1 H1
  try walk_nrm
  co_applyP OF.pu rfl (by rfl) (fun _ => run_eq_of ?run) (fun _ => by simp [go_sem, *])
  case run => intro K hK; go_simp; exact hK
  try walk_nrm
  co_apply OF.nil
  try simp only [thenF]
  co_apply WF.seqP (n₂ := 0)
  co_apply WF.seqP
  co_apply WF.region
  try simp only [List.size_toArray, List.length_cons, List.length_nil, Nat.reduceAdd, Nat.zero_add, List.range, List.range.loop]
  co_applyP OF.pu rfl (by rfl) (fun _ => run_eq_of ?run) (fun _ => by simp [go_sem, *])
  case run => intro K hK; go_simp; exact hK
  try walk_nrm
  co_applyP OF.callJ rfl (by rfl) rfl
  · walk_nrm
    exact htick d H hq
  rintro _ K y' w hK1 ⟨rfl, hg1, H1⟩
  replace hg := hg.trans hg1
  replace hr := hg1.role.trans hr
  have hq1 : y'.role.quiet = false := by rw [hr]; rfl
  replace hq := hq1
  replace H := H1
  clear hg1 H1 hq1 hK1
  try walk_nrm
  co_applyP OF.pu rfl (by rfl) (fun _ => run_eq_of ?run) (fun _ => by simp [go_sem, *])
  case run => intro K hK; go_simp; exact hK
  try walk_nrm
  co_applyP OF.pu rfl (by rfl) (fun _ => run_eq_of ?run) (fun _ => by simp [go_sem, *])
  case run => intro K hK; go_simp; exact hK
  try walk_nrm
  first
  | (co_applyP OF.pu rfl (by rfl) (fun _ => run_eq_of ?run) (fun _ => by simp [go_sem, *]); case run => intro K hK; go_simp; exact hK)
  | co_apply OF.unwanted rfl (by rfl)
  try walk_nrm
  first
  | (co_applyP OF.pu rfl (by rfl) (fun _ => run_eq_of ?run) (fun _ => by simp [go_sem, *]); case run => intro K hK; go_simp; exact hK)
  | co_apply OF.unwanted rfl (by rfl)
  try walk_nrm
  co_applyP OF.pu rfl (by rfl) (fun _ => run_eq_of ?run) (fun _ => by simp [go_sem, *])
  case run => intro K hK; go_simp; exact hK
  try walk_nrm
  co_applyP OF.pu rfl (by rfl) (fun _ => run_eq_of ?run) (fun _ => by simp [go_sem, *])
  case run => intro K hK; go_simp; exact hK
  try walk_nrm
  first
  | (co_applyP OF.pu rfl (by rfl) (fun _ => run_eq_of ?run) (fun _ => by simp [go_sem, *]); case run => intro K hK; go_simp; exact hK)
  | co_apply OF.unwanted rfl (by rfl)
  try walk_nrm
  first
  | (co_applyP OF.pu rfl (by rfl) (fun _ => run_eq_of ?run) (fun _ => by simp [go_sem, *]); case run => intro K hK; go_simp; exact hK)
  | co_apply OF.unwanted rfl (by rfl)
  try walk_nrm
  co_applyP OF.pu rfl (by rfl) (fun _ => run_eq_of ?run) (fun _ => by simp [go_sem, *])
  case run => intro K hK; go_simp; exact hK
  try walk_nrm
  co_applyP OF.pu rfl (by rfl) (fun _ => run_eq_of ?run) (fun _ => by simp [go_sem, *])
  case run => intro K hK; go_simp; exact hK
  try walk_nrm
  first
  | (co_applyP OF.pu rfl (by rfl) (fun _ => run_eq_of ?run) (fun _ => by simp [go_sem, *]); case run => intro K hK; go_simp; exact hK)
  | co_apply OF.unwanted rfl (by rfl)
  try walk_nrm
  first
  | (co_applyP OF.pu rfl (by rfl) (fun _ => run_eq_of ?run) (fun _ => by simp [go_sem, *]); case run => intro K hK; go_simp; exact hK)
  | co_apply OF.unwanted rfl (by rfl)
  try walk_nrm
  co_applyP OF.pu rfl (by rfl) (fun _ => run_eq_of ?run) (fun _ => by simp [go_sem, *])
  case run => intro K hK; go_simp; exact hK
  try walk_nrm
  co_applyP OF.pu rfl (by rfl) (fun _ => run_eq_of ?run) (fun _ => by simp [go_sem, *])
  case run => intro K hK; go_simp; exact hK
  try walk_nrm
  first
  | (co_applyP OF.pu rfl (by rfl) (fun _ => run_eq_of ?run) (fun _ => by simp [go_sem, *]); case run => intro K hK; go_simp; exact hK)
  | co_apply OF.unwanted rfl (by rfl)
  try walk_nrm
  first
  | (co_applyP OF.pu rfl (by rfl) (fun _ => run_eq_of ?run) (fun _ => by simp [go_sem, *]); case run => intro K hK; go_simp; exact hK)
  | co_apply OF.unwanted rfl (by rfl)
  try walk_nrm
  co_applyP OF.pu rfl (by rfl) (fun _ => run_eq_of ?run) (fun _ => by simp [go_sem, *])
  case run => intro K hK; go_simp; exact hK
  try walk_nrm
  co_applyP OF.pu rfl (by rfl) (fun _ => run_eq_of ?run) (fun _ => by simp [go_sem, *])
  case run => intro K hK; go_simp; exact hK
  try walk_nrm
  first
  | (co_applyP OF.pu rfl (by rfl) (fun _ => run_eq_of ?run) (fun _ => by simp [go_sem, *]); case run => intro K hK; go_simp; exact hK)
  | co_apply OF.unwanted rfl (by rfl)
  try walk_nrm
  first
  | (co_applyP OF.pu rfl (by rfl) (fun _ => run_eq_of ?run) (fun _ => by simp [go_sem, *]); case run => intro K hK; go_simp; exact hK)
  | co_apply OF.unwanted rfl (by rfl)
  try walk_nrm
  co_applyP OF.pu rfl (by rfl) (fun _ => run_eq_of ?run) (fun _ => by simp [go_sem, *])
  case run => intro K hK; go_simp; exact hK
  try walk_nrm
  co_applyP OF.pu rfl (by rfl) (fun _ => run_eq_of ?run) (fun _ => by simp [go_sem, *])
  case run => intro K hK; go_simp; exact hK
  try walk_nrm
  first
  | (co_applyP OF.pu rfl (by rfl) (fun _ => run_eq_of ?run) (fun _ => by simp [go_sem, *]); case run => intro K hK; go_simp; exact hK)
  | co_apply OF.unwanted rfl (by rfl)
  try walk_nrm
  first
  | (co_applyP OF.pu rfl (by rfl) (fun _ => run_eq_of ?run) (fun _ => by simp [go_sem, *]); case run => intro K hK; go_simp; exact hK)
  | co_apply OF.unwanted rfl (by rfl)
  try walk_nrm
  co_applyP OF.pu rfl (by rfl) (fun _ => run_eq_of ?run) (fun _ => by simp [go_sem, *])
  case run => intro K hK; go_simp; exact hK
  try walk_nrm
  co_apply OF.nil
  try simp only [thenF]
  co_apply WF.cond (t := true) rfl
  simp only [↓reduceIte]
  co_apply WF.seqP
  co_apply WF.region
  try simp only [List.size_toArray, List.length_cons, List.length_nil, Nat.reduceAdd, Nat.zero_add, List.range, List.range.loop]
  co_applyP OF.pu rfl (by rfl) (fun _ => run_eq_of ?run) (fun _ => by simp [go_sem, *])
  case run => intro K hK; go_simp; exact hK
  try walk_nrm
  co_applyP OF.str 0 rfl (by rfl) rfl H hq rfl rfl rfl (by kernel_rfl) (by rfl) (by kernel_rfl)
  intro K w₁ w hK1 hr1 hu1 H1
  replace H := H1
  clear hr1 hK1 hu1 H1
  simp only [List.set_cons_zero] at H
  try walk_nrm
  co_applyP OF.pu rfl (by rfl) (fun _ => run_eq_of ?run) (fun _ => by simp [go_sem, *])
  case run => intro K hK; go_simp; exact hK
  try walk_nrm
  co_apply OF.nil
  try simp only [thenF]
  co_apply WF.ret
  try simp only [thenF]
  exact retG_cell_tmp 0 rfl H hq rfl rfl rfl Try.underlying29 rfl (by kernel_rfl) fun K₁ hK w₁ r H => ⟨rfl, hg, H.tail⟩

set_option maxHeartbeats 8000000 in
set_option maxRecDepth 100000 in
theorem rstorm_bad1 : ∃ nf, ∀ {N : Nat} {F : Nat → World → Prop} {m : Bool} {y : Gh Role} {K : Nat} {w : World} {l : List Row} (sh : Nat → Prop) (d wn tn kn : Int) (_ : isTick d = true) (_ : wn < 1) (_ : y.role = .alone sh) (_ : Ctx N F y K w (l)), CJ (S N) m 39 #[.int .i64 d, .int .i64 wn, .int .i64 tn, .int .i64 kn] nf (fun r K' y' w' => r = .tuple #[.agg #[.int .i64 0, .bool false, .int .i64 0, .int .i64 0], .int .i64 1] ∧ Gr y y' ∧ Ctx N F y' K' w' l) K y w := by
  obtain ⟨nt, htick⟩ := rtick_c
  co_apply Exists.intro
  intro N F m y K w l sh d wn tn kn ht q0 hr H
  have hg := Gr.refl y
  have hq : y.role.quiet = false := by rw [hr]; rfl
  have r0 : decide (wn < 1) = true := by simp <;> omega
  co_apply CJ.of_WF Try.func39 (by kernel_rfl) (by rfl)
  simp only [show Try.f39.ntmps = 51 from rfl]
  try walk_nrm
  co_apply WF.seqP
  co_apply WF.region
  try simp only [List.size_toArray, List.length_cons, List.length_nil, Nat.reduceAdd, Nat.zero_add, List.range, List.range.loop]
  co_applyP OF.al rfl (by rfl) H hq (fun _ => run_eq_of ?run) (fun _ => by simp [go_sem, *])
  case run => intro K hK; go_simp; exact hK
  intro K w₁ y' w b8 hK1 hr1 hg1 hq1 hb1 hw1 H1
  replace hg := hg.trans hg1
  replace hr := hg1.role.trans hr
  replace hq := hq1
  replace H := H1
  clear hb1 hw1 hr1 hK1 hg1 hq1 H1
  try walk_nrm
  co_applyP OF.pu rfl (by rfl) (fun _ => run_eq_of ?run) (fun _ => by simp [go_sem, *])
  case run => intro K hK; go_simp; exact hK
  try walk_nrm
  co_apply OF.nil
  try simp only [thenF]
  co_apply WF.seqP (n₂ := 0)
  co_apply WF.seqP
  co_apply WF.region
  try simp only [List.size_toArray, List.length_cons, List.length_nil, Nat.reduceAdd, Nat.zero_add, List.range, List.range.loop]
  co_applyP OF.pu rfl (by rfl) (fun _ => run_eq_of ?run) (fun _ => by simp [go_sem, *])
  case run => intro K hK; go_simp; exact hK
  try walk_nrm
  co_applyP OF.callJ rfl (by rfl) rfl
  · walk_nrm
    exact htick d H hq
  rintro _ K y' w hK1 ⟨rfl, hg1, H1⟩
  replace hg := hg.trans hg1
  replace hr := hg1.role.trans hr
  have hq1 : y'.role.quiet = false := by rw [hr]; rfl
  replace hq := hq1
  replace H := H1
  clear hg1 H1 hq1 hK1
  try walk_nrm
  co_applyP OF.pu rfl (by rfl) (fun _ => run_eq_of ?run) (fun _ => by simp [go_sem, *])
  case run => intro K hK; go_simp; exact hK
  try walk_nrm
  co_applyP OF.pu rfl (by rfl) (fun _ => run_eq_of ?run) (fun _ => by simp [go_sem, *])
  case run => intro K hK; go_simp; exact hK
  try walk_nrm
  first
  | (co_applyP OF.pu rfl (by rfl) (fun _ => run_eq_of ?run) (fun _ => by simp [go_sem, *]); case run => intro K hK; go_simp; exact hK)
  | co_apply OF.unwanted rfl (by rfl)
  try walk_nrm
  first
  | (co_applyP OF.pu rfl (by rfl) (fun _ => run_eq_of ?run) (fun _ => by simp [go_sem, *]); case run => intro K hK; go_simp; exact hK)
  | co_apply OF.unwanted rfl (by rfl)
  try walk_nrm
  co_applyP OF.pu rfl (by rfl) (fun _ => run_eq_of ?run) (fun _ => by simp [go_sem, *])
  case run => intro K hK; go_simp; exact hK
  try walk_nrm
  co_applyP OF.pu rfl (by rfl) (fun _ => run_eq_of ?run) (fun _ => by simp [go_sem, *])
  case run => intro K hK; go_simp; exact hK
  try walk_nrm
  first
  | (co_applyP OF.pu rfl (by rfl) (fun _ => run_eq_of ?run) (fun _ => by simp [go_sem, *]); case run => intro K hK; go_simp; exact hK)
  | co_apply OF.unwanted rfl (by rfl)
  try walk_nrm
  first
  | (co_applyP OF.pu rfl (by rfl) (fun _ => run_eq_of ?run) (fun _ => by simp [go_sem, *]); case run => intro K hK; go_simp; exact hK)
  | co_apply OF.unwanted rfl (by rfl)
  try walk_nrm
  co_applyP OF.pu rfl (by rfl) (fun _ => run_eq_of ?run) (fun _ => by simp [go_sem, *])
  case run => intro K hK; go_simp; exact hK
  try walk_nrm
  co_applyP OF.pu rfl (by rfl) (fun _ => run_eq_of ?run) (fun _ => by simp [go_sem, *])
  case run => intro K hK; go_simp; exact hK
  try walk_nrm
  first
  | (co_applyP OF.pu rfl (by rfl) (fun _ => run_eq_of ?run) (fun _ => by simp [go_sem, *]); case run => intro K hK; go_simp; exact hK)
  | co_apply OF.unwanted rfl (by rfl)
  try walk_nrm
  first
  | (co_applyP OF.pu rfl (by rfl) (fun _ => run_eq_of ?run) (fun _ => by simp [go_sem, *]); case run => intro K hK; go_simp; exact hK)
  | co_apply OF.unwanted rfl (by rfl)
  try walk_nrm
  co_applyP OF.pu rfl (by rfl) (fun _ => run_eq_of ?run) (fun _ => by simp [go_sem, *])
  case run => intro K hK; go_simp; exact hK
  try walk_nrm
  co_applyP OF.pu rfl (by rfl) (fun _ => run_eq_of ?run) (fun _ => by simp [go_sem, *])
  case run => intro K hK; go_simp; exact hK
  try walk_nrm
  first
  | (co_applyP OF.pu rfl (by rfl) (fun _ => run_eq_of ?run) (fun _ => by simp [go_sem, *]); case run => intro K hK; go_simp; exact hK)
  | co_apply OF.unwanted rfl (by rfl)
  try walk_nrm
  first
  | (co_applyP OF.pu rfl (by rfl) (fun _ => run_eq_of ?run) (fun _ => by simp [go_sem, *]); case run => intro K hK; go_simp; exact hK)
  | co_apply OF.unwanted rfl (by rfl)
  try walk_nrm
  co_applyP OF.pu rfl (by rfl) (fun _ => run_eq_of ?run) (fun _ => by simp [go_sem, *])
  case run => intro K hK; go_simp; exact hK
  try walk_nrm
  co_applyP OF.pu rfl (by rfl) (fun _ => run_eq_of ?run) (fun _ => by simp [go_sem, *])
  case run => intro K hK; go_simp; exact hK
  try walk_nrm
  first
  | (co_applyP OF.pu rfl (by rfl) (fun _ => run_eq_of ?run) (fun _ => by simp [go_sem, *]); case run => intro K hK; go_simp; exact hK)
  | co_apply OF.unwanted rfl (by rfl)
  try walk_nrm
  first
  | (co_applyP OF.pu rfl (by rfl) (fun _ => run_eq_of ?run) (fun _ => by simp [go_sem, *]); case run => intro K hK; go_simp; exact hK)
  | co_apply OF.unwanted rfl (by rfl)
  try walk_nrm
  co_applyP OF.pu rfl (by rfl) (fun _ => run_eq_of ?run) (fun _ => by simp [go_sem, *])
  case run => intro K hK; go_simp; exact hK
  try walk_nrm
  co_applyP OF.pu rfl (by rfl) (fun _ => run_eq_of ?run) (fun _ => by simp [go_sem, *])
  case run => intro K hK; go_simp; exact hK
  try walk_nrm
  first
  | (co_applyP OF.pu rfl (by rfl) (fun _ => run_eq_of ?run) (fun _ => by simp [go_sem, *]); case run => intro K hK; go_simp; exact hK)
  | co_apply OF.unwanted rfl (by rfl)
  try walk_nrm
  first
  | (co_applyP OF.pu rfl (by rfl) (fun _ => run_eq_of ?run) (fun _ => by simp [go_sem, *]); case run => intro K hK; go_simp; exact hK)
  | co_apply OF.unwanted rfl (by rfl)
  try walk_nrm
  co_applyP OF.pu rfl (by rfl) (fun _ => run_eq_of ?run) (fun _ => by simp [go_sem, *])
  case run => intro K hK; go_simp; exact hK
  try walk_nrm
  co_apply OF.nil
  try simp only [thenF]
  co_apply WF.cond (t := true) rfl
  simp only [↓reduceIte]
  co_apply WF.seqP
  co_apply WF.region
  try simp only [List.size_toArray, List.length_cons, List.length_nil, Nat.reduceAdd, Nat.zero_add, List.range, List.range.loop]
  co_applyP OF.pu rfl (by rfl) (fun _ => run_eq_of ?run) (fun _ => by simp [go_sem, *])
  case run => intro K hK; go_simp; exact hK
  try walk_nrm
  co_applyP OF.str 0 rfl (by rfl) rfl H hq rfl rfl rfl (by kernel_rfl) (by rfl) (by kernel_rfl)
  intro K w₁ w hK1 hr1 hu1 H1
  replace H := H1
  clear hr1 hK1 hu1 H1
  simp only [List.set_cons_zero] at H
  try walk_nrm
  co_applyP OF.pu rfl (by rfl) (fun _ => run_eq_of ?run) (fun _ => by simp [go_sem, *])
  case run => intro K hK; go_simp; exact hK
  try walk_nrm
  co_apply OF.nil
  try simp only [thenF]
  co_apply WF.ret
  try simp only [thenF]
  exact retG_cell_tmp 0 rfl H hq rfl rfl rfl Try.underlying29 rfl (by kernel_rfl) fun K₁ hK w₁ r H => ⟨rfl, hg, H.tail⟩

set_option maxHeartbeats 8000000 in
set_option maxRecDepth 100000 in
theorem rstorm_bad2 : ∃ nf, ∀ {N : Nat} {F : Nat → World → Prop} {m : Bool} {y : Gh Role} {K : Nat} {w : World} {l : List Row} (sh : Nat → Prop) (d wn tn kn : Int) (_ : isTick d = true) (_ : ¬ wn < 1) (_ : 16 < wn) (_ : y.role = .alone sh) (_ : Ctx N F y K w (l)), CJ (S N) m 39 #[.int .i64 d, .int .i64 wn, .int .i64 tn, .int .i64 kn] nf (fun r K' y' w' => r = .tuple #[.agg #[.int .i64 0, .bool false, .int .i64 0, .int .i64 0], .int .i64 1] ∧ Gr y y' ∧ Ctx N F y' K' w' l) K y w := by
  obtain ⟨nt, htick⟩ := rtick_c
  co_apply Exists.intro
  intro N F m y K w l sh d wn tn kn ht q0 q1 hr H
  have hg := Gr.refl y
  have hq : y.role.quiet = false := by rw [hr]; rfl
  have r0 : decide (wn < 1) = false := by simp <;> omega
  have r1 : decide (wn > 16) = true := by simp <;> omega
  co_apply CJ.of_WF Try.func39 (by kernel_rfl) (by rfl)
  simp only [show Try.f39.ntmps = 51 from rfl]
  try walk_nrm
  co_apply WF.seqP
  co_apply WF.region
  try simp only [List.size_toArray, List.length_cons, List.length_nil, Nat.reduceAdd, Nat.zero_add, List.range, List.range.loop]
  co_applyP OF.al rfl (by rfl) H hq (fun _ => run_eq_of ?run) (fun _ => by simp [go_sem, *])
  case run => intro K hK; go_simp; exact hK
  intro K w₁ y' w b8 hK1 hr1 hg1 hq1 hb1 hw1 H1
  replace hg := hg.trans hg1
  replace hr := hg1.role.trans hr
  replace hq := hq1
  replace H := H1
  clear hb1 hw1 hr1 hK1 hg1 hq1 H1
  try walk_nrm
  co_applyP OF.pu rfl (by rfl) (fun _ => run_eq_of ?run) (fun _ => by simp [go_sem, *])
  case run => intro K hK; go_simp; exact hK
  try walk_nrm
  co_apply OF.nil
  try simp only [thenF]
  co_apply WF.seqP (n₂ := 0)
  co_apply WF.seqP
  co_apply WF.region
  try simp only [List.size_toArray, List.length_cons, List.length_nil, Nat.reduceAdd, Nat.zero_add, List.range, List.range.loop]
  co_applyP OF.pu rfl (by rfl) (fun _ => run_eq_of ?run) (fun _ => by simp [go_sem, *])
  case run => intro K hK; go_simp; exact hK
  try walk_nrm
  co_applyP OF.callJ rfl (by rfl) rfl
  · walk_nrm
    exact htick d H hq
  rintro _ K y' w hK1 ⟨rfl, hg1, H1⟩
  replace hg := hg.trans hg1
  replace hr := hg1.role.trans hr
  have hq1 : y'.role.quiet = false := by rw [hr]; rfl
  replace hq := hq1
  replace H := H1
  clear hg1 H1 hq1 hK1
  try walk_nrm
  co_applyP OF.pu rfl (by rfl) (fun _ => run_eq_of ?run) (fun _ => by simp [go_sem, *])
  case run => intro K hK; go_simp; exact hK
  try walk_nrm
  co_applyP OF.pu rfl (by rfl) (fun _ => run_eq_of ?run) (fun _ => by simp [go_sem, *])
  case run => intro K hK; go_simp; exact hK
  try walk_nrm
  first
  | (co_applyP OF.pu rfl (by rfl) (fun _ => run_eq_of ?run) (fun _ => by simp [go_sem, *]); case run => intro K hK; go_simp; exact hK)
  | co_apply OF.unwanted rfl (by rfl)
  try walk_nrm
  first
  | (co_applyP OF.pu rfl (by rfl) (fun _ => run_eq_of ?run) (fun _ => by simp [go_sem, *]); case run => intro K hK; go_simp; exact hK)
  | co_apply OF.unwanted rfl (by rfl)
  try walk_nrm
  co_applyP OF.pu rfl (by rfl) (fun _ => run_eq_of ?run) (fun _ => by simp [go_sem, *])
  case run => intro K hK; go_simp; exact hK
  try walk_nrm
  co_applyP OF.pu rfl (by rfl) (fun _ => run_eq_of ?run) (fun _ => by simp [go_sem, *])
  case run => intro K hK; go_simp; exact hK
  try walk_nrm
  first
  | (co_applyP OF.pu rfl (by rfl) (fun _ => run_eq_of ?run) (fun _ => by simp [go_sem, *]); case run => intro K hK; go_simp; exact hK)
  | co_apply OF.unwanted rfl (by rfl)
  try walk_nrm
  first
  | (co_applyP OF.pu rfl (by rfl) (fun _ => run_eq_of ?run) (fun _ => by simp [go_sem, *]); case run => intro K hK; go_simp; exact hK)
  | co_apply OF.unwanted rfl (by rfl)
  try walk_nrm
  co_applyP OF.pu rfl (by rfl) (fun _ => run_eq_of ?run) (fun _ => by simp [go_sem, *])
  case run => intro K hK; go_simp; exact hK
  try walk_nrm
  co_applyP OF.pu rfl (by rfl) (fun _ => run_eq_of ?run) (fun _ => by simp [go_sem, *])
  case run => intro K hK; go_simp; exact hK
  try walk_nrm
  first
  | (co_applyP OF.pu rfl (by rfl) (fun _ => run_eq_of ?run) (fun _ => by simp [go_sem, *]); case run => intro K hK; go_simp; exact hK)
  | co_apply OF.unwanted rfl (by rfl)
  try walk_nrm
  first
  | (co_applyP OF.pu rfl (by rfl) (fun _ => run_eq_of ?run) (fun _ => by simp [go_sem, *]); case run => intro K hK; go_simp; exact hK)
  | co_apply OF.unwanted rfl (by rfl)
  try walk_nrm
  co_applyP OF.pu rfl (by rfl) (fun _ => run_eq_of ?run) (fun _ => by simp [go_sem, *])
  case run => intro K hK; go_simp; exact hK
  try walk_nrm
  co_applyP OF.pu rfl (by rfl) (fun _ => run_eq_of ?run) (fun _ => by simp [go_sem, *])
  case run => intro K hK; go_simp; exact hK
  try walk_nrm
  first
  | (co_applyP OF.pu rfl (by rfl) (fun _ => run_eq_of ?run) (fun _ => by simp [go_sem, *]); case run => intro K hK; go_simp; exact hK)
  | co_apply OF.unwanted rfl (by rfl)
  try walk_nrm
  first
  | (co_applyP OF.pu rfl (by rfl) (fun _ => run_eq_of ?run) (fun _ => by simp [go_sem, *]); case run => intro K hK; go_simp; exact hK)
  | co_apply OF.unwanted rfl (by rfl)
  try walk_nrm
  co_applyP OF.pu rfl (by rfl) (fun _ => run_eq_of ?run) (fun _ => by simp [go_sem, *])
  case run => intro K hK; go_simp; exact hK
  try walk_nrm
  co_applyP OF.pu rfl (by rfl) (fun _ => run_eq_of ?run) (fun _ => by simp [go_sem, *])
  case run => intro K hK; go_simp; exact hK
  try walk_nrm
  first
  | (co_applyP OF.pu rfl (by rfl) (fun _ => run_eq_of ?run) (fun _ => by simp [go_sem, *]); case run => intro K hK; go_simp; exact hK)
  | co_apply OF.unwanted rfl (by rfl)
  try walk_nrm
  first
  | (co_applyP OF.pu rfl (by rfl) (fun _ => run_eq_of ?run) (fun _ => by simp [go_sem, *]); case run => intro K hK; go_simp; exact hK)
  | co_apply OF.unwanted rfl (by rfl)
  try walk_nrm
  co_applyP OF.pu rfl (by rfl) (fun _ => run_eq_of ?run) (fun _ => by simp [go_sem, *])
  case run => intro K hK; go_simp; exact hK
  try walk_nrm
  co_applyP OF.pu rfl (by rfl) (fun _ => run_eq_of ?run) (fun _ => by simp [go_sem, *])
  case run => intro K hK; go_simp; exact hK
  try walk_nrm
  first
  | (co_applyP OF.pu rfl (by rfl) (fun _ => run_eq_of ?run) (fun _ => by simp [go_sem, *]); case run => intro K hK; go_simp; exact hK)
  | co_apply OF.unwanted rfl (by rfl)
  try walk_nrm
  first
  | (co_applyP OF.pu rfl (by rfl) (fun _ => run_eq_of ?run) (fun _ => by simp [go_sem, *]); case run => intro K hK; go_simp; exact hK)
  | co_apply OF.unwanted rfl (by rfl)
  try walk_nrm
  co_applyP OF.pu rfl (by rfl) (fun _ => run_eq_of ?run) (fun _ => by simp [go_sem, *])
  case run => intro K hK; go_simp; exact hK
  try walk_nrm
  co_apply OF.nil
  try simp only [thenF]
  co_apply WF.cond (t := true) rfl
  simp only [↓reduceIte]
  co_apply WF.seqP
  co_apply WF.region
  try simp only [List.size_toArray, List.length_cons, List.length_nil, Nat.reduceAdd, Nat.zero_add, List.range, List.range.loop]
  co_applyP OF.pu rfl (by rfl) (fun _ => run_eq_of ?run) (fun _ => by simp [go_sem, *])
  case run => intro K hK; go_simp; exact hK
  try walk_nrm
  co_applyP OF.str 0 rfl (by rfl) rfl H hq rfl rfl rfl (by kernel_rfl) (by rfl) (by kernel_rfl)
  intro K w₁ w hK1 hr1 hu1 H1
  replace H := H1
  clear hr1 hK1 hu1 H1
  simp only [List.set_cons_zero] at H
  try walk_nrm
  co_applyP OF.pu rfl (by rfl) (fun _ => run_eq_of ?run) (fun _ => by simp [go_sem, *])
  case run => intro K hK; go_simp; exact hK
  try walk_nrm
  co_apply OF.nil
  try simp only [thenF]
  co_apply WF.ret
  try simp only [thenF]
  exact retG_cell_tmp 0 rfl H hq rfl rfl rfl Try.underlying29 rfl (by kernel_rfl) fun K₁ hK w₁ r H => ⟨rfl, hg, H.tail⟩

set_option maxHeartbeats 8000000 in
set_option maxRecDepth 100000 in
theorem rstorm_bad3 : ∃ nf, ∀ {N : Nat} {F : Nat → World → Prop} {m : Bool} {y : Gh Role} {K : Nat} {w : World} {l : List Row} (sh : Nat → Prop) (d wn tn kn : Int) (_ : isTick d = true) (_ : ¬ wn < 1) (_ : ¬ 16 < wn) (_ : tn < 0) (_ : y.role = .alone sh) (_ : Ctx N F y K w (l)), CJ (S N) m 39 #[.int .i64 d, .int .i64 wn, .int .i64 tn, .int .i64 kn] nf (fun r K' y' w' => r = .tuple #[.agg #[.int .i64 0, .bool false, .int .i64 0, .int .i64 0], .int .i64 1] ∧ Gr y y' ∧ Ctx N F y' K' w' l) K y w := by
  obtain ⟨nt, htick⟩ := rtick_c
  co_apply Exists.intro
  intro N F m y K w l sh d wn tn kn ht q0 q1 q2 hr H
  have hg := Gr.refl y
  have hq : y.role.quiet = false := by rw [hr]; rfl
  have r0 : decide (wn < 1) = false := by simp <;> omega
  have r1 : decide (wn > 16) = false := by simp <;> omega
  have r2 : decide (tn < 0) = true := by simp <;> omega
  co_apply CJ.of_WF Try.func39 (by kernel_rfl) (by rfl)
  simp only [show Try.f39.ntmps = 51 from rfl]
  try walk_nrm
  co_apply WF.seqP
  co_apply WF.region
  try simp only [List.size_toArray, List.length_cons, List.length_nil, Nat.reduceAdd, Nat.zero_add, List.range, List.range.loop]
  co_applyP OF.al rfl (by rfl) H hq (fun _ => run_eq_of ?run) (fun _ => by simp [go_sem, *])
  case run => intro K hK; go_simp; exact hK
  intro K w₁ y' w b8 hK1 hr1 hg1 hq1 hb1 hw1 H1
  replace hg := hg.trans hg1
  replace hr := hg1.role.trans hr
  replace hq := hq1
  replace H := H1
  clear hb1 hw1 hr1 hK1 hg1 hq1 H1
  try walk_nrm
  co_applyP OF.pu rfl (by rfl) (fun _ => run_eq_of ?run) (fun _ => by simp [go_sem, *])
  case run => intro K hK; go_simp; exact hK
  try walk_nrm
  co_apply OF.nil
  try simp only [thenF]
  co_apply WF.seqP (n₂ := 0)
  co_apply WF.seqP
  co_apply WF.region
  try simp only [List.size_toArray, List.length_cons, List.length_nil, Nat.reduceAdd, Nat.zero_add, List.range, List.range.loop]
  co_applyP OF.pu rfl (by rfl) (fun _ => run_eq_of ?run) (fun _ => by simp [go_sem, *])
  case run => intro K hK; go_simp; exact hK
  try walk_nrm
  co_applyP OF.callJ rfl (by rfl) rfl
  · walk_nrm
    exact htick d H hq
  rintro _ K y' w hK1 ⟨rfl, hg1, H1⟩
  replace hg := hg.trans hg1
  replace hr := hg1.role.trans hr
  have hq1 : y'.role.quiet = false := by rw [hr]; rfl
  replace hq := hq1
  replace H := H1
  clear hg1 H1 hq1 hK1
  try walk_nrm
  co_applyP OF.pu rfl (by rfl) (fun _ => run_eq_of ?run) (fun _ => by simp [go_sem, *])
  case run => intro K hK; go_simp; exact hK
  try walk_nrm
  co_applyP OF.pu rfl (by rfl) (fun _ => run_eq_of ?run) (fun _ => by simp [go_sem, *])
  case run => intro K hK; go_simp; exact hK
  try walk_nrm
  first
  | (co_applyP OF.pu rfl (by rfl) (fun _ => run_eq_of ?run) (fun _ => by simp [go_sem, *]); case run => intro K hK; go_simp; exact hK)
  | co_apply OF.unwanted rfl (by rfl)
  try walk_nrm
  first
  | (co_applyP OF.pu rfl (by rfl) (fun _ => run_eq_of ?run) (fun _ => by simp [go_sem, *]); case run => intro K hK; go_simp; exact hK)
  | co_apply OF.unwanted rfl (by rfl)
  try walk_nrm
  co_applyP OF.pu rfl (by rfl) (fun _ => run_eq_of ?run) (fun _ => by simp [go_sem, *])
  case run => intro K hK; go_simp; exact hK
  try walk_nrm
  co_applyP OF.pu rfl (by rfl) (fun _ => run_eq_of ?run) (fun _ => by simp [go_sem, *])
  case run => intro K hK; go_simp; exact hK
  try walk_nrm
  first
  | (co_applyP OF.pu rfl (by rfl) (fun _ => run_eq_of ?run) (fun _ => by simp [go_sem, *]); case run => intro K hK; go_simp; exact hK)
  | co_apply OF.unwanted rfl (by rfl)
  try walk_nrm
  first
  | (co_applyP OF.pu rfl (by rfl) (fun _ => run_eq_of ?run) (fun _ => by simp [go_sem, *]); case run => intro K hK; go_simp; exact hK)
  | co_apply OF.unwanted rfl (by rfl)
  try walk_nrm
  co_applyP OF.pu rfl (by rfl) (fun _ => run_eq_of ?run) (fun _ => by simp [go_sem, *])
  case run => intro K hK; go_simp; exact hK
  try walk_nrm
  co_applyP OF.pu rfl (by rfl) (fun _ => run_eq_of ?run) (fun _ => by simp [go_sem, *])
  case run => intro K hK; go_simp; exact hK
  try walk_nrm
  first
  | (co_applyP OF.pu rfl (by rfl) (fun _ => run_eq_of ?run) (fun _ => by simp [go_sem, *]); case run => intro K hK; go_simp; exact hK)
  | co_apply OF.unwanted rfl (by rfl)
  try walk_nrm
  first
  | (co_applyP OF.pu rfl (by rfl) (fun _ => run_eq_of ?run) (fun _ => by simp [go_sem, *]); case run => intro K hK; go_simp; exact hK)
  | co_apply OF.unwanted rfl (by rfl)
  try walk_nrm
  co_applyP OF.pu rfl (by rfl) (fun _ => run_eq_of ?run) (fun _ => by simp [go_sem, *])
  case run => intro K hK; go_simp; exact hK
  try walk_nrm
  co_applyP OF.pu rfl (by rfl) (fun _ => run_eq_of ?run) (fun _ => by simp [go_sem, *])
  case run => intro K hK; go_simp; exact hK
  try walk_nrm
  first
  | (co_applyP OF.pu rfl (by rfl) (fun _ => run_eq_of ?run) (fun _ => by simp [go_sem, *]); case run => intro K hK; go_simp; exact hK)
  | co_apply OF.unwanted rfl (by rfl)
  try walk_nrm
  first
  | (co_applyP OF.pu rfl (by rfl) (fun _ => run_eq_of ?run) (fun _ => by simp [go_sem, *]); case run => intro K hK; go_simp; exact hK)
  | co_apply OF.unwanted rfl (by rfl)
  try walk_nrm
  co_applyP OF.pu rfl (by rfl) (fun _ => run_eq_of ?run) (fun _ => by simp [go_sem, *])
  case run => intro K hK; go_simp; exact hK
  try walk_nrm
  co_applyP OF.pu rfl (by rfl) (fun _ => run_eq_of ?run) (fun _ => by simp [go_sem, *])
  case run => intro K hK; go_simp; exact hK
  try walk_nrm
  first
  | (co_applyP OF.pu rfl (by rfl) (fun _ => run_eq_of ?run) (fun _ => by simp [go_sem, *]); case run => intro K hK; go_simp; exact hK)
  | co_apply OF.unwanted rfl (by rfl)
  try walk_nrm
  first
  | (co_applyP OF.pu rfl (by rfl) (fun _ => run_eq_of ?run) (fun _ => by simp [go_sem, *]); case run => intro K hK; go_simp; exact hK)
  | co_apply OF.unwanted rfl (by rfl)
  try walk_nrm
  co_applyP OF.pu rfl (by rfl) (fun _ => run_eq_of ?run) (fun _ => by simp [go_sem, *])
  case run => intro K hK; go_simp; exact hK
  try walk_nrm
  co_applyP OF.pu rfl (by rfl) (fun _ => run_eq_of ?run) (fun _ => by simp [go_sem, *])
  case run => intro K hK; go_simp; exact hK
  try walk_nrm
  first
  | (co_applyP OF.pu rfl (by rfl) (fun _ => run_eq_of ?run) (fun _ => by simp [go_sem, *]); case run => intro K hK; go_simp; exact hK)
  | co_apply OF.unwanted rfl (by rfl)
  try walk_nrm
  first
  | (co_applyP OF.pu rfl (by rfl) (fun _ => run_eq_of ?run) (fun _ => by simp [go_sem, *]); case run => intro K hK; go_simp; exact hK)
  | co_apply OF.unwanted rfl (by rfl)
  try walk_nrm
  co_applyP OF.pu rfl (by rfl) (fun _ => run_eq_of ?run) (fun _ => by simp [go_sem, *])
  case run => intro K hK; go_simp; exact hK
  try walk_nrm
  co_apply OF.nil
  try simp only [thenF]
  co_apply WF.cond (t := true) rfl
  simp only [↓reduceIte]
  co_apply WF.seqP
  co_apply WF.region
  try simp only [List.size_toArray, List.length_cons, List.length_nil, Nat.reduceAdd, Nat.zero_add, List.range, List.range.loop]
  co_applyP OF.pu rfl (by rfl) (fun _ => run_eq_of ?run) (fun _ => by simp [go_sem, *])
  case run => intro K hK; go_simp; exact hK
  try walk_nrm
  co_applyP OF.str 0 rfl (by rfl) rfl H hq rfl rfl rfl (by kernel_rfl) (by rfl) (by kernel_rfl)
  intro K w₁ w hK1 hr1 hu1 H1
  replace H := H1
  clear hr1 hK1 hu1 H1
  simp only [List.set_cons_zero] at H
  try walk_nrm
  co_applyP OF.pu rfl (by rfl) (fun _ => run_eq_of ?run) (fun _ => by simp [go_sem, *])
  case run => intro K hK; go_simp; exact hK
  try walk_nrm
  co_apply OF.nil
  try simp only [thenF]
  co_apply WF.ret
  try simp only [thenF]
  exact retG_cell_tmp 0 rfl H hq rfl rfl rfl Try.underlying29 rfl (by kernel_rfl) fun K₁ hK w₁ r H => ⟨rfl, hg, H.tail⟩

set_option maxHeartbeats 8000000 in
set_option maxRecDepth 100000 in
theorem rstorm_bad4 : ∃ nf, ∀ {N : Nat} {F : Nat → World → Prop} {m : Bool} {y : Gh Role} {K : Nat} {w : World} {l : List Row} (sh : Nat → Prop) (d wn tn kn : Int) (_ : isTick d = true) (_ : ¬ wn < 1) (_ : ¬ 16 < wn) (_ : ¬ tn < 0) (_ : 10000 < tn) (_ : y.role = .alone sh) (_ : Ctx N F y K w (l)), CJ (S N) m 39 #[.int .i64 d, .int .i64 wn, .int .i64 tn, .int .i64 kn] nf (fun r K' y' w' => r = .tuple #[.agg #[.int .i64 0, .bool false, .int .i64 0, .int .i64 0], .int .i64 1] ∧ Gr y y' ∧ Ctx N F y' K' w' l) K y w := by
  obtain ⟨nt, htick⟩ := rtick_c
  co_apply Exists.intro
  intro N F m y K w l sh d wn tn kn ht q0 q1 q2 q3 hr H
  have hg := Gr.refl y
  have hq : y.role.quiet = false := by rw [hr]; rfl
  have r0 : decide (wn < 1) = false := by simp <;> omega
  have r1 : decide (wn > 16) = false := by simp <;> omega
  have r2 : decide (tn < 0) = false := by simp <;> omega
  have r3 : decide (tn > 10000) = true := by simp <;> omega
  co_apply CJ.of_WF Try.func39 (by kernel_rfl) (by rfl)
  simp only [show Try.f39.ntmps = 51 from rfl]
  try walk_nrm
  co_apply WF.seqP
  co_apply WF.region
  try simp only [List.size_toArray, List.length_cons, List.length_nil, Nat.reduceAdd, Nat.zero_add, List.range, List.range.loop]
  co_applyP OF.al rfl (by rfl) H hq (fun _ => run_eq_of ?run) (fun _ => by simp [go_sem, *])
  case run => intro K hK; go_simp; exact hK
  intro K w₁ y' w b8 hK1 hr1 hg1 hq1 hb1 hw1 H1
  replace hg := hg.trans hg1
  replace hr := hg1.role.trans hr
  replace hq := hq1
  replace H := H1
  clear hb1 hw1 hr1 hK1 hg1 hq1 H1
  try walk_nrm
  co_applyP OF.pu rfl (by rfl) (fun _ => run_eq_of ?run) (fun _ => by simp [go_sem, *])
  case run => intro K hK; go_simp; exact hK
  try walk_nrm
  co_apply OF.nil
  try simp only [thenF]
  co_apply WF.seqP (n₂ := 0)
  co_apply WF.seqP
  co_apply WF.region
  try simp only [List.size_toArray, List.length_cons, List.length_nil, Nat.reduceAdd, Nat.zero_add, List.range, List.range.loop]
  co_applyP OF.pu rfl (by rfl) (fun _ => run_eq_of ?run) (fun _ => by simp [go_sem, *])
  case run => intro K hK; go_simp; exact hK
  try walk_nrm
  co_applyP OF.callJ rfl (by rfl) rfl
  · walk_nrm
    exact htick d H hq
  rintro _ K y' w hK1 ⟨rfl, hg1, H1⟩
  replace hg := hg.trans hg1
  replace hr := hg1.role.trans hr
  have hq1 : y'.role.quiet = false := by rw [hr]; rfl
  replace hq := hq1
  replace H := H1
  clear hg1 H1 hq1 hK1
  try walk_nrm
  co_applyP OF.pu rfl (by rfl) (fun _ => run_eq_of ?run) (fun _ => by simp [go_sem, *])
  case run => intro K hK; go_simp; exact hK
  try walk_nrm
  co_applyP OF.pu rfl (by rfl) (fun _ => run_eq_of ?run) (fun _ => by simp [go_sem, *])
  case run => intro K hK; go_simp; exact hK
  try walk_nrm
  first
  | (co_applyP OF.pu rfl (by rfl) (fun _ => run_eq_of ?run) (fun _ => by simp [go_sem, *]); case run => intro K hK; go_simp; exact hK)
  | co_apply OF.unwanted rfl (by rfl)
  try walk_nrm
  first
  | (co_applyP OF.pu rfl (by rfl) (fun _ => run_eq_of ?run) (fun _ => by simp [go_sem, *]); case run => intro K hK; go_simp; exact hK)
  | co_apply OF.unwanted rfl (by rfl)
  try walk_nrm
  co_applyP OF.pu rfl (by rfl) (fun _ => run_eq_of ?run) (fun _ => by simp [go_sem, *])
  case run => intro K hK; go_simp; exact hK
  try walk_nrm
  co_applyP OF.pu rfl (by rfl) (fun _ => run_eq_of ?run) (fun _ => by simp [go_sem, *])
  case run => intro K hK; go_simp; exact hK
  try walk_nrm
  first
  | (co_applyP OF.pu rfl (by rfl) (fun _ => run_eq_of ?run) (fun _ => by simp [go_sem, *]); case run => intro K hK; go_simp; exact hK)
  | co_apply OF.unwanted rfl (by rfl)
  try walk_nrm
  first
  | (co_applyP OF.pu rfl (by rfl) (fun _ => run_eq_of ?run) (fun _ => by simp [go_sem, *]); case run => intro K hK; go_simp; exact hK)
  | co_apply OF.unwanted rfl (by rfl)
  try walk_nrm
  co_applyP OF.pu rfl (by rfl) (fun _ => run_eq_of ?run) (fun _ => by simp [go_sem, *])
  case run => intro K hK; go_simp; exact hK
  try walk_nrm
  co_applyP OF.pu rfl (by rfl) (fun _ => run_eq_of ?run) (fun _ => by simp [go_sem, *])
  case run => intro K hK; go_simp; exact hK
  try walk_nrm
  first
  | (co_applyP OF.pu rfl (by rfl) (fun _ => run_eq_of ?run) (fun _ => by simp [go_sem, *]); case run => intro K hK; go_simp; exact hK)
  | co_apply OF.unwanted rfl (by rfl)
  try walk_nrm
  first
  | (co_applyP OF.pu rfl (by rfl) (fun _ => run_eq_of ?run) (fun _ => by simp [go_sem, *]); case run => intro K hK; go_simp; exact hK)
  | co_apply OF.unwanted rfl (by rfl)
  try walk_nrm
  co_applyP OF.pu rfl (by rfl) (fun _ => run_eq_of ?run) (fun _ => by simp [go_sem, *])
  case run => intro K hK; go_simp; exact hK
  try walk_nrm
  co_applyP OF.pu rfl (by rfl) (fun _ => run_eq_of ?run) (fun _ => by simp [go_sem, *])
  case run => intro K hK; go_simp; exact hK
  try walk_nrm
  first
  | (co_applyP OF.pu rfl (by rfl) (fun _ => run_eq_of ?run) (fun _ => by simp [go_sem, *]); case run => intro K hK; go_simp; exact hK)
  | co_apply OF.unwanted rfl (by rfl)
  try walk_nrm
  first
  | (co_applyP OF.pu rfl (by rfl) (fun _ => run_eq_of ?run) (fun _ => by simp [go_sem, *]); case run => intro K hK; go_simp; exact hK)
  | co_apply OF.unwanted rfl (by rfl)
  try walk_nrm
  co_applyP OF.pu rfl (by rfl) (fun _ => run_eq_of ?run) (fun _ => by simp [go_sem, *])
  case run => intro K hK; go_simp; exact hK
  try walk_nrm
  co_applyP OF.pu rfl (by rfl) (fun _ => run_eq_of ?run) (fun _ => by simp [go_sem, *])
  case run => intro K hK; go_simp; exact hK
  try walk_nrm
  first
  | (co_applyP OF.pu rfl (by rfl) (fun _ => run_eq_of ?run) (fun _ => by simp [go_sem, *]); case run => intro K hK; go_simp; exact hK)
  | co_apply OF.unwanted rfl (by rfl)
  try walk_nrm
  first
  | (co_applyP OF.pu rfl (by rfl) (fun _ => run_eq_of ?run) (fun _ => by simp [go_sem, *]); case run => intro K hK; go_simp; exact hK)
  | co_apply OF.unwanted rfl (by rfl)
  try walk_nrm
  co_applyP OF.pu rfl (by rfl) (fun _ => run_eq_of ?run) (fun _ => by simp [go_sem, *])
  case run => intro K hK; go_simp; exact hK
  try walk_nrm
  co_applyP OF.pu rfl (by rfl) (fun _ => run_eq_of ?run) (fun _ => by simp [go_sem, *])
  case run => intro K hK; go_simp; exact hK
  try walk_nrm
  first
  | (co_applyP OF.pu rfl (by rfl) (fun _ => run_eq_of ?run) (fun _ => by simp [go_sem, *]); case run => intro K hK; go_simp; exact hK)
  | co_apply OF.unwanted rfl (by rfl)
  try walk_nrm
  first
  | (co_applyP OF.pu rfl (by rfl) (fun _ => run_eq_of ?run) (fun _ => by simp [go_sem, *]); case run => intro K hK; go_simp; exact hK)
  | co_apply OF.unwanted rfl (by rfl)
  try walk_nrm
  co_applyP OF.pu rfl (by rfl) (fun _ => run_eq_of ?run) (fun _ => by simp [go_sem, *])
  case run => intro K hK; go_simp; exact hK
  try walk_nrm
  co_apply OF.nil
  try simp only [thenF]
  co_apply WF.cond (t := true) rfl
  simp only [↓reduceIte]
  co_apply WF.seqP
  co_apply WF.region
  try simp only [List.size_toArray, List.length_cons, List.length_nil, Nat.reduceAdd, Nat.zero_add, List.range, List.range.loop]
  co_applyP OF.pu rfl (by rfl) (fun _ => run_eq_of ?run) (fun _ => by simp [go_sem, *])
  case run => intro K hK; go_simp; exact hK
  try walk_nrm
  co_applyP OF.str 0 rfl (by rfl) rfl H hq rfl rfl rfl (by kernel_rfl) (by rfl) (by kernel_rfl)
  intro K w₁ w hK1 hr1 hu1 H1
  replace H := H1
  clear hr1 hK1 hu1 H1
  simp only [List.set_cons_zero] at H
  try walk_nrm
  co_applyP OF.pu rfl (by rfl) (fun _ => run_eq_of ?run) (fun _ => by simp [go_sem, *])
  case run => intro K hK; go_simp; exact hK
  try walk_nrm
  co_apply OF.nil
  try simp only [thenF]
  co_apply WF.ret
  try simp only [thenF]
  exact retG_cell_tmp 0 rfl H hq rfl rfl rfl Try.underlying29 rfl (by kernel_rfl) fun K₁ hK w₁ r H => ⟨rfl, hg, H.tail⟩

set_option maxHeartbeats 8000000 in
set_option maxRecDepth 100000 in
theorem rstorm_bad5 : ∃ nf, ∀ {N : Nat} {F : Nat → World → Prop} {m : Bool} {y : Gh Role} {K : Nat} {w : World} {l : List Row} (sh : Nat → Prop) (d wn tn kn : Int) (_ : isTick d = true) (_ : ¬ wn < 1) (_ : ¬ 16 < wn) (_ : ¬ tn < 0) (_ : ¬ 10000 < tn) (_ : kn < 0) (_ : y.role = .alone sh) (_ : Ctx N F y K w (l)), CJ (S N) m 39 #[.int .i64 d, .int .i64 wn, .int .i64 tn, .int .i64 kn] nf (fun r K' y' w' => r = .tuple #[.agg #[.int .i64 0, .bool false, .int .i64 0, .int .i64 0], .int .i64 1] ∧ Gr y y' ∧ Ctx N F y' K' w' l) K y w := by
  obtain ⟨nt, htick⟩ := rtick_c
  co_apply Exists.intro
  intro N F m y K w l sh d wn tn kn ht q0 q1 q2 q3 q4 hr H
  have hg := Gr.refl y
  have hq : y.role.quiet = false := by rw [hr]; rfl
  have r0 : decide (wn < 1) = false := by simp <;> omega
  have r1 : decide (wn > 16) = false := by simp <;> omega
  have r2 : decide (tn < 0) = false := by simp <;> omega
  have r3 : decide (tn > 10000) = false := by simp <;> omega
  have r4 : decide (kn < 0) = true := by simp <;> omega
  co_apply CJ.of_WF Try.func39 (by kernel_rfl) (by rfl)
  simp only [show Try.f39.ntmps = 51 from rfl]
  try walk_nrm
  co_apply WF.seqP
  co_apply WF.region
  try simp only [List.size_toArray, List.length_cons, List.length_nil, Nat.reduceAdd, Nat.zero_add, List.range, List.range.loop]
  co_applyP OF.al rfl (by rfl) H hq (fun _ => run_eq_of ?run) (fun _ => by simp [go_sem, *])
  case run => intro K hK; go_simp; exact hK
  intro K w₁ y' w b8 hK1 hr1 hg1 hq1 hb1 hw1 H1
  replace hg := hg.trans hg1
  replace hr := hg1.role.trans hr
  replace hq := hq1
  replace H := H1
  clear hb1 hw1 hr1 hK1 hg1 hq1 H1
  try walk_nrm
  co_applyP OF.pu rfl (by rfl) (fun _ => run_eq_of ?run) (fun _ => by simp [go_sem, *])
  case run => intro K hK; go_simp; exact hK
  try walk_nrm
  co_apply OF.nil
  try simp only [thenF]
  co_apply WF.seqP (n₂ := 0)
  co_apply WF.seqP
  co_apply WF.region
  try simp only [List.size_toArray, List.length_cons, List.length_nil, Nat.reduceAdd, Nat.zero_add, List.range, List.range.loop]
  co_applyP OF.pu rfl (by rfl) (fun _ => run_eq_of ?run) (fun _ => by simp [go_sem, *])
  case run => intro K hK; go_simp; exact hK
  try walk_nrm
  co_applyP OF.callJ rfl (by rfl) rfl
  · walk_nrm
    exact htick d H hq
  rintro _ K y' w hK1 ⟨rfl, hg1, H1⟩
  replace hg := hg.trans hg1
  replace hr := hg1.role.trans hr
  have hq1 : y'.role.quiet = false := by rw [hr]; rfl
  replace hq := hq1
  replace H := H1
  clear hg1 H1 hq1 hK1
  try walk_nrm
  co_applyP OF.pu rfl (by rfl) (fun _ => run_eq_of ?run) (fun _ => by simp [go_sem, *])
  case run => intro K hK; go_simp; exact hK
  try walk_nrm
  co_applyP OF.pu rfl (by rfl) (fun _ => run_eq_of ?run) (fun _ => by simp [go_sem, *])
  case run => intro K hK; go_simp; exact hK
  try walk_nrm
  first
  | (co_applyP OF.pu rfl (by rfl) (fun _ => run_eq_of ?run) (fun _ => by simp [go_sem, *]); case run => intro K hK; go_simp; exact hK)
  | co_apply OF.unwanted rfl (by rfl)
  try walk_nrm
  first
  | (co_applyP OF.pu rfl (by rfl) (fun _ => run_eq_of ?run) (fun _ => by simp [go_sem, *]); case run => intro K hK; go_simp; exact hK)
  | co_apply OF.unwanted rfl (by rfl)
  try walk_nrm
  co_applyP OF.pu rfl (by rfl) (fun _ => run_eq_of ?run) (fun _ => by simp [go_sem, *])
  case run => intro K hK; go_simp; exact hK
  try walk_nrm
  co_applyP OF.pu rfl (by rfl) (fun _ => run_eq_of ?run) (fun _ => by simp [go_sem, *])
  case run => intro K hK; go_simp; exact hK
  try walk_nrm
  first
  | (co_applyP OF.pu rfl (by rfl) (fun _ => run_eq_of ?run) (fun _ => by simp [go_sem, *]); case run => intro K hK; go_simp; exact hK)
  | co_apply OF.unwanted rfl (by rfl)
  try walk_nrm
  first
  | (co_applyP OF.pu rfl (by rfl) (fun _ => run_eq_of ?run) (fun _ => by simp [go_sem, *]); case run => intro K hK; go_simp; exact hK)
  | co_apply OF.unwanted rfl (by rfl)
  try walk_nrm
  co_applyP OF.pu rfl (by rfl) (fun _ => run_eq_of ?run) (fun _ => by simp [go_sem, *])
  case run => intro K hK; go_simp; exact hK
  try walk_nrm
  co_applyP OF.pu rfl (by rfl) (fun _ => run_eq_of ?run) (fun _ => by simp [go_sem, *])
  case run => intro K hK; go_simp; exact hK
  try walk_nrm
  first
  | (co_applyP OF.pu rfl (by rfl) (fun _ => run_eq_of ?run) (fun _ => by simp [go_sem, *]); case run => intro K hK; go_simp; exact hK)
  | co_apply OF.unwanted rfl (by rfl)
  try walk_nrm
  first
  | (co_applyP OF.pu rfl (by rfl) (fun _ => run_eq_of ?run) (fun _ => by simp [go_sem, *]); case run => intro K hK; go_simp; exact hK)
  | co_apply OF.unwanted rfl (by rfl)
  try walk_nrm
  co_applyP OF.pu rfl (by rfl) (fun _ => run_eq_of ?run) (fun _ => by simp [go_sem, *])
  case run => intro K hK; go_simp; exact hK
  try walk_nrm
  co_applyP OF.pu rfl (by rfl) (fun _ => run_eq_of ?run) (fun _ => by simp [go_sem, *])
  case run => intro K hK; go_simp; exact hK
  try walk_nrm
  first
  | (co_applyP OF.pu rfl (by rfl) (fun _ => run_eq_of ?run) (fun _ => by simp [go_sem, *]); case run => intro K hK; go_simp; exact hK)
  | co_apply OF.unwanted rfl (by rfl)
  try walk_nrm
  first
  | (co_applyP OF.pu rfl (by rfl) (fun _ => run_eq_of ?run) (fun _ => by simp [go_sem, *]); case run => intro K hK; go_simp; exact hK)
  | co_apply OF.unwanted rfl (by rfl)
  try walk_nrm
  co_applyP OF.pu rfl (by rfl) (fun _ => run_eq_of ?run) (fun _ => by simp [go_sem, *])
  case run => intro K hK; go_simp; exact hK
  try walk_nrm
  co_applyP OF.pu rfl (by rfl) (fun _ => run_eq_of ?run) (fun _ => by simp [go_sem, *])
  case run => intro K hK; go_simp; exact hK
  try walk_nrm
  first
  | (co_applyP OF.pu rfl (by rfl) (fun _ => run_eq_of ?run) (fun _ => by simp [go_sem, *]); case run => intro K hK; go_simp; exact hK)
  | co_apply OF.unwanted rfl (by rfl)
  try walk_nrm
  first
  | (co_applyP OF.pu rfl (by rfl) (fun _ => run_eq_of ?run) (fun _ => by simp [go_sem, *]); case run => intro K hK; go_simp; exact hK)
  | co_apply OF.unwanted rfl (by rfl)
  try walk_nrm
  co_applyP OF.pu rfl (by rfl) (fun _ => run_eq_of ?run) (fun _ => by simp [go_sem, *])
  case run => intro K hK; go_simp; exact hK
  try walk_nrm
  co_applyP OF.pu rfl (by rfl) (fun _ => run_eq_of ?run) (fun _ => by simp [go_sem, *])
  case run => intro K hK; go_simp; exact hK
  try walk_nrm
  first
  | (co_applyP OF.pu rfl (by rfl) (fun _ => run_eq_of ?run) (fun _ => by simp [go_sem, *]); case run => intro K hK; go_simp; exact hK)
  | co_apply OF.unwanted rfl (by rfl)
  try walk_nrm
  first
  | (co_applyP OF.pu rfl (by rfl) (fun _ => run_eq_of ?run) (fun _ => by simp [go_sem, *]); case run => intro K hK; go_simp; exact hK)
  | co_apply OF.unwanted rfl (by rfl)
  try walk_nrm
  co_applyP OF.pu rfl (by rfl) (fun _ => run_eq_of ?run) (fun _ => by simp [go_sem, *])
  case run => intro K hK; go_simp; exact hK
  try walk_nrm
  co_apply OF.nil
  try simp only [thenF]
  co_apply WF.cond (t := true) rfl
  simp only [↓reduceIte]
  co_apply WF.seqP
  co_apply WF.region
  try simp only [List.size_toArray, List.length_cons, List.length_nil, Nat.reduceAdd, Nat.zero_add, List.range, List.range.loop]
  co_applyP OF.pu rfl (by rfl) (fun _ => run_eq_of ?run) (fun _ => by simp [go_sem, *])
  case run => intro K hK; go_simp; exact hK
  try walk_nrm
  co_applyP OF.str 0 rfl (by rfl) rfl H hq rfl rfl rfl (by kernel_rfl) (by rfl) (by kernel_rfl)
  intro K w₁ w hK1 hr1 hu1 H1
  replace H := H1
  clear hr1 hK1 hu1 H1
  simp only [List.set_cons_zero] at H
  try walk_nrm
  co_applyP OF.pu rfl (by rfl) (fun _ => run_eq_of ?run) (fun _ => by simp [go_sem, *])
  case run => intro K hK; go_simp; exact hK
  try walk_nrm
  co_apply OF.nil
  try simp only [thenF]
  co_apply WF.ret
  try simp only [thenF]
  exact retG_cell_tmp 0 rfl H hq rfl rfl rfl Try.underlying29 rfl (by kernel_rfl) fun K₁ hK w₁ r H => ⟨rfl, hg, H.tail⟩

set_option maxHeartbeats 8000000 in
set_option maxRecDepth 100000 in
theorem rstorm_bad6 : ∃ nf, ∀ {N : Nat} {F : Nat → World → Prop} {m : Bool} {y : Gh Role} {K : Nat} {w : World} {l : List Row} (sh : Nat → Prop) (d wn tn kn : Int) (_ : isTick d = true) (_ : ¬ wn < 1) (_ : ¬ 16 < wn) (_ : ¬ tn < 0) (_ : ¬ 10000 < tn) (_ : ¬ kn < 0) (_ : 1000 < kn) (_ : y.role = .alone sh) (_ : Ctx N F y K w (l)), CJ (S N) m 39 #[.int .i64 d, .int .i64 wn, .int .i64 tn, .int .i64 kn] nf (fun r K' y' w' => r = .tuple #[.agg #[.int .i64 0, .bool false, .int .i64 0, .int .i64 0], .int .i64 1] ∧ Gr y y' ∧ Ctx N F y' K' w' l) K y w := by
  obtain ⟨nt, htick⟩ := rtick_c
  co_apply Exists.intro
  intro N F m y K w l sh d wn tn kn ht q0 q1 q2 q3 q4 q5 hr H
  have hg := Gr.refl y
  have hq : y.role.quiet = false := by rw [hr]; rfl
  have r0 : decide (wn < 1) = false := by simp <;> omega
  have r1 : decide (wn > 16) = false := by simp <;> omega
  have r2 : decide (tn < 0) = false := by simp <;> omega
  have r3 : decide (tn > 10000) = false := by simp <;> omega
  have r4 : decide (kn < 0) = false := by simp <;> omega
  have r5 : decide (kn > 1000) = true := by simp <;> omega
  co_apply CJ.of_WF Try.func39 (by kernel_rfl) (by rfl)
  simp only [show Try.f39.ntmps = 51 from rfl]
  try walk_nrm
  co_apply WF.seqP
  co_apply WF.region
  try simp only [List.size_toArray, List.length_cons, List.length_nil, Nat.reduceAdd, Nat.zero_add, List.range, List.range.loop]
  co_applyP OF.al rfl (by rfl) H hq (fun _ => run_eq_of ?run) (fun _ => by simp [go_sem, *])
  case run => intro K hK; go_simp; exact hK
  intro K w₁ y' w b8 hK1 hr1 hg1 hq1 hb1 hw1 H1
  replace hg := hg.trans hg1
  replace hr := hg1.role.trans hr
  replace hq := hq1
  replace H := H1
  clear hb1 hw1 hr1 hK1 hg1 hq1 H1
  try walk_nrm
  co_applyP OF.pu rfl (by rfl) (fun _ => run_eq_of ?run) (fun _ => by simp [go_sem, *])
  case run => intro K hK; go_simp; exact hK
  try walk_nrm
  co_apply OF.nil
  try simp only [thenF]
  co_apply WF.seqP (n₂ := 0)
  co_apply WF.seqP
  co_apply WF.region
  try simp only [List.size_toArray, List.length_cons, List.length_nil, Nat.reduceAdd, Nat.zero_add, List.range, List.range.loop]
  co_applyP OF.pu rfl (by rfl) (fun _ => run_eq_of ?run) (fun _ => by simp [go_sem, *])
  case run => intro K hK; go_simp; exact hK
  try walk_nrm
  co_applyP OF.callJ rfl (by rfl) rfl
  · walk_nrm
    exact htick d H hq
  rintro _ K y' w hK1 ⟨rfl, hg1, H1⟩
  replace hg := hg.trans hg1
  replace hr := hg1.role.trans hr
  have hq1 : y'.role.quiet = false := by rw [hr]; rfl
  replace hq := hq1
  replace H := H1
  clear hg1 H1 hq1 hK1
  try walk_nrm
  co_applyP OF.pu rfl (by rfl) (fun _ => run_eq_of ?run) (fun _ => by simp [go_sem, *])
  case run => intro K hK; go_simp; exact hK
  try walk_nrm
  co_applyP OF.pu rfl (by rfl) (fun _ => run_eq_of ?run) (fun _ => by simp [go_sem, *])
  case run => intro K hK; go_simp; exact hK
  try walk_nrm
  first
  | (co_applyP OF.pu rfl (by rfl) (fun _ => run_eq_of ?run) (fun _ => by simp [go_sem, *]); case run => intro K hK; go_simp; exact hK)
  | co_apply OF.unwanted rfl (by rfl)
  try walk_nrm
  first
  | (co_applyP OF.pu rfl (by rfl) (fun _ => run_eq_of ?run) (fun _ => by simp [go_sem, *]); case run => intro K hK; go_simp; exact hK)
  | co_apply OF.unwanted rfl (by rfl)
  try walk_nrm
  co_applyP OF.pu rfl (by rfl) (fun _ => run_eq_of ?run) (fun _ => by simp [go_sem, *])
  case run => intro K hK; go_simp; exact hK
  try walk_nrm
  co_applyP OF.pu rfl (by rfl) (fun _ => run_eq_of ?run) (fun _ => by simp [go_sem, *])
  case run => intro K hK; go_simp; exact hK
  try walk_nrm
  first
  | (co_applyP OF.pu rfl (by rfl) (fun _ => run_eq_of ?run) (fun _ => by simp [go_sem, *]); case run => intro K hK; go_simp; exact hK)
  | co_apply OF.unwanted rfl (by rfl)
  try walk_nrm
  first
  | (co_applyP OF.pu rfl (by rfl) (fun _ => run_eq_of ?run) (fun _ => by simp [go_sem, *]); case run => intro K hK; go_simp; exact hK)
  | co_apply OF.unwanted rfl (by rfl)
  try walk_nrm
  co_applyP OF.pu rfl (by rfl) (fun _ => run_eq_of ?run) (fun _ => by simp [go_sem, *])
  case run => intro K hK; go_simp; exact hK
  try walk_nrm
  co_applyP OF.pu rfl (by rfl) (fun _ => run_eq_of ?run) (fun _ => by simp [go_sem, *])
  case run => intro K hK; go_simp; exact hK
  try walk_nrm
  first
  | (co_applyP OF.pu rfl (by rfl) (fun _ => run_eq_of ?run) (fun _ => by simp [go_sem, *]); case run => intro K hK; go_simp; exact hK)
  | co_apply OF.unwanted rfl (by rfl)
  try walk_nrm
  first
  | (co_applyP OF.pu rfl (by rfl) (fun _ => run_eq_of ?run) (fun _ => by simp [go_sem, *]); case run => intro K hK; go_simp; exact hK)
  | co_apply OF.unwanted rfl (by rfl)
  try walk_nrm
  co_applyP OF.pu rfl (by rfl) (fun _ => run_eq_of ?run) (fun _ => by simp [go_sem, *])
  case run => intro K hK; go_simp; exact hK
  try walk_nrm
  co_applyP OF.pu rfl (by rfl) (fun _ => run_eq_of ?run) (fun _ => by simp [go_sem, *])
  case run => intro K hK; go_simp; exact hK
  try walk_nrm
  first
  | (co_applyP OF.pu rfl (by rfl) (fun _ => run_eq_of ?run) (fun _ => by simp [go_sem, *]); case run => intro K hK; go_simp; exact hK)
  | co_apply OF.unwanted rfl (by rfl)
  try walk_nrm
  first
  | (co_applyP OF.pu rfl (by rfl) (fun _ => run_eq_of ?run) (fun _ => by simp [go_sem, *]); case run => intro K hK; go_simp; exact hK)
  | co_apply OF.unwanted rfl (by rfl)
  try walk_nrm
  co_applyP OF.pu rfl (by rfl) (fun _ => run_eq_of ?run) (fun _ => by simp [go_sem, *])
  case run => intro K hK; go_simp; exact hK
  try walk_nrm
  co_applyP OF.pu rfl (by rfl) (fun _ => run_eq_of ?run) (fun _ => by simp [go_sem, *])
  case run => intro K hK; go_simp; exact hK
  try walk_nrm
  first
  | (co_applyP OF.pu rfl (by rfl) (fun _ => run_eq_of ?run) (fun _ => by simp [go_sem, *]); case run => intro K hK; go_simp; exact hK)
  | co_apply OF.unwanted rfl (by rfl)
  try walk_nrm
  first
  | (co_applyP OF.pu rfl (by rfl) (fun _ => run_eq_of ?run) (fun _ => by simp [go_sem, *]); case run => intro K hK; go_simp; exact hK)
  | co_apply OF.unwanted rfl (by rfl)
  try walk_nrm
  co_applyP OF.pu rfl (by rfl) (fun _ => run_eq_of ?run) (fun _ => by simp [go_sem, *])
  case run => intro K hK; go_simp; exact hK
  try walk_nrm
  co_applyP OF.pu rfl (by rfl) (fun _ => run_eq_of ?run) (fun _ => by simp [go_sem, *])
  case run => intro K hK; go_simp; exact hK
  try walk_nrm
  first
  | (co_applyP OF.pu rfl (by rfl) (fun _ => run_eq_of ?run) (fun _ => by simp [go_sem, *]); case run => intro K hK; go_simp; exact hK)
  | co_apply OF.unwanted rfl (by rfl)
  try walk_nrm
  first
  | (co_applyP OF.pu rfl (by rfl) (fun _ => run_eq_of ?run) (fun _ => by simp [go_sem, *]); case run => intro K hK; go_simp; exact hK)
  | co_apply OF.unwanted rfl (by rfl)
  try walk_nrm
  co_applyP OF.pu rfl (by rfl) (fun _ => run_eq_of ?run) (fun _ => by simp [go_sem, *])
  case run => intro K hK; go_simp; exact hK
  try walk_nrm
  co_apply OF.nil
  try simp only [thenF]
  co_apply WF.cond (t := true) rfl
  simp only [↓reduceIte]
  co_apply WF.seqP
  co_apply WF.region
  try simp only [List.size_toArray, List.length_cons, List.length_nil, Nat.reduceAdd, Nat.zero_add, List.range, List.range.loop]
  co_applyP OF.pu rfl (by rfl) (fun _ => run_eq_of ?run) (fun _ => by simp [go_sem, *])
  case run => intro K hK; go_simp; exact hK
  try walk_nrm
  co_applyP OF.str 0 rfl (by rfl) rfl H hq rfl rfl rfl (by kernel_rfl) (by rfl) (by kernel_rfl)
  intro K w₁ w hK1 hr1 hu1 H1
  replace H := H1
  clear hr1 hK1 hu1 H1
  simp only [List.set_cons_zero] at H
  try walk_nrm
  co_applyP OF.pu rfl (by rfl) (fun _ => run_eq_of ?run) (fun _ => by simp [go_sem, *])
  case run => intro K hK; go_simp; exact hK
  try walk_nrm
  co_apply OF.nil
  try simp only [thenF]
  co_apply WF.ret
  try simp only [thenF]
  exact retG_cell_tmp 0 rfl H hq rfl rfl rfl Try.underlying29 rfl (by kernel_rfl) fun K₁ hK w₁ r H => ⟨rfl, hg, H.tail⟩

set_option maxHeartbeats 8000000 in
set_option maxRecDepth 100000 in
theorem rstorm_k : ∃ nf, ∀ {N : Nat} {F : Nat → World → Prop} {m : Bool} {y : Gh Role} {K : Nat} {w : World} {l : List Row} (sh : Nat → Prop) (d wn tn kn : Int) (_ : isTick d = true) (_ : ¬ wn < 1) (_ : ¬ 16 < wn) (_ : ¬ tn < 0) (_ : ¬ 10000 < tn) (_ : ¬ kn < 0) (_ : ¬ 1000 < kn) (_ : 0 < kn) (_ : y.role = .alone sh) (_ : Ctx N F y K w (l)), CJ (S N) m 39 #[.int .i64 d, .int .i64 wn, .int .i64 tn, .int .i64 kn] nf (fun r K' y' w' => r = .tuple #[.agg #[.int .i64 kn, .bool true, .int .i64 0, .int .i64 1], .int .i64 0] ∧ Gr y y' ∧ Ctx N F y' K' w' l) K y w := by
  obtain ⟨nt, htick⟩ := rtick_c
  co_apply Exists.intro
  intro N F m y K w l sh d wn tn kn ht q0 q1 q2 q3 q4 q5 k1 hr H
  have hg := Gr.refl y
  have hq : y.role.quiet = false := by rw [hr]; rfl
  have r0 : decide (wn < 1) = false := by simp <;> omega
  have r1 : decide (wn > 16) = false := by simp <;> omega
  have r2 : decide (tn < 0) = false := by simp <;> omega
  have r3 : decide (tn > 10000) = false := by simp <;> omega
  have r4 : decide (kn < 0) = false := by simp <;> omega
  have r5 : decide (kn > 1000) = false := by simp <;> omega
  have z1 : decide (kn > 0) = true := by simp <;> omega
  co_apply CJ.of_WF Try.func39 (by kernel_rfl) (by rfl)
  simp only [show Try.f39.ntmps = 51 from rfl]
  try walk_nrm
  co_apply WF.seqP
  co_apply WF.region
  try simp only [List.size_toArray, List.length_cons, List.length_nil, Nat.reduceAdd, Nat.zero_add, List.range, List.range.loop]
  co_applyP OF.al rfl (by rfl) H hq (fun _ => run_eq_of ?run) (fun _ => by simp [go_sem, *])
  case run => intro K hK; go_simp; exact hK
  intro K w₁ y' w b8 hK1 hr1 hg1 hq1 hb1 hw1 H1
  replace hg := hg.trans hg1
  replace hr := hg1.role.trans hr
  replace hq := hq1
  replace H := H1
  clear hb1 hw1 hr1 hK1 hg1 hq1 H1
  try walk_nrm
  co_applyP OF.pu rfl (by rfl) (fun _ => run_eq_of ?run) (fun _ => by simp [go_sem, *])
  case run => intro K hK; go_simp; exact hK
  try walk_nrm
  co_apply OF.nil
  try simp only [thenF]
  co_apply WF.seqP
  co_apply WF.seqP
  co_apply WF.region
  try simp only [List.size_toArray, List.length_cons, List.length_nil, Nat.reduceAdd, Nat.zero_add, List.range, List.range.loop]
  co_applyP OF.pu rfl (by rfl) (fun _ => run_eq_of ?run) (fun _ => by simp [go_sem, *])
  case run => intro K hK; go_simp; exact hK
  try walk_nrm
  co_applyP OF.callJ rfl (by rfl) rfl
  · walk_nrm
    exact htick d H hq
  rintro _ K y' w hK1 ⟨rfl, hg1, H1⟩
  replace hg := hg.trans hg1
  replace hr := hg1.role.trans hr
  have hq1 : y'.role.quiet = false := by rw [hr]; rfl
  replace hq := hq1
  replace H := H1
  clear hg1 H1 hq1 hK1
  try walk_nrm
  co_applyP OF.pu rfl (by rfl) (fun _ => run_eq_of ?run) (fun _ => by simp [go_sem, *])
  case run => intro K hK; go_simp; exact hK
  try walk_nrm
  co_applyP OF.pu rfl (by rfl) (fun _ => run_eq_of ?run) (fun _ => by simp [go_sem, *])
  case run => intro K hK; go_simp; exact hK
  try walk_nrm
  first
  | (co_applyP OF.pu rfl (by rfl) (fun _ => run_eq_of ?run) (fun _ => by simp [go_sem, *]); case run => intro K hK; go_simp; exact hK)
  | co_apply OF.unwanted rfl (by rfl)
  try walk_nrm
  first
  | (co_applyP OF.pu rfl (by rfl) (fun _ => run_eq_of ?run) (fun _ => by simp [go_sem, *]); case run => intro K hK; go_simp; exact hK)
  | co_apply OF.unwanted rfl (by rfl)
  try walk_nrm
  co_applyP OF.pu rfl (by rfl) (fun _ => run_eq_of ?run) (fun _ => by simp [go_sem, *])
  case run => intro K hK; go_simp; exact hK
  try walk_nrm
  co_applyP OF.pu rfl (by rfl) (fun _ => run_eq_of ?run) (fun _ => by simp [go_sem, *])
  case run => intro K hK; go_simp; exact hK
  try walk_nrm
  first
  | (co_applyP OF.pu rfl (by rfl) (fun _ => run_eq_of ?run) (fun _ => by simp [go_sem, *]); case run => intro K hK; go_simp; exact hK)
  | co_apply OF.unwanted rfl (by rfl)
  try walk_nrm
  first
  | (co_applyP OF.pu rfl (by rfl) (fun _ => run_eq_of ?run) (fun _ => by simp [go_sem, *]); case run => intro K hK; go_simp; exact hK)
  | co_apply OF.unwanted rfl (by rfl)
  try walk_nrm
  co_applyP OF.pu rfl (by rfl) (fun _ => run_eq_of ?run) (fun _ => by simp [go_sem, *])
  case run => intro K hK; go_simp; exact hK
  try walk_nrm
  co_applyP OF.pu rfl (by rfl) (fun _ => run_eq_of ?run) (fun _ => by simp [go_sem, *])
  case run => intro K hK; go_simp; exact hK
  try walk_nrm
  first
  | (co_applyP OF.pu rfl (by rfl) (fun _ => run_eq_of ?run) (fun _ => by simp [go_sem, *]); case run => intro K hK; go_simp; exact hK)
  | co_apply OF.unwanted rfl (by rfl)
  try walk_nrm
  first
  | (co_applyP OF.pu rfl (by rfl) (fun _ => run_eq_of ?run) (fun _ => by simp [go_sem, *]); case run => intro K hK; go_simp; exact hK)
  | co_apply OF.unwanted rfl (by rfl)
  try walk_nrm
  co_applyP OF.pu rfl (by rfl) (fun _ => run_eq_of ?run) (fun _ => by simp [go_sem, *])
  case run => intro K hK; go_simp; exact hK
  try walk_nrm
  co_applyP OF.pu rfl (by rfl) (fun _ => run_eq_of ?run) (fun _ => by simp [go_sem, *])
  case run => intro K hK; go_simp; exact hK
  try walk_nrm
  first
  | (co_applyP OF.pu rfl (by rfl) (fun _ => run_eq_of ?run) (fun _ => by simp [go_sem, *]); case run => intro K hK; go_simp; exact hK)
  | co_apply OF.unwanted rfl (by rfl)
  try walk_nrm
  first
  | (co_applyP OF.pu rfl (by rfl) (fun _ => run_eq_of ?run) (fun _ => by simp [go_sem, *]); case run => intro K hK; go_simp; exact hK)
  | co_apply OF.unwanted rfl (by rfl)
  try walk_nrm
  co_applyP OF.pu rfl (by rfl) (fun _ => run_eq_of ?run) (fun _ => by simp [go_sem, *])
  case run => intro K hK; go_simp; exact hK
  try walk_nrm
  co_applyP OF.pu rfl (by rfl) (fun _ => run_eq_of ?run) (fun _ => by simp [go_sem, *])
  case run => intro K hK; go_simp; exact hK
  try walk_nrm
  first
  | (co_applyP OF.pu rfl (by rfl) (fun _ => run_eq_of ?run) (fun _ => by simp [go_sem, *]); case run => intro K hK; go_simp; exact hK)
  | co_apply OF.unwanted rfl (by rfl)
  try walk_nrm
  first
  | (co_applyP OF.pu rfl (by rfl) (fun _ => run_eq_of ?run) (fun _ => by simp [go_sem, *]); case run => intro K hK; go_simp; exact hK)
  | co_apply OF.unwanted rfl (by rfl)
  try walk_nrm
  co_applyP OF.pu rfl (by rfl) (fun _ => run_eq_of ?run) (fun _ => by simp [go_sem, *])
  case run => intro K hK; go_simp; exact hK
  try walk_nrm
  co_applyP OF.pu rfl (by rfl) (fun _ => run_eq_of ?run) (fun _ => by simp [go_sem, *])
  case run => intro K hK; go_simp; exact hK
  try walk_nrm
  first
  | (co_applyP OF.pu rfl (by rfl) (fun _ => run_eq_of ?run) (fun _ => by simp [go_sem, *]); case run => intro K hK; go_simp; exact hK)
  | co_apply OF.unwanted rfl (by rfl)
  try walk_nrm
  first
  | (co_applyP OF.pu rfl (by rfl) (fun _ => run_eq_of ?run) (fun _ => by simp [go_sem, *]); case run => intro K hK; go_simp; exact hK)
  | co_apply OF.unwanted rfl (by rfl)
  try walk_nrm
  co_applyP OF.pu rfl (by rfl) (fun _ => run_eq_of ?run) (fun _ => by simp [go_sem, *])
  case run => intro K hK; go_simp; exact hK
  try walk_nrm
  co_apply OF.nil
  try simp only [thenF]
  co_apply WF.cond (t := false) rfl
  simp only [Bool.false_eq_true, ↓reduceIte]
  co_apply WF.skip
  try simp only [thenF]
  co_apply WF.seqP
  co_apply WF.region
  try simp only [List.size_toArray, List.length_cons, List.length_nil, Nat.reduceAdd, Nat.zero_add, List.range, List.range.loop]
  co_applyP OF.pu rfl (by rfl) (fun _ => run_eq_of ?run) (fun _ => by simp [go_sem, *])
  case run => intro K hK; go_simp; exact hK
  try walk_nrm
  co_applyP OF.pu rfl (by rfl) (fun _ => run_eq_of ?run) (fun _ => by simp [go_sem, *])
  case run => intro K hK; go_simp; exact hK
  try walk_nrm
  co_applyP OF.pu rfl (by rfl) (fun _ => run_eq_of ?run) (fun _ => by simp [go_sem, *])
  case run => intro K hK; go_simp; exact hK
  try walk_nrm
  co_applyP OF.pu rfl (by rfl) (fun _ => run_eq_of ?run) (fun _ => by simp [go_sem, *])
  case run => intro K hK; go_simp; exact hK
  try walk_nrm
  co_applyP OF.al rfl (by rfl) H hq (fun _ => run_eq_of ?run) (fun _ => by simp [go_sem, *])
  case run => intro K hK; go_simp; exact hK
  intro K w₁ y' w b10 hK1 hr1 hg1 hq1 hb1 hw1 H1
  replace hg := hg.trans hg1
  replace hr := hg1.role.trans hr
  replace hq := hq1
  replace H := H1
  clear hb1 hw1 hr1 hK1 hg1 hq1 H1
  try walk_nrm
  co_applyP OF.str 0 rfl (by rfl) rfl H hq rfl rfl rfl (by kernel_rfl) (by rfl) (by kernel_rfl)
  intro K w₁ w hK1 hr1 hu1 H1
  replace H := H1
  clear hr1 hK1 hu1 H1
  simp only [List.set_cons_zero] at H
  try walk_nrm
  co_apply OF.nil
  try simp only [thenF]
  co_apply WF.seqP
  co_apply WF.seqP
  co_apply WF.region
  try simp only [List.size_toArray, List.length_cons, List.length_nil, Nat.reduceAdd, Nat.zero_add, List.range, List.range.loop]
  co_applyP OF.pu rfl (by rfl) (fun _ => run_eq_of ?run) (fun _ => by simp [go_sem, *])
  case run => intro K hK; go_simp; exact hK
  try walk_nrm
  co_applyP OF.pu rfl (by rfl) (fun _ => run_eq_of ?run) (fun _ => by simp [go_sem, *])
  case run => intro K hK; go_simp; exact hK
  try walk_nrm
  co_applyP OF.pu rfl (by rfl) (fun _ => run_eq_of ?run) (fun _ => by simp [go_sem, *])
  case run => intro K hK; go_simp; exact hK
  try walk_nrm
  first
  | (co_applyP OF.pu rfl (by rfl) (fun _ => run_eq_of ?run) (fun _ => by simp [go_sem, *]); case run => intro K hK; go_simp; exact hK)
  | co_apply OF.unwanted rfl (by rfl)
  try walk_nrm
  first
  | (co_applyP OF.pu rfl (by rfl) (fun _ => run_eq_of ?run) (fun _ => by simp [go_sem, *]); case run => intro K hK; go_simp; exact hK)
  | co_apply OF.unwanted rfl (by rfl)
  try walk_nrm
  co_applyP OF.pu rfl (by rfl) (fun _ => run_eq_of ?run) (fun _ => by simp [go_sem, *])
  case run => intro K hK; go_simp; exact hK
  try walk_nrm
  co_apply OF.nil
  try simp only [thenF]
  co_apply WF.cond (t := true) rfl
  simp only [↓reduceIte]
  co_apply WF.region
  try simp only [List.size_toArray, List.length_cons, List.length_nil, Nat.reduceAdd, Nat.zero_add, List.range, List.range.loop]
  co_applyP OF.pu rfl (by rfl) (fun _ => run_eq_of ?run) (fun _ => by simp [go_sem, *])
  case run => intro K hK; go_simp; exact hK
  try walk_nrm
  co_applyP OF.st1 0 3 rfl (by rfl) rfl H hq rfl rfl rfl rfl rfl (by kernel_rfl)
  intro K w₁ w hK1 hr1 hu1 H1
  replace H := H1
  clear hr1 hK1 hu1 H1
  simp only [List.set_cons_zero, List.set_cons_succ, List.setIfInBounds_toArray] at H
  try walk_nrm
  co_apply OF.nil
  try simp only [thenF]
  co_apply WF.seqP
  co_apply WF.region
  try simp only [List.size_toArray, List.length_cons, List.length_nil, Nat.reduceAdd, Nat.zero_add, List.range, List.range.loop]
  co_applyP OF.ldr 0 rfl (by rfl) rfl H hq rfl rfl Try.underlying29 rfl (by kernel_rfl)
  intro K w hK1 hr1 H1
  replace H := H1
  clear hr1 hK1 H1
  try walk_nrm
  co_applyP OF.str 1 rfl (by rfl) rfl H hq rfl rfl rfl (by kernel_rfl) (by rfl) (by kernel_rfl)
  intro K w₁ w hK1 hr1 hu1 H1
  replace H := H1
  clear hr1 hK1 hu1 H1
  simp only [List.set_cons_zero, List.set_cons_succ] at H
  try walk_nrm
  co_applyP OF.pu rfl (by rfl) (fun _ => run_eq_of ?run) (fun _ => by simp [go_sem, *])
  case run => intro K hK; go_simp; exact hK
  try walk_nrm
  co_apply OF.nil
  try simp only [thenF]
  co_apply WF.ret
  exact retG_cell_tmp 1 rfl H hq rfl rfl rfl Try.underlying29 rfl (by kernel_rfl) fun K₁ hK w₁ r H => ⟨rfl, hg, H.tail.tail⟩

set_option maxHeartbeats 8000000 in
set_option maxRecDepth 100000 in
theorem rstorm_t : ∃ nf, ∀ {N : Nat} {F : Nat → World → Prop} {m : Bool} {y : Gh Role} {K : Nat} {w : World} {l : List Row} (sh : Nat → Prop) (d wn tn kn : Int) (_ : isTick d = true) (_ : ¬ wn < 1) (_ : ¬ 16 < wn) (_ : ¬ tn < 0) (_ : ¬ 10000 < tn) (_ : ¬ kn < 0) (_ : ¬ 1000 < kn) (_ : kn = 0) (_ : 0 < tn) (_ : y.role = .alone sh) (_ : Ctx N F y K w (l)), CJ (S N) m 39 #[.int .i64 d, .int .i64 wn, .int .i64 tn, .int .i64 kn] nf (fun r K' y' w' => r = .tuple #[.agg #[.int .i64 0, .bool false, .int .i64 0, .int .i64 1], .int .i64 0] ∧ Gr y y' ∧ Ctx N F y' K' w' l) K y w := by
  obtain ⟨nt, htick⟩ := rtick_c
  co_apply Exists.intro
  intro N F m y K w l sh d wn tn kn ht q0 q1 q2 q3 q4 q5 k1 t1 hr H
  have hg := Gr.refl y
  have hq : y.role.quiet = false := by rw [hr]; rfl
  have r0 : decide (wn < 1) = false := by simp <;> omega
  have r1 : decide (wn > 16) = false := by simp <;> omega
  have r2 : decide (tn < 0) = false := by simp <;> omega
  have r3 : decide (tn > 10000) = false := by simp <;> omega
  have r4 : decide (kn < 0) = false := by simp <;> omega
  have r5 : decide (kn > 1000) = false := by simp <;> omega
  have z1 : decide (kn > 0) = false := by simp <;> omega
  have z2 : decide (tn > 0) = true := by simp <;> omega
  co_apply CJ.of_WF Try.func39 (by kernel_rfl) (by rfl)
  simp only [show Try.f39.ntmps = 51 from rfl]
  try walk_nrm
  co_apply WF.seqP
  co_apply WF.region
  try simp only [List.size_toArray, List.length_cons, List.length_nil, Nat.reduceAdd, Nat.zero_add, List.range, List.range.loop]
  co_applyP OF.al rfl (by rfl) H hq (fun _ => run_eq_of ?run) (fun _ => by simp [go_sem, *])
  case run => intro K hK; go_simp; exact hK
  intro K w₁ y' w b8 hK1 hr1 hg1 hq1 hb1 hw1 H1
  replace hg := hg.trans hg1
  replace hr := hg1.role.trans hr
  replace hq := hq1
  replace H := H1
  clear hb1 hw1 hr1 hK1 hg1 hq1 H1
  try walk_nrm
  co_applyP OF.pu rfl (by rfl) (fun _ => run_eq_of ?run) (fun _ => by simp [go_sem, *])
  case run => intro K hK; go_simp; exact hK
  try walk_nrm
  co_apply OF.nil
  try simp only [thenF]
  co_apply WF.seqP
  co_apply WF.seqP
  co_apply WF.region
  try simp only [List.size_toArray, List.length_cons, List.length_nil, Nat.reduceAdd, Nat.zero_add, List.range, List.range.loop]
  co_applyP OF.pu rfl (by rfl) (fun _ => run_eq_of ?run) (fun _ => by simp [go_sem, *])
  case run => intro K hK; go_simp; exact hK
  try walk_nrm
  co_applyP OF.callJ rfl (by rfl) rfl
  · walk_nrm
    exact htick d H hq
  rintro _ K y' w hK1 ⟨rfl, hg1, H1⟩
  replace hg := hg.trans hg1
  replace hr := hg1.role.trans hr
  have hq1 : y'.role.quiet = false := by rw [hr]; rfl
  replace hq := hq1
  replace H := H1
  clear hg1 H1 hq1 hK1
  try walk_nrm
  co_applyP OF.pu rfl (by rfl) (fun _ => run_eq_of ?run) (fun _ => by simp [go_sem, *])
  case run => intro K hK; go_simp; exact hK
  try walk_nrm
  co_applyP OF.pu rfl (by rfl) (fun _ => run_eq_of ?run) (fun _ => by simp [go_sem, *])
  case run => intro K hK; go_simp; exact hK
  try walk_nrm
  first
  | (co_applyP OF.pu rfl (by rfl) (fun _ => run_eq_of ?run) (fun _ => by simp [go_sem, *]); case run => intro K hK; go_simp; exact hK)
  | co_apply OF.unwanted rfl (by rfl)
  try walk_nrm
  first
  | (co_applyP OF.pu rfl (by rfl) (fun _ => run_eq_of ?run) (fun _ => by simp [go_sem, *]); case run => intro K hK; go_simp; exact hK)
  | co_apply OF.unwanted rfl (by rfl)
  try walk_nrm
  co_applyP OF.pu rfl (by rfl) (fun _ => run_eq_of ?run) (fun _ => by simp [go_sem, *])
  case run => intro K hK; go_simp; exact hK
  try walk_nrm
  co_applyP OF.pu rfl (by rfl) (fun _ => run_eq_of ?run) (fun _ => by simp [go_sem, *])
  case run => intro K hK; go_simp; exact hK
  try walk_nrm
  first
  | (co_applyP OF.pu rfl (by rfl) (fun _ => run_eq_of ?run) (fun _ => by simp [go_sem, *]); case run => intro K hK; go_simp; exact hK)
  | co_apply OF.unwanted rfl (by rfl)
  try walk_nrm
  first
  | (co_applyP OF.pu rfl (by rfl) (fun _ => run_eq_of ?run) (fun _ => by simp [go_sem, *]); case run => intro K hK; go_simp; exact hK)
  | co_apply OF.unwanted rfl (by rfl)
  try walk_nrm
  co_applyP OF.pu rfl (by rfl) (fun _ => run_eq_of ?run) (fun _ => by simp [go_sem, *])
  case run => intro K hK; go_simp; exact hK
  try walk_nrm
  co_applyP OF.pu rfl (by rfl) (fun _ => run_eq_of ?run) (fun _ => by simp [go_sem, *])
  case run => intro K hK; go_simp; exact hK
  try walk_nrm
  first
  | (co_applyP OF.pu rfl (by rfl) (fun _ => run_eq_of ?run) (fun _ => by simp [go_sem, *]); case run => intro K hK; go_simp; exact hK)
  | co_apply OF.unwanted rfl (by rfl)
  try walk_nrm
  first
  | (co_applyP OF.pu rfl (by rfl) (fun _ => run_eq_of ?run) (fun _ => by simp [go_sem, *]); case run => intro K hK; go_simp; exact hK)
  | co_apply OF.unwanted rfl (by rfl)
  try walk_nrm
  co_applyP OF.pu rfl (by rfl) (fun _ => run_eq_of ?run) (fun _ => by simp [go_sem, *])
  case run => intro K hK; go_simp; exact hK
  try walk_nrm
  co_applyP OF.pu rfl (by rfl) (fun _ => run_eq_of ?run) (fun _ => by simp [go_sem, *])
  case run => intro K hK; go_simp; exact hK
  try walk_nrm
  first
  | (co_applyP OF.pu rfl (by rfl) (fun _ => run_eq_of ?run) (fun _ => by simp [go_sem, *]); case run => intro K hK; go_simp; exact hK)
  | co_apply OF.unwanted rfl (by rfl)
  try walk_nrm
  first
  | (co_applyP OF.pu rfl (by rfl) (fun _ => run_eq_of ?run) (fun _ => by simp [go_sem, *]); case run => intro K hK; go_simp; exact hK)
  | co_apply OF.unwanted rfl (by rfl)
  try walk_nrm
  co_applyP OF.pu rfl (by rfl) (fun _ => run_eq_of ?run) (fun _ => by simp [go_sem, *])
  case run => intro K hK; go_simp; exact hK
  try walk_nrm
  co_applyP OF.pu rfl (by rfl) (fun _ => run_eq_of ?run) (fun _ => by simp [go_sem, *])
  case run => intro K hK; go_simp; exact hK
  try walk_nrm
  first
  | (co_applyP OF.pu rfl (by rfl) (fun _ => run_eq_of ?run) (fun _ => by simp [go_sem, *]); case run => intro K hK; go_simp; exact hK)
  | co_apply OF.unwanted rfl (by rfl)
  try walk_nrm
  first
  | (co_applyP OF.pu rfl (by rfl) (fun _ => run_eq_of ?run) (fun _ => by simp [go_sem, *]); case run => intro K hK; go_simp; exact hK)
  | co_apply OF.unwanted rfl (by rfl)
  try walk_nrm
  co_applyP OF.pu rfl (by rfl) (fun _ => run_eq_of ?run) (fun _ => by simp [go_sem, *])
  case run => intro K hK; go_simp; exact hK
  try walk_nrm
  co_applyP OF.pu rfl (by rfl) (fun _ => run_eq_of ?run) (fun _ => by simp [go_sem, *])
  case run => intro K hK; go_simp; exact hK
  try walk_nrm
  first
  | (co_applyP OF.pu rfl (by rfl) (fun _ => run_eq_of ?run) (fun _ => by simp [go_sem, *]); case run => intro K hK; go_simp; exact hK)
  | co_apply OF.unwanted rfl (by rfl)
  try walk_nrm
  first
  | (co_applyP OF.pu rfl (by rfl) (fun _ => run_eq_of ?run) (fun _ => by simp [go_sem, *]); case run => intro K hK; go_simp; exact hK)
  | co_apply OF.unwanted rfl (by rfl)
  try walk_nrm
  co_applyP OF.pu rfl (by rfl) (fun _ => run_eq_of ?run) (fun _ => by simp [go_sem, *])
  case run => intro K hK; go_simp; exact hK
  try walk_nrm
  co_apply OF.nil
  try simp only [thenF]
  co_apply WF.cond (t := false) rfl
  simp only [Bool.false_eq_true, ↓reduceIte]
  co_apply WF.skip
  try simp only [thenF]
  co_apply WF.seqP
  co_apply WF.region
  try simp only [List.size_toArray, List.length_cons, List.length_nil, Nat.reduceAdd, Nat.zero_add, List.range, List.range.loop]
  co_applyP OF.pu rfl (by rfl) (fun _ => run_eq_of ?run) (fun _ => by simp [go_sem, *])
  case run => intro K hK; go_simp; exact hK
  try walk_nrm
  co_applyP OF.pu rfl (by rfl) (fun _ => run_eq_of ?run) (fun _ => by simp [go_sem, *])
  case run => intro K hK; go_simp; exact hK
  try walk_nrm
  co_applyP OF.pu rfl (by rfl) (fun _ => run_eq_of ?run) (fun _ => by simp [go_sem, *])
  case run => intro K hK; go_simp; exact hK
  try walk_nrm
  co_applyP OF.pu rfl (by rfl) (fun _ => run_eq_of ?run) (fun _ => by simp [go_sem, *])
  case run => intro K hK; go_simp; exact hK
  try walk_nrm
  co_applyP OF.al rfl (by rfl) H hq (fun _ => run_eq_of ?run) (fun _ => by simp [go_sem, *])
  case run => intro K hK; go_simp; exact hK
  intro K w₁ y' w b10 hK1 hr1 hg1 hq1 hb1 hw1 H1
  replace hg := hg.trans hg1
  replace hr := hg1.role.trans hr
  replace hq := hq1
  replace H := H1
  clear hb1 hw1 hr1 hK1 hg1 hq1 H1
  try walk_nrm
  co_applyP OF.str 0 rfl (by rfl) rfl H hq rfl rfl rfl (by kernel_rfl) (by rfl) (by kernel_rfl)
  intro K w₁ w hK1 hr1 hu1 H1
  replace H := H1
  clear hr1 hK1 hu1 H1
  simp only [List.set_cons_zero] at H
  try walk_nrm
  co_apply OF.nil
  try simp only [thenF]
  co_apply WF.seqP
  co_apply WF.seqP
  co_apply WF.region
  try simp only [List.size_toArray, List.length_cons, List.length_nil, Nat.reduceAdd, Nat.zero_add, List.range, List.range.loop]
  co_applyP OF.pu rfl (by rfl) (fun _ => run_eq_of ?run) (fun _ => by simp [go_sem, *])
  case run => intro K hK; go_simp; exact hK
  try walk_nrm
  co_applyP OF.pu rfl (by rfl) (fun _ => run_eq_of ?run) (fun _ => by simp [go_sem, *])
  case run => intro K hK; go_simp; exact hK
  try walk_nrm
  co_applyP OF.pu rfl (by rfl) (fun _ => run_eq_of ?run) (fun _ => by simp [go_sem, *])
  case run => intro K hK; go_simp; exact hK
  try walk_nrm
  first
  | (co_applyP OF.pu rfl (by rfl) (fun _ => run_eq_of ?run) (fun _ => by simp [go_sem, *]); case run => intro K hK; go_simp; exact hK)
  | co_apply OF.unwanted rfl (by rfl)
  try walk_nrm
  first
  | (co_applyP OF.pu rfl (by rfl) (fun _ => run_eq_of ?run) (fun _ => by simp [go_sem, *]); case run => intro K hK; go_simp; exact hK)
  | co_apply OF.unwanted rfl (by rfl)
  try walk_nrm
  co_applyP OF.pu rfl (by rfl) (fun _ => run_eq_of ?run) (fun _ => by simp [go_sem, *])
  case run => intro K hK; go_simp; exact hK
  try walk_nrm
  co_apply OF.nil
  try simp only [thenF]
  co_apply WF.cond (t := true) rfl
  simp only [↓reduceIte]
  co_apply WF.region
  try simp only [List.size_toArray, List.length_cons, List.length_nil, Nat.reduceAdd, Nat.zero_add, List.range, List.range.loop]
  co_applyP OF.pu rfl (by rfl) (fun _ => run_eq_of ?run) (fun _ => by simp [go_sem, *])
  case run => intro K hK; go_simp; exact hK
  try walk_nrm
  co_applyP OF.st1 0 3 rfl (by rfl) rfl H hq rfl rfl rfl rfl rfl (by kernel_rfl)
  intro K w₁ w hK1 hr1 hu1 H1
  replace H := H1
  clear hr1 hK1 hu1 H1
  simp only [List.set_cons_zero, List.set_cons_succ, List.setIfInBounds_toArray] at H
  try walk_nrm
  co_apply OF.nil
  try simp only [thenF]
  co_apply WF.seqP
  co_apply WF.region
  try simp only [List.size_toArray, List.length_cons, List.length_nil, Nat.reduceAdd, Nat.zero_add, List.range, List.range.loop]
  co_applyP OF.ldr 0 rfl (by rfl) rfl H hq rfl rfl Try.underlying29 rfl (by kernel_rfl)
  intro K w hK1 hr1 H1
  replace H := H1
  clear hr1 hK1 H1
  try walk_nrm
  co_applyP OF.str 1 rfl (by rfl) rfl H hq rfl rfl rfl (by kernel_rfl) (by rfl) (by kernel_rfl)
  intro K w₁ w hK1 hr1 hu1 H1
  replace H := H1
  clear hr1 hK1 hu1 H1
  simp only [List.set_cons_zero, List.set_cons_succ] at H
  try walk_nrm
  co_applyP OF.pu rfl (by rfl) (fun _ => run_eq_of ?run) (fun _ => by simp [go_sem, *])
  case run => intro K hK; go_simp; exact hK
  try walk_nrm
  co_apply OF.nil
  try simp only [thenF]
  co_apply WF.ret
  exact retG_cell_tmp 1 rfl H hq rfl rfl rfl Try.underlying29 rfl (by kernel_rfl) fun K₁ hK w₁ r H => ⟨rfl, hg, H.tail.tail⟩

set_option maxHeartbeats 8000000 in
set_option maxRecDepth 100000 in
theorem rstorm_0 : ∃ nf, ∀ {N : Nat} {F : Nat → World → Prop} {m : Bool} {y : Gh Role} {K : Nat} {w : World} {l : List Row} (sh : Nat → Prop) (d wn tn kn : Int) (_ : isTick d = true) (_ : ¬ wn < 1) (_ : ¬ 16 < wn) (_ : ¬ tn < 0) (_ : ¬ 10000 < tn) (_ : ¬ kn < 0) (_ : ¬ 1000 < kn) (_ : kn = 0) (_ : tn = 0) (_ : y.role = .alone sh) (_ : Ctx N F y K w (l)), CJ (S N) m 39 #[.int .i64 d, .int .i64 wn, .int .i64 tn, .int .i64 kn] nf (fun r K' y' w' => r = .tuple #[.agg #[.int .i64 0, .bool false, .int .i64 0, .int .i64 0], .int .i64 0] ∧ Gr y y' ∧ Ctx N F y' K' w' l) K y w := by
  obtain ⟨nt, htick⟩ := rtick_c
  co_apply Exists.intro
  intro N F m y K w l sh d wn tn kn ht q0 q1 q2 q3 q4 q5 k1 t1 hr H
  have hg := Gr.refl y
  have hq : y.role.quiet = false := by rw [hr]; rfl
  have r0 : decide (wn < 1) = false := by simp <;> omega
  have r1 : decide (wn > 16) = false := by simp <;> omega
  have r2 : decide (tn < 0) = false := by simp <;> omega
  have r3 : decide (tn > 10000) = false := by simp <;> omega
  have r4 : decide (kn < 0) = false := by simp <;> omega
  have r5 : decide (kn > 1000) = false := by simp <;> omega
  have z1 : decide (kn > 0) = false := by simp <;> omega
  have z2 : decide (tn > 0) = false := by simp <;> omega
  co_apply CJ.of_WF Try.func39 (by kernel_rfl) (by rfl)
  simp only [show Try.f39.ntmps = 51 from rfl]
  try walk_nrm
  co_apply WF.seqP
  co_apply WF.region
  try simp only [List.size_toArray, List.length_cons, List.length_nil, Nat.reduceAdd, Nat.zero_add, List.range, List.range.loop]
  co_applyP OF.al rfl (by rfl) H hq (fun _ => run_eq_of ?run) (fun _ => by simp [go_sem, *])
  case run => intro K hK; go_simp; exact hK
  intro K w₁ y' w b8 hK1 hr1 hg1 hq1 hb1 hw1 H1
  replace hg := hg.trans hg1
  replace hr := hg1.role.trans hr
  replace hq := hq1
  replace H := H1
  clear hb1 hw1 hr1 hK1 hg1 hq1 H1
  try walk_nrm
  co_applyP OF.pu rfl (by rfl) (fun _ => run_eq_of ?run) (fun _ => by simp [go_sem, *])
  case run => intro K hK; go_simp; exact hK
  try walk_nrm
  co_apply OF.nil
  try simp only [thenF]
  co_apply WF.seqP
  co_apply WF.seqP
  co_apply WF.region
  try simp only [List.size_toArray, List.length_cons, List.length_nil, Nat.reduceAdd, Nat.zero_add, List.range, List.range.loop]
  co_applyP OF.pu rfl (by rfl) (fun _ => run_eq_of ?run) (fun _ => by simp [go_sem, *])
  case run => intro K hK; go_simp; exact hK
  try walk_nrm
  co_applyP OF.callJ rfl (by rfl) rfl
  · walk_nrm
    exact htick d H hq
  rintro _ K y' w hK1 ⟨rfl, hg1, H1⟩
  replace hg := hg.trans hg1
  replace hr := hg1.role.trans hr
  have hq1 : y'.role.quiet = false := by rw [hr]; rfl
  replace hq := hq1
  replace H := H1
  clear hg1 H1 hq1 hK1
  try walk_nrm
  co_applyP OF.pu rfl (by rfl) (fun _ => run_eq_of ?run) (fun _ => by simp [go_sem, *])
  case run => intro K hK; go_simp; exact hK
  try walk_nrm
  co_applyP OF.pu rfl (by rfl) (fun _ => run_eq_of ?run) (fun _ => by simp [go_sem, *])
  case run => intro K hK; go_simp; exact hK
  try walk_nrm
  first
  | (co_applyP OF.pu rfl (by rfl) (fun _ => run_eq_of ?run) (fun _ => by simp [go_sem, *]); case run => intro K hK; go_simp; exact hK)
  | co_apply OF.unwanted rfl (by rfl)
  try walk_nrm
  first
  | (co_applyP OF.pu rfl (by rfl) (fun _ => run_eq_of ?run) (fun _ => by simp [go_sem, *]); case run => intro K hK; go_simp; exact hK)
  | co_apply OF.unwanted rfl (by rfl)
  try walk_nrm
  co_applyP OF.pu rfl (by rfl) (fun _ => run_eq_of ?run) (fun _ => by simp [go_sem, *])
  case run => intro K hK; go_simp; exact hK
  try walk_nrm
  co_applyP OF.pu rfl (by rfl) (fun _ => run_eq_of ?run) (fun _ => by simp [go_sem, *])
  case run => intro K hK; go_simp; exact hK
  try walk_nrm
  first
  | (co_applyP OF.pu rfl (by rfl) (fun _ => run_eq_of ?run) (fun _ => by simp [go_sem, *]); case run => intro K hK; go_simp; exact hK)
  | co_apply OF.unwanted rfl (by rfl)
  try walk_nrm
  first
  | (co_applyP OF.pu rfl (by rfl) (fun _ => run_eq_of ?run) (fun _ => by simp [go_sem, *]); case run => intro K hK; go_simp; exact hK)
  | co_apply OF.unwanted rfl (by rfl)
  try walk_nrm
  co_applyP OF.pu rfl (by rfl) (fun _ => run_eq_of ?run) (fun _ => by simp [go_sem, *])
  case run => intro K hK; go_simp; exact hK
  try walk_nrm
  co_applyP OF.pu rfl (by rfl) (fun _ => run_eq_of ?run) (fun _ => by simp [go_sem, *])
  case run => intro K hK; go_simp; exact hK
  try walk_nrm
  first
  | (co_applyP OF.pu rfl (by rfl) (fun _ => run_eq_of ?run) (fun _ => by simp [go_sem, *]); case run => intro K hK; go_simp; exact hK)
  | co_apply OF.unwanted rfl (by rfl)
  try walk_nrm
  first
  | (co_applyP OF.pu rfl (by rfl) (fun _ => run_eq_of ?run) (fun _ => by simp [go_sem, *]); case run => intro K hK; go_simp; exact hK)
  | co_apply OF.unwanted rfl (by rfl)
  try walk_nrm
  co_applyP OF.pu rfl (by rfl) (fun _ => run_eq_of ?run) (fun _ => by simp [go_sem, *])
  case run => intro K hK; go_simp; exact hK
  try walk_nrm
  co_applyP OF.pu rfl (by rfl) (fun _ => run_eq_of ?run) (fun _ => by simp [go_sem, *])
  case run => intro K hK; go_simp; exact hK
  try walk_nrm
  first
  | (co_applyP OF.pu rfl (by rfl) (fun _ => run_eq_of ?run) (fun _ => by simp [go_sem, *]); case run => intro K hK; go_simp; exact hK)
  | co_apply OF.unwanted rfl (by rfl)
  try walk_nrm
  first
  | (co_applyP OF.pu rfl (by rfl) (fun _ => run_eq_of ?run) (fun _ => by simp [go_sem, *]); case run => intro K hK; go_simp; exact hK)
  | co_apply OF.unwanted rfl (by rfl)
  try walk_nrm
  co_applyP OF.pu rfl (by rfl) (fun _ => run_eq_of ?run) (fun _ => by simp [go_sem, *])
  case run => intro K hK; go_simp; exact hK
  try walk_nrm
  co_applyP OF.pu rfl (by rfl) (fun _ => run_eq_of ?run) (fun _ => by simp [go_sem, *])
  case run => intro K hK; go_simp; exact hK
  try walk_nrm
  first
  | (co_applyP OF.pu rfl (by rfl) (fun _ => run_eq_of ?run) (fun _ => by simp [go_sem, *]); case run => intro K hK; go_simp; exact hK)
  | co_apply OF.unwanted rfl (by rfl)
  try walk_nrm
  first
  | (co_applyP OF.pu rfl (by rfl) (fun _ => run_eq_of ?run) (fun _ => by simp [go_sem, *]); case run => intro K hK; go_simp; exact hK)
  | co_apply OF.unwanted rfl (by rfl)
  try walk_nrm
  co_applyP OF.pu rfl (by rfl) (fun _ => run_eq_of ?run) (fun _ => by simp [go_sem, *])
  case run => intro K hK; go_simp; exact hK
  try walk_nrm
  co_applyP OF.pu rfl (by rfl) (fun _ => run_eq_of ?run) (fun _ => by simp [go_sem, *])
  case run => intro K hK; go_simp; exact hK
  try walk_nrm
  first
  | (co_applyP OF.pu rfl (by rfl) (fun _ => run_eq_of ?run) (fun _ => by simp [go_sem, *]); case run => intro K hK; go_simp; exact hK)
  | co_apply OF.unwanted rfl (by rfl)
  try walk_nrm
  first
  | (co_applyP OF.pu rfl (by rfl) (fun _ => run_eq_of ?run) (fun _ => by simp [go_sem, *]); case run => intro K hK; go_simp; exact hK)
  | co_apply OF.unwanted rfl (by rfl)
  try walk_nrm
  co_applyP OF.pu rfl (by rfl) (fun _ => run_eq_of ?run) (fun _ => by simp [go_sem, *])
  case run => intro K hK; go_simp; exact hK
  try walk_nrm
  co_apply OF.nil
  try simp only [thenF]
  co_apply WF.cond (t := false) rfl
  simp only [Bool.false_eq_true, ↓reduceIte]
  co_apply WF.skip
  try simp only [thenF]
  co_apply WF.seqP
  co_apply WF.region
  try simp only [List.size_toArray, List.length_cons, List.length_nil, Nat.reduceAdd, Nat.zero_add, List.range, List.range.loop]
  co_applyP OF.pu rfl (by rfl) (fun _ => run_eq_of ?run) (fun _ => by simp [go_sem, *])
  case run => intro K hK; go_simp; exact hK
  try walk_nrm
  co_applyP OF.pu rfl (by rfl) (fun _ => run_eq_of ?run) (fun _ => by simp [go_sem, *])
  case run => intro K hK; go_simp; exact hK
  try walk_nrm
  co_applyP OF.pu rfl (by rfl) (fun _ => run_eq_of ?run) (fun _ => by simp [go_sem, *])
  case run => intro K hK; go_simp; exact hK
  try walk_nrm
  co_applyP OF.pu rfl (by rfl) (fun _ => run_eq_of ?run) (fun _ => by simp [go_sem, *])
  case run => intro K hK; go_simp; exact hK
  try walk_nrm
  co_applyP OF.al rfl (by rfl) H hq (fun _ => run_eq_of ?run) (fun _ => by simp [go_sem, *])
  case run => intro K hK; go_simp; exact hK
  intro K w₁ y' w b10 hK1 hr1 hg1 hq1 hb1 hw1 H1
  replace hg := hg.trans hg1
  replace hr := hg1.role.trans hr
  replace hq := hq1
  replace H := H1
  clear hb1 hw1 hr1 hK1 hg1 hq1 H1
  try walk_nrm
  co_applyP OF.str 0 rfl (by rfl) rfl H hq rfl rfl rfl (by kernel_rfl) (by rfl) (by kernel_rfl)
  intro K w₁ w hK1 hr1 hu1 H1
  replace H := H1
  clear hr1 hK1 hu1 H1
  simp only [List.set_cons_zero] at H
  try walk_nrm
  co_apply OF.nil
  try simp only [thenF]
  co_apply WF.seqP
  co_apply WF.seqP
  co_apply WF.region
  try simp only [List.size_toArray, List.length_cons, List.length_nil, Nat.reduceAdd, Nat.zero_add, List.range, List.range.loop]
  co_applyP OF.pu rfl (by rfl) (fun _ => run_eq_of ?run) (fun _ => by simp [go_sem, *])
  case run => intro K hK; go_simp; exact hK
  try walk_nrm
  co_applyP OF.pu rfl (by rfl) (fun _ => run_eq_of ?run) (fun _ => by simp [go_sem, *])
  case run => intro K hK; go_simp; exact hK
  try walk_nrm
  co_applyP OF.pu rfl (by rfl) (fun _ => run_eq_of ?run) (fun _ => by simp [go_sem, *])
  case run => intro K hK; go_simp; exact hK
  try walk_nrm
  first
  | (co_applyP OF.pu rfl (by rfl) (fun _ => run_eq_of ?run) (fun _ => by simp [go_sem, *]); case run => intro K hK; go_simp; exact hK)
  | co_apply OF.unwanted rfl (by rfl)
  try walk_nrm
  first
  | (co_applyP OF.pu rfl (by rfl) (fun _ => run_eq_of ?run) (fun _ => by simp [go_sem, *]); case run => intro K hK; go_simp; exact hK)
  | co_apply OF.unwanted rfl (by rfl)
  try walk_nrm
  co_applyP OF.pu rfl (by rfl) (fun _ => run_eq_of ?run) (fun _ => by simp [go_sem, *])
  case run => intro K hK; go_simp; exact hK
  try walk_nrm
  co_apply OF.nil
  try simp only [thenF]
  co_apply WF.cond (t := false) rfl
  simp only [Bool.false_eq_true, ↓reduceIte]
  co_apply WF.skip
  try simp only [thenF]
  co_apply WF.seqP
  co_apply WF.region
  try simp only [List.size_toArray, List.length_cons, List.length_nil, Nat.reduceAdd, Nat.zero_add, List.range, List.range.loop]
  co_applyP OF.ldr 0 rfl (by rfl) rfl H hq rfl rfl Try.underlying29 rfl (by kernel_rfl)
  intro K w hK1 hr1 H1
  replace H := H1
  clear hr1 hK1 H1
  try walk_nrm
  co_applyP OF.str 1 rfl (by rfl) rfl H hq rfl rfl rfl (by kernel_rfl) (by rfl) (by kernel_rfl)
  intro K w₁ w hK1 hr1 hu1 H1
  replace H := H1
  clear hr1 hK1 hu1 H1
  simp only [List.set_cons_zero, List.set_cons_succ] at H
  try walk_nrm
  co_applyP OF.pu rfl (by rfl) (fun _ => run_eq_of ?run) (fun _ => by simp [go_sem, *])
  case run => intro K hK; go_simp; exact hK
  try walk_nrm
  co_apply OF.nil
  try simp only [thenF]
  co_apply WF.ret
  exact retG_cell_tmp 1 rfl H hq rfl rfl rfl Try.underlying29 rfl (by kernel_rfl) fun K₁ hK w₁ r H => ⟨rfl, hg, H.tail.tail⟩

end Go.Proofs.Ytgnhddnhcfmipaa.Ids
