/- IdleStorms: what a storm answers; Storm where the arguments are refused. Printed by wip/tools/gen_ids29.py. -/
import Derived.Test.YtgnhddnhcfmipaaIds23
import Derived.Test.YtgnhddnhcfmipaaIds24
namespace Go.Proofs.Ytgnhddnhcfmipaa.Ids
open Go Go.Conc Go.RowKit Go.Proofs.Ytgnhddnhcfmipaa.Eg Go.Proofs.Ytgnhddnhcfmipaa

/-- The word at a storm's end, as it is seen. -/
def endv (tn kn : Int) : VW := if 0 < kn then ⟨kn, true, 0, 1⟩ else if 0 < tn then ⟨0, false, 0, 1⟩ else ⟨0, false, 0, 0⟩
def valid (d wn tn kn : Int) : Prop := isTick d = true ∧ ¬ wn < 1 ∧ ¬ 16 < wn ∧ ¬ tn < 0 ∧ ¬ 10000 < tn ∧ ¬ kn < 0 ∧ ¬ 1000 < kn
instance (d wn tn kn : Int) : Decidable (valid d wn tn kn) := by unfold valid; infer_instance
/-- What both Storms answer. -/
def outw (d wn tn kn : Int) : VW := if valid d wn tn kn then endv tn kn else ⟨0, false, 0, 0⟩
def outc (d wn tn kn : Int) : Int := if valid d wn tn kn then 0 else 1
def outv (d wn tn kn : Int) : Value := .tuple #[.agg (outw d wn tn kn).arr, .int .i64 (outc d wn tn kn)]
theorem outv_no {d wn tn kn : Int} (h : ¬ valid d wn tn kn) : outv d wn tn kn = .tuple #[.agg #[.int .i64 0, .bool false, .int .i64 0, .int .i64 0], .int .i64 1] := by
  unfold outv outw outc; rw [if_neg h, if_neg h]; rfl
theorem outv_yes {d wn tn kn : Int} (h : valid d wn tn kn) : outv d wn tn kn = .tuple #[.agg (endv tn kn).arr, .int .i64 0] := by
  unfold outv outw outc; rw [if_pos h, if_pos h]

set_option maxHeartbeats 8000000 in
set_option maxRecDepth 100000 in
theorem storm_bad0 : ∃ nf, ∀ {N : Nat} {F : Nat → World → Prop} {m : Bool} {y : Gh Role} {K : Nat} {w : World} {l : List Row} (sh : Nat → Prop) (d wn tn kn : Int) (_ : ¬ 0 ≤ d) (_ : y.role = .alone sh) (_ : Ctx N F y K w l), CJ (S N) m 40 #[.int .i64 d, .int .i64 wn, .int .i64 tn, .int .i64 kn] nf (fun r K' y' w' => r = .tuple #[.agg #[.int .i64 0, .bool false, .int .i64 0, .int .i64 0], .int .i64 1] ∧ Gr y y' ∧ Ctx N F y' K' w' l) K y w := by
  obtain ⟨nt, hnew⟩ := new_bad1
  co_apply Exists.intro
  intro N F m y K w l sh d wn tn kn ht hr H
  have hg := Gr.refl y
  have hq : y.role.quiet = false := by rw [hr]; rfl
  co_apply CJ.of_WF Try.func40 (by kernel_rfl) (by rfl)
  simp only [show Try.f40.ntmps = 62 from rfl]
  try walk_nrm
  co_apply WF.seqP
  co_apply WF.region
  try simp only [List.size_toArray, List.length_cons, List.length_nil, Nat.reduceAdd, Nat.zero_add, List.range, List.range.loop]
  co_applyP OF.al rfl (by rfl) H hq (fun _ => run_eq_of ?run) (fun _ => by simp [go_sem, *])
  case run => intro K hK; go_simp; exact hK
  intro K w₁ y' w b6 hK1 hr1 hg1 hq1 hb1 hw1 H1
  replace hg := hg.trans hg1
  replace hr := hg1.role.trans hr
  replace hq := hq1
  replace H := H1
  clear hb1 hw1 hr1 hK1 hg1 hq1 H1
  try walk_nrm
  co_applyP OF.al rfl (by rfl) H hq (fun _ => run_eq_of ?run) (fun _ => by simp [go_sem, *])
  case run => intro K hK; go_simp; exact hK
  intro K w₁ y' w b8 hK1 hr1 hg1 hq1 hb1 hw1 H1
  replace hg := hg.trans hg1
  replace hr := hg1.role.trans hr
  replace hq := hq1
  replace H := H1
  clear hb1 hw1 hr1 hK1 hg1 hq1 H1
  try walk_nrm
  co_applyP OF.pu rfl (by rfl) (fun _ => run_eq_of ?run) (fun _ => by simp [go_sem, *])
  case run => intro K hK; go_simp; exact hK
  try walk_nrm
  co_apply OF.nil
  try simp only [thenF]
  co_apply WF.seqP
  co_apply WF.region
  try simp only [List.size_toArray, List.length_cons, List.length_nil, Nat.reduceAdd, Nat.zero_add, List.range, List.range.loop]
  co_applyP OF.pu rfl (by rfl) (fun _ => run_eq_of ?run) (fun _ => by simp [go_sem, *])
  case run => intro K hK; go_simp; exact hK
  try walk_nrm
  co_applyP OF.callJ rfl (by rfl) rfl
  · walk_nrm
    exact hnew sh d ht hr H
  rintro _ K y' w hK1 ⟨rfl, hg1, H1⟩
  replace hg := hg.trans hg1
  replace hr := hg1.role.trans hr
  have hq1 : y'.role.quiet = false := by rw [hr]; rfl
  replace hq := hq1
  replace H := H1
  clear hg1 H1 hq1 hK1
  try walk_nrm
  co_applyP OF.pu rfl (by rfl) (fun _ => run_eq_of ?run) (fun _ => by simp [go_sem, *])
  case run => intro K hK; go_simp; exact hK
  try walk_nrm
  co_applyP OF.pu rfl (by rfl) (fun _ => run_eq_of ?run) (fun _ => by simp [go_sem, *])
  case run => intro K hK; go_simp; exact hK
  try walk_nrm
  co_applyP OF.pu rfl (by rfl) (fun _ => run_eq_of ?run) (fun _ => by simp [go_sem, *])
  case run => intro K hK; go_simp; exact hK
  try walk_nrm
  co_applyP OF.al rfl (by rfl) H hq (fun _ => run_eq_of ?run) (fun _ => by simp [go_sem, *])
  case run => intro K hK; go_simp; exact hK
  intro K w₁ y' w b10 hK1 hr1 hg1 hq1 hb1 hw1 H1
  replace hg := hg.trans hg1
  replace hr := hg1.role.trans hr
  replace hq := hq1
  replace H := H1
  clear hb1 hw1 hr1 hK1 hg1 hq1 H1
  try walk_nrm
  co_applyP OF.st1 0 0 rfl (by rfl) rfl H hq rfl rfl rfl rfl rfl (by kernel_rfl)
  intro K w₁ w hK1 hr1 hu1 H1
  replace H := H1
  clear hr1 hK1 hu1 H1
  simp only [List.set_cons_zero, List.setIfInBounds_toArray] at H
  try walk_nrm
  co_applyP OF.pu rfl (by rfl) (fun _ => run_eq_of ?run) (fun _ => by simp [go_sem, *])
  case run => intro K hK; go_simp; exact hK
  try walk_nrm
  co_apply OF.nil
  try simp only [thenF]
  co_apply WF.seqP (n₂ := 0)
  co_apply WF.seqP
  co_apply WF.region
  try simp only [List.size_toArray, List.length_cons, List.length_nil, Nat.reduceAdd, Nat.zero_add, List.range, List.range.loop]
  co_applyP OF.pu rfl (by rfl) (fun _ => run_eq_of ?run) (fun _ => by simp [go_sem, *])
  case run => intro K hK; go_simp; exact hK
  try walk_nrm
  co_applyP OF.pu rfl (by rfl) (fun _ => run_eq_of ?run) (fun _ => by simp [go_sem, *])
  case run => intro K hK; go_simp; exact hK
  try walk_nrm
  co_applyP OF.pu rfl (by rfl) (fun _ => run_eq_of ?run) (fun _ => by simp [go_sem, *])
  case run => intro K hK; go_simp; exact hK
  try walk_nrm
  first
  | (co_applyP OF.pu rfl (by rfl) (fun _ => run_eq_of ?run) (fun _ => by simp [go_sem, *]); case run => intro K hK; go_simp; exact hK)
  | co_apply OF.unwanted rfl (by rfl)
  try walk_nrm
  first
  | (co_applyP OF.pu rfl (by rfl) (fun _ => run_eq_of ?run) (fun _ => by simp [go_sem, *]); case run => intro K hK; go_simp; exact hK)
  | co_apply OF.unwanted rfl (by rfl)
  try walk_nrm
  co_applyP OF.pu rfl (by rfl) (fun _ => run_eq_of ?run) (fun _ => by simp [go_sem, *])
  case run => intro K hK; go_simp; exact hK
  try walk_nrm
  co_applyP OF.pu rfl (by rfl) (fun _ => run_eq_of ?run) (fun _ => by simp [go_sem, *])
  case run => intro K hK; go_simp; exact hK
  try walk_nrm
  first
  | (co_applyP OF.pu rfl (by rfl) (fun _ => run_eq_of ?run) (fun _ => by simp [go_sem, *]); case run => intro K hK; go_simp; exact hK)
  | co_apply OF.unwanted rfl (by rfl)
  try walk_nrm
  first
  | (co_applyP OF.pu rfl (by rfl) (fun _ => run_eq_of ?run) (fun _ => by simp [go_sem, *]); case run => intro K hK; go_simp; exact hK)
  | co_apply OF.unwanted rfl (by rfl)
  try walk_nrm
  co_applyP OF.pu rfl (by rfl) (fun _ => run_eq_of ?run) (fun _ => by simp [go_sem, *])
  case run => intro K hK; go_simp; exact hK
  try walk_nrm
  co_applyP OF.pu rfl (by rfl) (fun _ => run_eq_of ?run) (fun _ => by simp [go_sem, *])
  case run => intro K hK; go_simp; exact hK
  try walk_nrm
  first
  | (co_applyP OF.ld1 2 0 rfl (by rfl) rfl H hq rfl rfl rfl Try.underlying3 rfl; intro K w hK1 hr1 H1; replace H := H1; skip; clear hr1 hK1 H1)
  | co_apply OF.unwanted rfl (by rfl)
  try walk_nrm
  first
  | (co_applyP OF.pu rfl (by rfl) (fun _ => run_eq_of ?run) (fun _ => by simp [go_sem, *]); case run => intro K hK; go_simp; exact hK)
  | co_apply OF.unwanted rfl (by rfl)
  try walk_nrm
  co_applyP OF.pu rfl (by rfl) (fun _ => run_eq_of ?run) (fun _ => by simp [go_sem, *])
  case run => intro K hK; go_simp; exact hK
  try walk_nrm
  co_applyP OF.pu rfl (by rfl) (fun _ => run_eq_of ?run) (fun _ => by simp [go_sem, *])
  case run => intro K hK; go_simp; exact hK
  try walk_nrm
  first
  | (co_applyP OF.ld1 2 0 rfl (by rfl) rfl H hq rfl rfl rfl Try.underlying3 rfl; intro K w hK1 hr1 H1; replace H := H1; skip; clear hr1 hK1 H1)
  | co_apply OF.unwanted rfl (by rfl)
  try walk_nrm
  first
  | (co_applyP OF.pu rfl (by rfl) (fun _ => run_eq_of ?run) (fun _ => by simp [go_sem, *]); case run => intro K hK; go_simp; exact hK)
  | co_apply OF.unwanted rfl (by rfl)
  try walk_nrm
  co_applyP OF.pu rfl (by rfl) (fun _ => run_eq_of ?run) (fun _ => by simp [go_sem, *])
  case run => intro K hK; go_simp; exact hK
  try walk_nrm
  co_applyP OF.pu rfl (by rfl) (fun _ => run_eq_of ?run) (fun _ => by simp [go_sem, *])
  case run => intro K hK; go_simp; exact hK
  try walk_nrm
  first
  | (co_applyP OF.pu rfl (by rfl) (fun _ => run_eq_of ?run) (fun _ => by simp [go_sem, *]); case run => intro K hK; go_simp; exact hK)
  | co_apply OF.unwanted rfl (by rfl)
  try walk_nrm
  first
  | (co_applyP OF.pu rfl (by rfl) (fun _ => run_eq_of ?run) (fun _ => by simp [go_sem, *]); case run => intro K hK; go_simp; exact hK)
  | co_apply OF.unwanted rfl (by rfl)
  try walk_nrm
  co_applyP OF.pu rfl (by rfl) (fun _ => run_eq_of ?run) (fun _ => by simp [go_sem, *])
  case run => intro K hK; go_simp; exact hK
  try walk_nrm
  co_applyP OF.pu rfl (by rfl) (fun _ => run_eq_of ?run) (fun _ => by simp [go_sem, *])
  case run => intro K hK; go_simp; exact hK
  try walk_nrm
  first
  | (co_applyP OF.pu rfl (by rfl) (fun _ => run_eq_of ?run) (fun _ => by simp [go_sem, *]); case run => intro K hK; go_simp; exact hK)
  | co_apply OF.unwanted rfl (by rfl)
  try walk_nrm
  first
  | (co_applyP OF.pu rfl (by rfl) (fun _ => run_eq_of ?run) (fun _ => by simp [go_sem, *]); case run => intro K hK; go_simp; exact hK)
  | co_apply OF.unwanted rfl (by rfl)
  try walk_nrm
  co_applyP OF.pu rfl (by rfl) (fun _ => run_eq_of ?run) (fun _ => by simp [go_sem, *])
  case run => intro K hK; go_simp; exact hK
  try walk_nrm
  co_apply OF.nil
  try simp only [thenF]
  co_apply WF.cond (t := true) rfl
  simp only [↓reduceIte]
  co_apply WF.seqP
  co_apply WF.region
  try simp only [List.size_toArray, List.length_cons, List.length_nil, Nat.reduceAdd, Nat.zero_add, List.range, List.range.loop]
  co_applyP OF.pu rfl (by rfl) (fun _ => run_eq_of ?run) (fun _ => by simp [go_sem, *])
  case run => intro K hK; go_simp; exact hK
  try walk_nrm
  co_applyP OF.str 1 rfl (by rfl) rfl H hq rfl rfl rfl (by kernel_rfl) (by rfl) (by kernel_rfl)
  intro K w₁ w hK1 hr1 hu1 H1
  replace H := H1
  clear hr1 hK1 hu1 H1
  simp only [List.set_cons_zero, List.set_cons_succ] at H
  try walk_nrm
  co_applyP OF.pu rfl (by rfl) (fun _ => run_eq_of ?run) (fun _ => by simp [go_sem, *])
  case run => intro K hK; go_simp; exact hK
  try walk_nrm
  co_apply OF.nil
  try simp only [thenF]
  co_apply WF.ret
  try simp only [thenF]
  exact retG_cell_tmp 1 rfl H hq rfl rfl rfl Try.underlying38 rfl (by kernel_rfl) fun K₁ hK w₁ r H => ⟨rfl, hg, H.tail.tail.tail⟩

set_option maxHeartbeats 8000000 in
set_option maxRecDepth 100000 in
theorem storm_bad1 : ∃ nf, ∀ {N : Nat} {F : Nat → World → Prop} {m : Bool} {y : Gh Role} {K : Nat} {w : World} {l : List Row} (sh : Nat → Prop) (d wn tn kn : Int) (_ : 0 ≤ d) (_ : ¬ d ≤ 2147483647) (_ : y.role = .alone sh) (_ : Ctx N F y K w l), CJ (S N) m 40 #[.int .i64 d, .int .i64 wn, .int .i64 tn, .int .i64 kn] nf (fun r K' y' w' => r = .tuple #[.agg #[.int .i64 0, .bool false, .int .i64 0, .int .i64 0], .int .i64 1] ∧ Gr y y' ∧ Ctx N F y' K' w' l) K y w := by
  obtain ⟨nt, hnew⟩ := new_bad0
  co_apply Exists.intro
  intro N F m y K w l sh d wn tn kn h0 ht hr H
  have hg := Gr.refl y
  have hq : y.role.quiet = false := by rw [hr]; rfl
  co_apply CJ.of_WF Try.func40 (by kernel_rfl) (by rfl)
  simp only [show Try.f40.ntmps = 62 from rfl]
  try walk_nrm
  co_apply WF.seqP
  co_apply WF.region
  try simp only [List.size_toArray, List.length_cons, List.length_nil, Nat.reduceAdd, Nat.zero_add, List.range, List.range.loop]
  co_applyP OF.al rfl (by rfl) H hq (fun _ => run_eq_of ?run) (fun _ => by simp [go_sem, *])
  case run => intro K hK; go_simp; exact hK
  intro K w₁ y' w b6 hK1 hr1 hg1 hq1 hb1 hw1 H1
  replace hg := hg.trans hg1
  replace hr := hg1.role.trans hr
  replace hq := hq1
  replace H := H1
  clear hb1 hw1 hr1 hK1 hg1 hq1 H1
  try walk_nrm
  co_applyP OF.al rfl (by rfl) H hq (fun _ => run_eq_of ?run) (fun _ => by simp [go_sem, *])
  case run => intro K hK; go_simp; exact hK
  intro K w₁ y' w b8 hK1 hr1 hg1 hq1 hb1 hw1 H1
  replace hg := hg.trans hg1
  replace hr := hg1.role.trans hr
  replace hq := hq1
  replace H := H1
  clear hb1 hw1 hr1 hK1 hg1 hq1 H1
  try walk_nrm
  co_applyP OF.pu rfl (by rfl) (fun _ => run_eq_of ?run) (fun _ => by simp [go_sem, *])
  case run => intro K hK; go_simp; exact hK
  try walk_nrm
  co_apply OF.nil
  try simp only [thenF]
  co_apply WF.seqP
  co_apply WF.region
  try simp only [List.size_toArray, List.length_cons, List.length_nil, Nat.reduceAdd, Nat.zero_add, List.range, List.range.loop]
  co_applyP OF.pu rfl (by rfl) (fun _ => run_eq_of ?run) (fun _ => by simp [go_sem, *])
  case run => intro K hK; go_simp; exact hK
  try walk_nrm
  co_applyP OF.callJ rfl (by rfl) rfl
  · walk_nrm
    exact hnew sh d h0 ht hr H
  rintro _ K y' w hK1 ⟨rfl, hg1, H1⟩
  replace hg := hg.trans hg1
  replace hr := hg1.role.trans hr
  have hq1 : y'.role.quiet = false := by rw [hr]; rfl
  replace hq := hq1
  replace H := H1
  clear hg1 H1 hq1 hK1
  try walk_nrm
  co_applyP OF.pu rfl (by rfl) (fun _ => run_eq_of ?run) (fun _ => by simp [go_sem, *])
  case run => intro K hK; go_simp; exact hK
  try walk_nrm
  co_applyP OF.pu rfl (by rfl) (fun _ => run_eq_of ?run) (fun _ => by simp [go_sem, *])
  case run => intro K hK; go_simp; exact hK
  try walk_nrm
  co_applyP OF.pu rfl (by rfl) (fun _ => run_eq_of ?run) (fun _ => by simp [go_sem, *])
  case run => intro K hK; go_simp; exact hK
  try walk_nrm
  co_applyP OF.al rfl (by rfl) H hq (fun _ => run_eq_of ?run) (fun _ => by simp [go_sem, *])
  case run => intro K hK; go_simp; exact hK
  intro K w₁ y' w b10 hK1 hr1 hg1 hq1 hb1 hw1 H1
  replace hg := hg.trans hg1
  replace hr := hg1.role.trans hr
  replace hq := hq1
  replace H := H1
  clear hb1 hw1 hr1 hK1 hg1 hq1 H1
  try walk_nrm
  co_applyP OF.st1 0 0 rfl (by rfl) rfl H hq rfl rfl rfl rfl rfl (by kernel_rfl)
  intro K w₁ w hK1 hr1 hu1 H1
  replace H := H1
  clear hr1 hK1 hu1 H1
  simp only [List.set_cons_zero, List.setIfInBounds_toArray] at H
  try walk_nrm
  co_applyP OF.pu rfl (by rfl) (fun _ => run_eq_of ?run) (fun _ => by simp [go_sem, *])
  case run => intro K hK; go_simp; exact hK
  try walk_nrm
  co_apply OF.nil
  try simp only [thenF]
  co_apply WF.seqP (n₂ := 0)
  co_apply WF.seqP
  co_apply WF.region
  try simp only [List.size_toArray, List.length_cons, List.length_nil, Nat.reduceAdd, Nat.zero_add, List.range, List.range.loop]
  co_applyP OF.pu rfl (by rfl) (fun _ => run_eq_of ?run) (fun _ => by simp [go_sem, *])
  case run => intro K hK; go_simp; exact hK
  try walk_nrm
  co_applyP OF.pu rfl (by rfl) (fun _ => run_eq_of ?run) (fun _ => by simp [go_sem, *])
  case run => intro K hK; go_simp; exact hK
  try walk_nrm
  co_applyP OF.pu rfl (by rfl) (fun _ => run_eq_of ?run) (fun _ => by simp [go_sem, *])
  case run => intro K hK; go_simp; exact hK
  try walk_nrm
  first
  | (co_applyP OF.pu rfl (by rfl) (fun _ => run_eq_of ?run) (fun _ => by simp [go_sem, *]); case run => intro K hK; go_simp; exact hK)
  | co_apply OF.unwanted rfl (by rfl)
  try walk_nrm
  first
  | (co_applyP OF.pu rfl (by rfl) (fun _ => run_eq_of ?run) (fun _ => by simp [go_sem, *]); case run => intro K hK; go_simp; exact hK)
  | co_apply OF.unwanted rfl (by rfl)
  try walk_nrm
  co_applyP OF.pu rfl (by rfl) (fun _ => run_eq_of ?run) (fun _ => by simp [go_sem, *])
  case run => intro K hK; go_simp; exact hK
  try walk_nrm
  co_applyP OF.pu rfl (by rfl) (fun _ => run_eq_of ?run) (fun _ => by simp [go_sem, *])
  case run => intro K hK; go_simp; exact hK
  try walk_nrm
  first
  | (co_applyP OF.pu rfl (by rfl) (fun _ => run_eq_of ?run) (fun _ => by simp [go_sem, *]); case run => intro K hK; go_simp; exact hK)
  | co_apply OF.unwanted rfl (by rfl)
  try walk_nrm
  first
  | (co_applyP OF.pu rfl (by rfl) (fun _ => run_eq_of ?run) (fun _ => by simp [go_sem, *]); case run => intro K hK; go_simp; exact hK)
  | co_apply OF.unwanted rfl (by rfl)
  try walk_nrm
  co_applyP OF.pu rfl (by rfl) (fun _ => run_eq_of ?run) (fun _ => by simp [go_sem, *])
  case run => intro K hK; go_simp; exact hK
  try walk_nrm
  co_applyP OF.pu rfl (by rfl) (fun _ => run_eq_of ?run) (fun _ => by simp [go_sem, *])
  case run => intro K hK; go_simp; exact hK
  try walk_nrm
  first
  | (co_applyP OF.ld1 2 0 rfl (by rfl) rfl H hq rfl rfl rfl Try.underlying3 rfl; intro K w hK1 hr1 H1; replace H := H1; skip; clear hr1 hK1 H1)
  | co_apply OF.unwanted rfl (by rfl)
  try walk_nrm
  first
  | (co_applyP OF.pu rfl (by rfl) (fun _ => run_eq_of ?run) (fun _ => by simp [go_sem, *]); case run => intro K hK; go_simp; exact hK)
  | co_apply OF.unwanted rfl (by rfl)
  try walk_nrm
  co_applyP OF.pu rfl (by rfl) (fun _ => run_eq_of ?run) (fun _ => by simp [go_sem, *])
  case run => intro K hK; go_simp; exact hK
  try walk_nrm
  co_applyP OF.pu rfl (by rfl) (fun _ => run_eq_of ?run) (fun _ => by simp [go_sem, *])
  case run => intro K hK; go_simp; exact hK
  try walk_nrm
  first
  | (co_applyP OF.ld1 2 0 rfl (by rfl) rfl H hq rfl rfl rfl Try.underlying3 rfl; intro K w hK1 hr1 H1; replace H := H1; skip; clear hr1 hK1 H1)
  | co_apply OF.unwanted rfl (by rfl)
  try walk_nrm
  first
  | (co_applyP OF.pu rfl (by rfl) (fun _ => run_eq_of ?run) (fun _ => by simp [go_sem, *]); case run => intro K hK; go_simp; exact hK)
  | co_apply OF.unwanted rfl (by rfl)
  try walk_nrm
  co_applyP OF.pu rfl (by rfl) (fun _ => run_eq_of ?run) (fun _ => by simp [go_sem, *])
  case run => intro K hK; go_simp; exact hK
  try walk_nrm
  co_applyP OF.pu rfl (by rfl) (fun _ => run_eq_of ?run) (fun _ => by simp [go_sem, *])
  case run => intro K hK; go_simp; exact hK
  try walk_nrm
  first
  | (co_applyP OF.pu rfl (by rfl) (fun _ => run_eq_of ?run) (fun _ => by simp [go_sem, *]); case run => intro K hK; go_simp; exact hK)
  | co_apply OF.unwanted rfl (by rfl)
  try walk_nrm
  first
  | (co_applyP OF.pu rfl (by rfl) (fun _ => run_eq_of ?run) (fun _ => by simp [go_sem, *]); case run => intro K hK; go_simp; exact hK)
  | co_apply OF.unwanted rfl (by rfl)
  try walk_nrm
  co_applyP OF.pu rfl (by rfl) (fun _ => run_eq_of ?run) (fun _ => by simp [go_sem, *])
  case run => intro K hK; go_simp; exact hK
  try walk_nrm
  co_applyP OF.pu rfl (by rfl) (fun _ => run_eq_of ?run) (fun _ => by simp [go_sem, *])
  case run => intro K hK; go_simp; exact hK
  try walk_nrm
  first
  | (co_applyP OF.pu rfl (by rfl) (fun _ => run_eq_of ?run) (fun _ => by simp [go_sem, *]); case run => intro K hK; go_simp; exact hK)
  | co_apply OF.unwanted rfl (by rfl)
  try walk_nrm
  first
  | (co_applyP OF.pu rfl (by rfl) (fun _ => run_eq_of ?run) (fun _ => by simp [go_sem, *]); case run => intro K hK; go_simp; exact hK)
  | co_apply OF.unwanted rfl (by rfl)
  try walk_nrm
  co_applyP OF.pu rfl (by rfl) (fun _ => run_eq_of ?run) (fun _ => by simp [go_sem, *])
  case run => intro K hK; go_simp; exact hK
  try walk_nrm
  co_apply OF.nil
  try simp only [thenF]
  co_apply WF.cond (t := true) rfl
  simp only [↓reduceIte]
  co_apply WF.seqP
  co_apply WF.region
  try simp only [List.size_toArray, List.length_cons, List.length_nil, Nat.reduceAdd, Nat.zero_add, List.range, List.range.loop]
  co_applyP OF.pu rfl (by rfl) (fun _ => run_eq_of ?run) (fun _ => by simp [go_sem, *])
  case run => intro K hK; go_simp; exact hK
  try walk_nrm
  co_applyP OF.str 1 rfl (by rfl) rfl H hq rfl rfl rfl (by kernel_rfl) (by rfl) (by kernel_rfl)
  intro K w₁ w hK1 hr1 hu1 H1
  replace H := H1
  clear hr1 hK1 hu1 H1
  simp only [List.set_cons_zero, List.set_cons_succ] at H
  try walk_nrm
  co_applyP OF.pu rfl (by rfl) (fun _ => run_eq_of ?run) (fun _ => by simp [go_sem, *])
  case run => intro K hK; go_simp; exact hK
  try walk_nrm
  co_apply OF.nil
  try simp only [thenF]
  co_apply WF.ret
  try simp only [thenF]
  exact retG_cell_tmp 1 rfl H hq rfl rfl rfl Try.underlying38 rfl (by kernel_rfl) fun K₁ hK w₁ r H => ⟨rfl, hg, H.tail.tail.tail⟩

set_option maxHeartbeats 8000000 in
set_option maxRecDepth 100000 in
theorem storm_bad2 : ∃ nf, ∀ {N : Nat} {F : Nat → World → Prop} {m : Bool} {y : Gh Role} {K : Nat} {w : World} {l : List Row} (sh : Nat → Prop) (d wn tn kn : Int) (_ : 0 ≤ d) (_ : d ≤ 2147483647) (_ : wn < 1) (_ : y.role = .alone sh) (_ : Ctx N F y K w l), CJ (S N) m 40 #[.int .i64 d, .int .i64 wn, .int .i64 tn, .int .i64 kn] nf (fun r K' y' w' => r = .tuple #[.agg #[.int .i64 0, .bool false, .int .i64 0, .int .i64 0], .int .i64 1] ∧ Gr y y' ∧ Ctx N F y' K' w' l) K y w := by
  obtain ⟨nt, hnew⟩ := new_ok
  co_apply Exists.intro
  intro N F m y K w l sh d wn tn kn h0 h1 q0 hr H
  have hg := Gr.refl y
  have hq : y.role.quiet = false := by rw [hr]; rfl
  have r0 : decide (wn < 1) = true := by simp <;> omega
  co_apply CJ.of_WF Try.func40 (by kernel_rfl) (by rfl)
  simp only [show Try.f40.ntmps = 62 from rfl]
  try walk_nrm
  co_apply WF.seqP
  co_apply WF.region
  try simp only [List.size_toArray, List.length_cons, List.length_nil, Nat.reduceAdd, Nat.zero_add, List.range, List.range.loop]
  co_applyP OF.al rfl (by rfl) H hq (fun _ => run_eq_of ?run) (fun _ => by simp [go_sem, *])
  case run => intro K hK; go_simp; exact hK
  intro K w₁ y' w b6 hK1 hr1 hg1 hq1 hb1 hw1 H1
  replace hg := hg.trans hg1
  replace hr := hg1.role.trans hr
  replace hq := hq1
  replace H := H1
  clear hb1 hw1 hr1 hK1 hg1 hq1 H1
  try walk_nrm
  co_applyP OF.al rfl (by rfl) H hq (fun _ => run_eq_of ?run) (fun _ => by simp [go_sem, *])
  case run => intro K hK; go_simp; exact hK
  intro K w₁ y' w b8 hK1 hr1 hg1 hq1 hb1 hw1 H1
  replace hg := hg.trans hg1
  replace hr := hg1.role.trans hr
  replace hq := hq1
  replace H := H1
  clear hb1 hw1 hr1 hK1 hg1 hq1 H1
  try walk_nrm
  co_applyP OF.pu rfl (by rfl) (fun _ => run_eq_of ?run) (fun _ => by simp [go_sem, *])
  case run => intro K hK; go_simp; exact hK
  try walk_nrm
  co_apply OF.nil
  try simp only [thenF]
  co_apply WF.seqP
  co_apply WF.region
  try simp only [List.size_toArray, List.length_cons, List.length_nil, Nat.reduceAdd, Nat.zero_add, List.range, List.range.loop]
  co_applyP OF.pu rfl (by rfl) (fun _ => run_eq_of ?run) (fun _ => by simp [go_sem, *])
  case run => intro K hK; go_simp; exact hK
  try walk_nrm
  co_applyP OF.callJ rfl (by rfl) rfl
  · walk_nrm
    exact hnew sh d h0 h1 hr H
  rintro _ K y' w hK1 ⟨g, rfl, hg1, H1⟩
  replace hg := hg.trans hg1
  replace hr := hg1.role.trans hr
  have hq1 : y'.role.quiet = false := by rw [hr]; rfl
  replace hq := hq1
  replace H := H1
  clear hg1 H1 hq1 hK1
  try walk_nrm
  co_applyP OF.pu rfl (by rfl) (fun _ => run_eq_of ?run) (fun _ => by simp [go_sem, *])
  case run => intro K hK; go_simp; exact hK
  try walk_nrm
  co_applyP OF.pu rfl (by rfl) (fun _ => run_eq_of ?run) (fun _ => by simp [go_sem, *])
  case run => intro K hK; go_simp; exact hK
  try walk_nrm
  co_applyP OF.pu rfl (by rfl) (fun _ => run_eq_of ?run) (fun _ => by simp [go_sem, *])
  case run => intro K hK; go_simp; exact hK
  try walk_nrm
  co_applyP OF.al rfl (by rfl) H hq (fun _ => run_eq_of ?run) (fun _ => by simp [go_sem, *])
  case run => intro K hK; go_simp; exact hK
  intro K w₁ y' w b10 hK1 hr1 hg1 hq1 hb1 hw1 H1
  replace hg := hg.trans hg1
  replace hr := hg1.role.trans hr
  replace hq := hq1
  replace H := H1
  clear hb1 hw1 hr1 hK1 hg1 hq1 H1
  try walk_nrm
  co_applyP OF.st1 0 0 rfl (by rfl) rfl H hq rfl rfl rfl rfl rfl (by kernel_rfl)
  intro K w₁ w hK1 hr1 hu1 H1
  replace H := H1
  clear hr1 hK1 hu1 H1
  simp only [List.set_cons_zero, List.setIfInBounds_toArray] at H
  try walk_nrm
  co_applyP OF.pu rfl (by rfl) (fun _ => run_eq_of ?run) (fun _ => by simp [go_sem, *])
  case run => intro K hK; go_simp; exact hK
  try walk_nrm
  co_apply OF.nil
  try simp only [thenF]
  co_apply WF.seqP (n₂ := 0)
  co_apply WF.seqP
  co_apply WF.region
  try simp only [List.size_toArray, List.length_cons, List.length_nil, Nat.reduceAdd, Nat.zero_add, List.range, List.range.loop]
  co_applyP OF.pu rfl (by rfl) (fun _ => run_eq_of ?run) (fun _ => by simp [go_sem, *])
  case run => intro K hK; go_simp; exact hK
  try walk_nrm
  co_applyP OF.pu rfl (by rfl) (fun _ => run_eq_of ?run) (fun _ => by simp [go_sem, *])
  case run => intro K hK; go_simp; exact hK
  try walk_nrm
  co_applyP OF.pu rfl (by rfl) (fun _ => run_eq_of ?run) (fun _ => by simp [go_sem, *])
  case run => intro K hK; go_simp; exact hK
  try walk_nrm
  first
  | (co_applyP OF.pu rfl (by rfl) (fun _ => run_eq_of ?run) (fun _ => by simp [go_sem, *]); case run => intro K hK; go_simp; exact hK)
  | co_apply OF.unwanted rfl (by rfl)
  try walk_nrm
  first
  | (co_applyP OF.pu rfl (by rfl) (fun _ => run_eq_of ?run) (fun _ => by simp [go_sem, *]); case run => intro K hK; go_simp; exact hK)
  | co_apply OF.unwanted rfl (by rfl)
  try walk_nrm
  co_applyP OF.pu rfl (by rfl) (fun _ => run_eq_of ?run) (fun _ => by simp [go_sem, *])
  case run => intro K hK; go_simp; exact hK
  try walk_nrm
  co_applyP OF.pu rfl (by rfl) (fun _ => run_eq_of ?run) (fun _ => by simp [go_sem, *])
  case run => intro K hK; go_simp; exact hK
  try walk_nrm
  first
  | (co_applyP OF.pu rfl (by rfl) (fun _ => run_eq_of ?run) (fun _ => by simp [go_sem, *]); case run => intro K hK; go_simp; exact hK)
  | co_apply OF.unwanted rfl (by rfl)
  try walk_nrm
  first
  | (co_applyP OF.pu rfl (by rfl) (fun _ => run_eq_of ?run) (fun _ => by simp [go_sem, *]); case run => intro K hK; go_simp; exact hK)
  | co_apply OF.unwanted rfl (by rfl)
  try walk_nrm
  co_applyP OF.pu rfl (by rfl) (fun _ => run_eq_of ?run) (fun _ => by simp [go_sem, *])
  case run => intro K hK; go_simp; exact hK
  try walk_nrm
  co_applyP OF.pu rfl (by rfl) (fun _ => run_eq_of ?run) (fun _ => by simp [go_sem, *])
  case run => intro K hK; go_simp; exact hK
  try walk_nrm
  first
  | (co_applyP OF.ld1 3 0 rfl (by rfl) rfl H hq rfl rfl rfl Try.underlying3 rfl; intro K w hK1 hr1 H1; replace H := H1; skip; clear hr1 hK1 H1)
  | co_apply OF.unwanted rfl (by rfl)
  try walk_nrm
  first
  | (co_applyP OF.pu rfl (by rfl) (fun _ => run_eq_of ?run) (fun _ => by simp [go_sem, *]); case run => intro K hK; go_simp; exact hK)
  | co_apply OF.unwanted rfl (by rfl)
  try walk_nrm
  co_applyP OF.pu rfl (by rfl) (fun _ => run_eq_of ?run) (fun _ => by simp [go_sem, *])
  case run => intro K hK; go_simp; exact hK
  try walk_nrm
  co_applyP OF.pu rfl (by rfl) (fun _ => run_eq_of ?run) (fun _ => by simp [go_sem, *])
  case run => intro K hK; go_simp; exact hK
  try walk_nrm
  first
  | (co_applyP OF.ld1 3 0 rfl (by rfl) rfl H hq rfl rfl rfl Try.underlying3 rfl; intro K w hK1 hr1 H1; replace H := H1; skip; clear hr1 hK1 H1)
  | co_apply OF.unwanted rfl (by rfl)
  try walk_nrm
  first
  | (co_applyP OF.pu rfl (by rfl) (fun _ => run_eq_of ?run) (fun _ => by simp [go_sem, *]); case run => intro K hK; go_simp; exact hK)
  | co_apply OF.unwanted rfl (by rfl)
  try walk_nrm
  co_applyP OF.pu rfl (by rfl) (fun _ => run_eq_of ?run) (fun _ => by simp [go_sem, *])
  case run => intro K hK; go_simp; exact hK
  try walk_nrm
  co_applyP OF.pu rfl (by rfl) (fun _ => run_eq_of ?run) (fun _ => by simp [go_sem, *])
  case run => intro K hK; go_simp; exact hK
  try walk_nrm
  first
  | (co_applyP OF.pu rfl (by rfl) (fun _ => run_eq_of ?run) (fun _ => by simp [go_sem, *]); case run => intro K hK; go_simp; exact hK)
  | co_apply OF.unwanted rfl (by rfl)
  try walk_nrm
  first
  | (co_applyP OF.pu rfl (by rfl) (fun _ => run_eq_of ?run) (fun _ => by simp [go_sem, *]); case run => intro K hK; go_simp; exact hK)
  | co_apply OF.unwanted rfl (by rfl)
  try walk_nrm
  co_applyP OF.pu rfl (by rfl) (fun _ => run_eq_of ?run) (fun _ => by simp [go_sem, *])
  case run => intro K hK; go_simp; exact hK
  try walk_nrm
  co_applyP OF.pu rfl (by rfl) (fun _ => run_eq_of ?run) (fun _ => by simp [go_sem, *])
  case run => intro K hK; go_simp; exact hK
  try walk_nrm
  first
  | (co_applyP OF.pu rfl (by rfl) (fun _ => run_eq_of ?run) (fun _ => by simp [go_sem, *]); case run => intro K hK; go_simp; exact hK)
  | co_apply OF.unwanted rfl (by rfl)
  try walk_nrm
  first
  | (co_applyP OF.pu rfl (by rfl) (fun _ => run_eq_of ?run) (fun _ => by simp [go_sem, *]); case run => intro K hK; go_simp; exact hK)
  | co_apply OF.unwanted rfl (by rfl)
  try walk_nrm
  co_applyP OF.pu rfl (by rfl) (fun _ => run_eq_of ?run) (fun _ => by simp [go_sem, *])
  case run => intro K hK; go_simp; exact hK
  try walk_nrm
  co_apply OF.nil
  try simp only [thenF]
  co_apply WF.cond (t := true) rfl
  simp only [↓reduceIte]
  co_apply WF.seqP
  co_apply WF.region
  try simp only [List.size_toArray, List.length_cons, List.length_nil, Nat.reduceAdd, Nat.zero_add, List.range, List.range.loop]
  co_applyP OF.pu rfl (by rfl) (fun _ => run_eq_of ?run) (fun _ => by simp [go_sem, *])
  case run => intro K hK; go_simp; exact hK
  try walk_nrm
  co_applyP OF.str 2 rfl (by rfl) rfl H hq rfl rfl rfl (by kernel_rfl) (by rfl) (by kernel_rfl)
  intro K w₁ w hK1 hr1 hu1 H1
  replace H := H1
  clear hr1 hK1 hu1 H1
  simp only [List.set_cons_zero, List.set_cons_succ] at H
  try walk_nrm
  co_applyP OF.pu rfl (by rfl) (fun _ => run_eq_of ?run) (fun _ => by simp [go_sem, *])
  case run => intro K hK; go_simp; exact hK
  try walk_nrm
  co_apply OF.nil
  try simp only [thenF]
  co_apply WF.ret
  try simp only [thenF]
  exact retG_cell_tmp 2 rfl H hq rfl rfl rfl Try.underlying38 rfl (by kernel_rfl) fun K₁ hK w₁ r H => ⟨rfl, hg, H.tail.tail.tail.tail⟩

set_option maxHeartbeats 8000000 in
set_option maxRecDepth 100000 in
theorem storm_bad3 : ∃ nf, ∀ {N : Nat} {F : Nat → World → Prop} {m : Bool} {y : Gh Role} {K : Nat} {w : World} {l : List Row} (sh : Nat → Prop) (d wn tn kn : Int) (_ : 0 ≤ d) (_ : d ≤ 2147483647) (_ : ¬ wn < 1) (_ : 16 < wn) (_ : y.role = .alone sh) (_ : Ctx N F y K w l), CJ (S N) m 40 #[.int .i64 d, .int .i64 wn, .int .i64 tn, .int .i64 kn] nf (fun r K' y' w' => r = .tuple #[.agg #[.int .i64 0, .bool false, .int .i64 0, .int .i64 0], .int .i64 1] ∧ Gr y y' ∧ Ctx N F y' K' w' l) K y w := by
  obtain ⟨nt, hnew⟩ := new_ok
  co_apply Exists.intro
  intro N F m y K w l sh d wn tn kn h0 h1 q0 q1 hr H
  have hg := Gr.refl y
  have hq : y.role.quiet = false := by rw [hr]; rfl
  have r0 : decide (wn < 1) = false := by simp <;> omega
  have r1 : decide (wn > 16) = true := by simp <;> omega
  co_apply CJ.of_WF Try.func40 (by kernel_rfl) (by rfl)
  simp only [show Try.f40.ntmps = 62 from rfl]
  try walk_nrm
  co_apply WF.seqP
  co_apply WF.region
  try simp only [List.size_toArray, List.length_cons, List.length_nil, Nat.reduceAdd, Nat.zero_add, List.range, List.range.loop]
  co_applyP OF.al rfl (by rfl) H hq (fun _ => run_eq_of ?run) (fun _ => by simp [go_sem, *])
  case run => intro K hK; go_simp; exact hK
  intro K w₁ y' w b6 hK1 hr1 hg1 hq1 hb1 hw1 H1
  replace hg := hg.trans hg1
  replace hr := hg1.role.trans hr
  replace hq := hq1
  replace H := H1
  clear hb1 hw1 hr1 hK1 hg1 hq1 H1
  try walk_nrm
  co_applyP OF.al rfl (by rfl) H hq (fun _ => run_eq_of ?run) (fun _ => by simp [go_sem, *])
  case run => intro K hK; go_simp; exact hK
  intro K w₁ y' w b8 hK1 hr1 hg1 hq1 hb1 hw1 H1
  replace hg := hg.trans hg1
  replace hr := hg1.role.trans hr
  replace hq := hq1
  replace H := H1
  clear hb1 hw1 hr1 hK1 hg1 hq1 H1
  try walk_nrm
  co_applyP OF.pu rfl (by rfl) (fun _ => run_eq_of ?run) (fun _ => by simp [go_sem, *])
  case run => intro K hK; go_simp; exact hK
  try walk_nrm
  co_apply OF.nil
  try simp only [thenF]
  co_apply WF.seqP
  co_apply WF.region
  try simp only [List.size_toArray, List.length_cons, List.length_nil, Nat.reduceAdd, Nat.zero_add, List.range, List.range.loop]
  co_applyP OF.pu rfl (by rfl) (fun _ => run_eq_of ?run) (fun _ => by simp [go_sem, *])
  case run => intro K hK; go_simp; exact hK
  try walk_nrm
  co_applyP OF.callJ rfl (by rfl) rfl
  · walk_nrm
    exact hnew sh d h0 h1 hr H
  rintro _ K y' w hK1 ⟨g, rfl, hg1, H1⟩
  replace hg := hg.trans hg1
  replace hr := hg1.role.trans hr
  have hq1 : y'.role.quiet = false := by rw [hr]; rfl
  replace hq := hq1
  replace H := H1
  clear hg1 H1 hq1 hK1
  try walk_nrm
  co_applyP OF.pu rfl (by rfl) (fun _ => run_eq_of ?run) (fun _ => by simp [go_sem, *])
  case run => intro K hK; go_simp; exact hK
  try walk_nrm
  co_applyP OF.pu rfl (by rfl) (fun _ => run_eq_of ?run) (fun _ => by simp [go_sem, *])
  case run => intro K hK; go_simp; exact hK
  try walk_nrm
  co_applyP OF.pu rfl (by rfl) (fun _ => run_eq_of ?run) (fun _ => by simp [go_sem, *])
  case run => intro K hK; go_simp; exact hK
  try walk_nrm
  co_applyP OF.al rfl (by rfl) H hq (fun _ => run_eq_of ?run) (fun _ => by simp [go_sem, *])
  case run => intro K hK; go_simp; exact hK
  intro K w₁ y' w b10 hK1 hr1 hg1 hq1 hb1 hw1 H1
  replace hg := hg.trans hg1
  replace hr := hg1.role.trans hr
  replace hq := hq1
  replace H := H1
  clear hb1 hw1 hr1 hK1 hg1 hq1 H1
  try walk_nrm
  co_applyP OF.st1 0 0 rfl (by rfl) rfl H hq rfl rfl rfl rfl rfl (by kernel_rfl)
  intro K w₁ w hK1 hr1 hu1 H1
  replace H := H1
  clear hr1 hK1 hu1 H1
  simp only [List.set_cons_zero, List.setIfInBounds_toArray] at H
  try walk_nrm
  co_applyP OF.pu rfl (by rfl) (fun _ => run_eq_of ?run) (fun _ => by simp [go_sem, *])
  case run => intro K hK; go_simp; exact hK
  try walk_nrm
  co_apply OF.nil
  try simp only [thenF]
  co_apply WF.seqP (n₂ := 0)
  co_apply WF.seqP
  co_apply WF.region
  try simp only [List.size_toArray, List.length_cons, List.length_nil, Nat.reduceAdd, Nat.zero_add, List.range, List.range.loop]
  co_applyP OF.pu rfl (by rfl) (fun _ => run_eq_of ?run) (fun _ => by simp [go_sem, *])
  case run => intro K hK; go_simp; exact hK
  try walk_nrm
  co_applyP OF.pu rfl (by rfl) (fun _ => run_eq_of ?run) (fun _ => by simp [go_sem, *])
  case run => intro K hK; go_simp; exact hK
  try walk_nrm
  co_applyP OF.pu rfl (by rfl) (fun _ => run_eq_of ?run) (fun _ => by simp [go_sem, *])
  case run => intro K hK; go_simp; exact hK
  try walk_nrm
  first
  | (co_applyP OF.pu rfl (by rfl) (fun _ => run_eq_of ?run) (fun _ => by simp [go_sem, *]); case run => intro K hK; go_simp; exact hK)
  | co_apply OF.unwanted rfl (by rfl)
  try walk_nrm
  first
  | (co_applyP OF.pu rfl (by rfl) (fun _ => run_eq_of ?run) (fun _ => by simp [go_sem, *]); case run => intro K hK; go_simp; exact hK)
  | co_apply OF.unwanted rfl (by rfl)
  try walk_nrm
  co_applyP OF.pu rfl (by rfl) (fun _ => run_eq_of ?run) (fun _ => by simp [go_sem, *])
  case run => intro K hK; go_simp; exact hK
  try walk_nrm
  co_applyP OF.pu rfl (by rfl) (fun _ => run_eq_of ?run) (fun _ => by simp [go_sem, *])
  case run => intro K hK; go_simp; exact hK
  try walk_nrm
  first
  | (co_applyP OF.pu rfl (by rfl) (fun _ => run_eq_of ?run) (fun _ => by simp [go_sem, *]); case run => intro K hK; go_simp; exact hK)
  | co_apply OF.unwanted rfl (by rfl)
  try walk_nrm
  first
  | (co_applyP OF.pu rfl (by rfl) (fun _ => run_eq_of ?run) (fun _ => by simp [go_sem, *]); case run => intro K hK; go_simp; exact hK)
  | co_apply OF.unwanted rfl (by rfl)
  try walk_nrm
  co_applyP OF.pu rfl (by rfl) (fun _ => run_eq_of ?run) (fun _ => by simp [go_sem, *])
  case run => intro K hK; go_simp; exact hK
  try walk_nrm
  co_applyP OF.pu rfl (by rfl) (fun _ => run_eq_of ?run) (fun _ => by simp [go_sem, *])
  case run => intro K hK; go_simp; exact hK
  try walk_nrm
  first
  | (co_applyP OF.ld1 3 0 rfl (by rfl) rfl H hq rfl rfl rfl Try.underlying3 rfl; intro K w hK1 hr1 H1; replace H := H1; skip; clear hr1 hK1 H1)
  | co_apply OF.unwanted rfl (by rfl)
  try walk_nrm
  first
  | (co_applyP OF.pu rfl (by rfl) (fun _ => run_eq_of ?run) (fun _ => by simp [go_sem, *]); case run => intro K hK; go_simp; exact hK)
  | co_apply OF.unwanted rfl (by rfl)
  try walk_nrm
  co_applyP OF.pu rfl (by rfl) (fun _ => run_eq_of ?run) (fun _ => by simp [go_sem, *])
  case run => intro K hK; go_simp; exact hK
  try walk_nrm
  co_applyP OF.pu rfl (by rfl) (fun _ => run_eq_of ?run) (fun _ => by simp [go_sem, *])
  case run => intro K hK; go_simp; exact hK
  try walk_nrm
  first
  | (co_applyP OF.ld1 3 0 rfl (by rfl) rfl H hq rfl rfl rfl Try.underlying3 rfl; intro K w hK1 hr1 H1; replace H := H1; skip; clear hr1 hK1 H1)
  | co_apply OF.unwanted rfl (by rfl)
  try walk_nrm
  first
  | (co_applyP OF.pu rfl (by rfl) (fun _ => run_eq_of ?run) (fun _ => by simp [go_sem, *]); case run => intro K hK; go_simp; exact hK)
  | co_apply OF.unwanted rfl (by rfl)
  try walk_nrm
  co_applyP OF.pu rfl (by rfl) (fun _ => run_eq_of ?run) (fun _ => by simp [go_sem, *])
  case run => intro K hK; go_simp; exact hK
  try walk_nrm
  co_applyP OF.pu rfl (by rfl) (fun _ => run_eq_of ?run) (fun _ => by simp [go_sem, *])
  case run => intro K hK; go_simp; exact hK
  try walk_nrm
  first
  | (co_applyP OF.pu rfl (by rfl) (fun _ => run_eq_of ?run) (fun _ => by simp [go_sem, *]); case run => intro K hK; go_simp; exact hK)
  | co_apply OF.unwanted rfl (by rfl)
  try walk_nrm
  first
  | (co_applyP OF.pu rfl (by rfl) (fun _ => run_eq_of ?run) (fun _ => by simp [go_sem, *]); case run => intro K hK; go_simp; exact hK)
  | co_apply OF.unwanted rfl (by rfl)
  try walk_nrm
  co_applyP OF.pu rfl (by rfl) (fun _ => run_eq_of ?run) (fun _ => by simp [go_sem, *])
  case run => intro K hK; go_simp; exact hK
  try walk_nrm
  co_applyP OF.pu rfl (by rfl) (fun _ => run_eq_of ?run) (fun _ => by simp [go_sem, *])
  case run => intro K hK; go_simp; exact hK
  try walk_nrm
  first
  | (co_applyP OF.pu rfl (by rfl) (fun _ => run_eq_of ?run) (fun _ => by simp [go_sem, *]); case run => intro K hK; go_simp; exact hK)
  | co_apply OF.unwanted rfl (by rfl)
  try walk_nrm
  first
  | (co_applyP OF.pu rfl (by rfl) (fun _ => run_eq_of ?run) (fun _ => by simp [go_sem, *]); case run => intro K hK; go_simp; exact hK)
  | co_apply OF.unwanted rfl (by rfl)
  try walk_nrm
  co_applyP OF.pu rfl (by rfl) (fun _ => run_eq_of ?run) (fun _ => by simp [go_sem, *])
  case run => intro K hK; go_simp; exact hK
  try walk_nrm
  co_apply OF.nil
  try simp only [thenF]
  co_apply WF.cond (t := true) rfl
  simp only [↓reduceIte]
  co_apply WF.seqP
  co_apply WF.region
  try simp only [List.size_toArray, List.length_cons, List.length_nil, Nat.reduceAdd, Nat.zero_add, List.range, List.range.loop]
  co_applyP OF.pu rfl (by rfl) (fun _ => run_eq_of ?run) (fun _ => by simp [go_sem, *])
  case run => intro K hK; go_simp; exact hK
  try walk_nrm
  co_applyP OF.str 2 rfl (by rfl) rfl H hq rfl rfl rfl (by kernel_rfl) (by rfl) (by kernel_rfl)
  intro K w₁ w hK1 hr1 hu1 H1
  replace H := H1
  clear hr1 hK1 hu1 H1
  simp only [List.set_cons_zero, List.set_cons_succ] at H
  try walk_nrm
  co_applyP OF.pu rfl (by rfl) (fun _ => run_eq_of ?run) (fun _ => by simp [go_sem, *])
  case run => intro K hK; go_simp; exact hK
  try walk_nrm
  co_apply OF.nil
  try simp only [thenF]
  co_apply WF.ret
  try simp only [thenF]
  exact retG_cell_tmp 2 rfl H hq rfl rfl rfl Try.underlying38 rfl (by kernel_rfl) fun K₁ hK w₁ r H => ⟨rfl, hg, H.tail.tail.tail.tail⟩

set_option maxHeartbeats 8000000 in
set_option maxRecDepth 100000 in
theorem storm_bad4 : ∃ nf, ∀ {N : Nat} {F : Nat → World → Prop} {m : Bool} {y : Gh Role} {K : Nat} {w : World} {l : List Row} (sh : Nat → Prop) (d wn tn kn : Int) (_ : 0 ≤ d) (_ : d ≤ 2147483647) (_ : ¬ wn < 1) (_ : ¬ 16 < wn) (_ : tn < 0) (_ : y.role = .alone sh) (_ : Ctx N F y K w l), CJ (S N) m 40 #[.int .i64 d, .int .i64 wn, .int .i64 tn, .int .i64 kn] nf (fun r K' y' w' => r = .tuple #[.agg #[.int .i64 0, .bool false, .int .i64 0, .int .i64 0], .int .i64 1] ∧ Gr y y' ∧ Ctx N F y' K' w' l) K y w := by
  obtain ⟨nt, hnew⟩ := new_ok
  co_apply Exists.intro
  intro N F m y K w l sh d wn tn kn h0 h1 q0 q1 q2 hr H
  have hg := Gr.refl y
  have hq : y.role.quiet = false := by rw [hr]; rfl
  have r0 : decide (wn < 1) = false := by simp <;> omega
  have r1 : decide (wn > 16) = false := by simp <;> omega
  have r2 : decide (tn < 0) = true := by simp <;> omega
  co_apply CJ.of_WF Try.func40 (by kernel_rfl) (by rfl)
  simp only [show Try.f40.ntmps = 62 from rfl]
  try walk_nrm
  co_apply WF.seqP
  co_apply WF.region
  try simp only [List.size_toArray, List.length_cons, List.length_nil, Nat.reduceAdd, Nat.zero_add, List.range, List.range.loop]
  co_applyP OF.al rfl (by rfl) H hq (fun _ => run_eq_of ?run) (fun _ => by simp [go_sem, *])
  case run => intro K hK; go_simp; exact hK
  intro K w₁ y' w b6 hK1 hr1 hg1 hq1 hb1 hw1 H1
  replace hg := hg.trans hg1
  replace hr := hg1.role.trans hr
  replace hq := hq1
  replace H := H1
  clear hb1 hw1 hr1 hK1 hg1 hq1 H1
  try walk_nrm
  co_applyP OF.al rfl (by rfl) H hq (fun _ => run_eq_of ?run) (fun _ => by simp [go_sem, *])
  case run => intro K hK; go_simp; exact hK
  intro K w₁ y' w b8 hK1 hr1 hg1 hq1 hb1 hw1 H1
  replace hg := hg.trans hg1
  replace hr := hg1.role.trans hr
  replace hq := hq1
  replace H := H1
  clear hb1 hw1 hr1 hK1 hg1 hq1 H1
  try walk_nrm
  co_applyP OF.pu rfl (by rfl) (fun _ => run_eq_of ?run) (fun _ => by simp [go_sem, *])
  case run => intro K hK; go_simp; exact hK
  try walk_nrm
  co_apply OF.nil
  try simp only [thenF]
  co_apply WF.seqP
  co_apply WF.region
  try simp only [List.size_toArray, List.length_cons, List.length_nil, Nat.reduceAdd, Nat.zero_add, List.range, List.range.loop]
  co_applyP OF.pu rfl (by rfl) (fun _ => run_eq_of ?run) (fun _ => by simp [go_sem, *])
  case run => intro K hK; go_simp; exact hK
  try walk_nrm
  co_applyP OF.callJ rfl (by rfl) rfl
  · walk_nrm
    exact hnew sh d h0 h1 hr H
  rintro _ K y' w hK1 ⟨g, rfl, hg1, H1⟩
  replace hg := hg.trans hg1
  replace hr := hg1.role.trans hr
  have hq1 : y'.role.quiet = false := by rw [hr]; rfl
  replace hq := hq1
  replace H := H1
  clear hg1 H1 hq1 hK1
  try walk_nrm
  co_applyP OF.pu rfl (by rfl) (fun _ => run_eq_of ?run) (fun _ => by simp [go_sem, *])
  case run => intro K hK; go_simp; exact hK
  try walk_nrm
  co_applyP OF.pu rfl (by rfl) (fun _ => run_eq_of ?run) (fun _ => by simp [go_sem, *])
  case run => intro K hK; go_simp; exact hK
  try walk_nrm
  co_applyP OF.pu rfl (by rfl) (fun _ => run_eq_of ?run) (fun _ => by simp [go_sem, *])
  case run => intro K hK; go_simp; exact hK
  try walk_nrm
  co_applyP OF.al rfl (by rfl) H hq (fun _ => run_eq_of ?run) (fun _ => by simp [go_sem, *])
  case run => intro K hK; go_simp; exact hK
  intro K w₁ y' w b10 hK1 hr1 hg1 hq1 hb1 hw1 H1
  replace hg := hg.trans hg1
  replace hr := hg1.role.trans hr
  replace hq := hq1
  replace H := H1
  clear hb1 hw1 hr1 hK1 hg1 hq1 H1
  try walk_nrm
  co_applyP OF.st1 0 0 rfl (by rfl) rfl H hq rfl rfl rfl rfl rfl (by kernel_rfl)
  intro K w₁ w hK1 hr1 hu1 H1
  replace H := H1
  clear hr1 hK1 hu1 H1
  simp only [List.set_cons_zero, List.setIfInBounds_toArray] at H
  try walk_nrm
  co_applyP OF.pu rfl (by rfl) (fun _ => run_eq_of ?run) (fun _ => by simp [go_sem, *])
  case run => intro K hK; go_simp; exact hK
  try walk_nrm
  co_apply OF.nil
  try simp only [thenF]
  co_apply WF.seqP (n₂ := 0)
  co_apply WF.seqP
  co_apply WF.region
  try simp only [List.size_toArray, List.length_cons, List.length_nil, Nat.reduceAdd, Nat.zero_add, List.range, List.range.loop]
  co_applyP OF.pu rfl (by rfl) (fun _ => run_eq_of ?run) (fun _ => by simp [go_sem, *])
  case run => intro K hK; go_simp; exact hK
  try walk_nrm
  co_applyP OF.pu rfl (by rfl) (fun _ => run_eq_of ?run) (fun _ => by simp [go_sem, *])
  case run => intro K hK; go_simp; exact hK
  try walk_nrm
  co_applyP OF.pu rfl (by rfl) (fun _ => run_eq_of ?run) (fun _ => by simp [go_sem, *])
  case run => intro K hK; go_simp; exact hK
  try walk_nrm
  first
  | (co_applyP OF.pu rfl (by rfl) (fun _ => run_eq_of ?run) (fun _ => by simp [go_sem, *]); case run => intro K hK; go_simp; exact hK)
  | co_apply OF.unwanted rfl (by rfl)
  try walk_nrm
  first
  | (co_applyP OF.pu rfl (by rfl) (fun _ => run_eq_of ?run) (fun _ => by simp [go_sem, *]); case run => intro K hK; go_simp; exact hK)
  | co_apply OF.unwanted rfl (by rfl)
  try walk_nrm
  co_applyP OF.pu rfl (by rfl) (fun _ => run_eq_of ?run) (fun _ => by simp [go_sem, *])
  case run => intro K hK; go_simp; exact hK
  try walk_nrm
  co_applyP OF.pu rfl (by rfl) (fun _ => run_eq_of ?run) (fun _ => by simp [go_sem, *])
  case run => intro K hK; go_simp; exact hK
  try walk_nrm
  first
  | (co_applyP OF.pu rfl (by rfl) (fun _ => run_eq_of ?run) (fun _ => by simp [go_sem, *]); case run => intro K hK; go_simp; exact hK)
  | co_apply OF.unwanted rfl (by rfl)
  try walk_nrm
  first
  | (co_applyP OF.pu rfl (by rfl) (fun _ => run_eq_of ?run) (fun _ => by simp [go_sem, *]); case run => intro K hK; go_simp; exact hK)
  | co_apply OF.unwanted rfl (by rfl)
  try walk_nrm
  co_applyP OF.pu rfl (by rfl) (fun _ => run_eq_of ?run) (fun _ => by simp [go_sem, *])
  case run => intro K hK; go_simp; exact hK
  try walk_nrm
  co_applyP OF.pu rfl (by rfl) (fun _ => run_eq_of ?run) (fun _ => by simp [go_sem, *])
  case run => intro K hK; go_simp; exact hK
  try walk_nrm
  first
  | (co_applyP OF.ld1 3 0 rfl (by rfl) rfl H hq rfl rfl rfl Try.underlying3 rfl; intro K w hK1 hr1 H1; replace H := H1; skip; clear hr1 hK1 H1)
  | co_apply OF.unwanted rfl (by rfl)
  try walk_nrm
  first
  | (co_applyP OF.pu rfl (by rfl) (fun _ => run_eq_of ?run) (fun _ => by simp [go_sem, *]); case run => intro K hK; go_simp; exact hK)
  | co_apply OF.unwanted rfl (by rfl)
  try walk_nrm
  co_applyP OF.pu rfl (by rfl) (fun _ => run_eq_of ?run) (fun _ => by simp [go_sem, *])
  case run => intro K hK; go_simp; exact hK
  try walk_nrm
  co_applyP OF.pu rfl (by rfl) (fun _ => run_eq_of ?run) (fun _ => by simp [go_sem, *])
  case run => intro K hK; go_simp; exact hK
  try walk_nrm
  first
  | (co_applyP OF.ld1 3 0 rfl (by rfl) rfl H hq rfl rfl rfl Try.underlying3 rfl; intro K w hK1 hr1 H1; replace H := H1; skip; clear hr1 hK1 H1)
  | co_apply OF.unwanted rfl (by rfl)
  try walk_nrm
  first
  | (co_applyP OF.pu rfl (by rfl) (fun _ => run_eq_of ?run) (fun _ => by simp [go_sem, *]); case run => intro K hK; go_simp; exact hK)
  | co_apply OF.unwanted rfl (by rfl)
  try walk_nrm
  co_applyP OF.pu rfl (by rfl) (fun _ => run_eq_of ?run) (fun _ => by simp [go_sem, *])
  case run => intro K hK; go_simp; exact hK
  try walk_nrm
  co_applyP OF.pu rfl (by rfl) (fun _ => run_eq_of ?run) (fun _ => by simp [go_sem, *])
  case run => intro K hK; go_simp; exact hK
  try walk_nrm
  first
  | (co_applyP OF.pu rfl (by rfl) (fun _ => run_eq_of ?run) (fun _ => by simp [go_sem, *]); case run => intro K hK; go_simp; exact hK)
  | co_apply OF.unwanted rfl (by rfl)
  try walk_nrm
  first
  | (co_applyP OF.pu rfl (by rfl) (fun _ => run_eq_of ?run) (fun _ => by simp [go_sem, *]); case run => intro K hK; go_simp; exact hK)
  | co_apply OF.unwanted rfl (by rfl)
  try walk_nrm
  co_applyP OF.pu rfl (by rfl) (fun _ => run_eq_of ?run) (fun _ => by simp [go_sem, *])
  case run => intro K hK; go_simp; exact hK
  try walk_nrm
  co_applyP OF.pu rfl (by rfl) (fun _ => run_eq_of ?run) (fun _ => by simp [go_sem, *])
  case run => intro K hK; go_simp; exact hK
  try walk_nrm
  first
  | (co_applyP OF.pu rfl (by rfl) (fun _ => run_eq_of ?run) (fun _ => by simp [go_sem, *]); case run => intro K hK; go_simp; exact hK)
  | co_apply OF.unwanted rfl (by rfl)
  try walk_nrm
  first
  | (co_applyP OF.pu rfl (by rfl) (fun _ => run_eq_of ?run) (fun _ => by simp [go_sem, *]); case run => intro K hK; go_simp; exact hK)
  | co_apply OF.unwanted rfl (by rfl)
  try walk_nrm
  co_applyP OF.pu rfl (by rfl) (fun _ => run_eq_of ?run) (fun _ => by simp [go_sem, *])
  case run => intro K hK; go_simp; exact hK
  try walk_nrm
  co_apply OF.nil
  try simp only [thenF]
  co_apply WF.cond (t := true) rfl
  simp only [↓reduceIte]
  co_apply WF.seqP
  co_apply WF.region
  try simp only [List.size_toArray, List.length_cons, List.length_nil, Nat.reduceAdd, Nat.zero_add, List.range, List.range.loop]
  co_applyP OF.pu rfl (by rfl) (fun _ => run_eq_of ?run) (fun _ => by simp [go_sem, *])
  case run => intro K hK; go_simp; exact hK
  try walk_nrm
  co_applyP OF.str 2 rfl (by rfl) rfl H hq rfl rfl rfl (by kernel_rfl) (by rfl) (by kernel_rfl)
  intro K w₁ w hK1 hr1 hu1 H1
  replace H := H1
  clear hr1 hK1 hu1 H1
  simp only [List.set_cons_zero, List.set_cons_succ] at H
  try walk_nrm
  co_applyP OF.pu rfl (by rfl) (fun _ => run_eq_of ?run) (fun _ => by simp [go_sem, *])
  case run => intro K hK; go_simp; exact hK
  try walk_nrm
  co_apply OF.nil
  try simp only [thenF]
  co_apply WF.ret
  try simp only [thenF]
  exact retG_cell_tmp 2 rfl H hq rfl rfl rfl Try.underlying38 rfl (by kernel_rfl) fun K₁ hK w₁ r H => ⟨rfl, hg, H.tail.tail.tail.tail⟩

set_option maxHeartbeats 8000000 in
set_option maxRecDepth 100000 in
theorem storm_bad5 : ∃ nf, ∀ {N : Nat} {F : Nat → World → Prop} {m : Bool} {y : Gh Role} {K : Nat} {w : World} {l : List Row} (sh : Nat → Prop) (d wn tn kn : Int) (_ : 0 ≤ d) (_ : d ≤ 2147483647) (_ : ¬ wn < 1) (_ : ¬ 16 < wn) (_ : ¬ tn < 0) (_ : 10000 < tn) (_ : y.role = .alone sh) (_ : Ctx N F y K w l), CJ (S N) m 40 #[.int .i64 d, .int .i64 wn, .int .i64 tn, .int .i64 kn] nf (fun r K' y' w' => r = .tuple #[.agg #[.int .i64 0, .bool false, .int .i64 0, .int .i64 0], .int .i64 1] ∧ Gr y y' ∧ Ctx N F y' K' w' l) K y w := by
  obtain ⟨nt, hnew⟩ := new_ok
  co_apply Exists.intro
  intro N F m y K w l sh d wn tn kn h0 h1 q0 q1 q2 q3 hr H
  have hg := Gr.refl y
  have hq : y.role.quiet = false := by rw [hr]; rfl
  have r0 : decide (wn < 1) = false := by simp <;> omega
  have r1 : decide (wn > 16) = false := by simp <;> omega
  have r2 : decide (tn < 0) = false := by simp <;> omega
  have r3 : decide (tn > 10000) = true := by simp <;> omega
  co_apply CJ.of_WF Try.func40 (by kernel_rfl) (by rfl)
  simp only [show Try.f40.ntmps = 62 from rfl]
  try walk_nrm
  co_apply WF.seqP
  co_apply WF.region
  try simp only [List.size_toArray, List.length_cons, List.length_nil, Nat.reduceAdd, Nat.zero_add, List.range, List.range.loop]
  co_applyP OF.al rfl (by rfl) H hq (fun _ => run_eq_of ?run) (fun _ => by simp [go_sem, *])
  case run => intro K hK; go_simp; exact hK
  intro K w₁ y' w b6 hK1 hr1 hg1 hq1 hb1 hw1 H1
  replace hg := hg.trans hg1
  replace hr := hg1.role.trans hr
  replace hq := hq1
  replace H := H1
  clear hb1 hw1 hr1 hK1 hg1 hq1 H1
  try walk_nrm
  co_applyP OF.al rfl (by rfl) H hq (fun _ => run_eq_of ?run) (fun _ => by simp [go_sem, *])
  case run => intro K hK; go_simp; exact hK
  intro K w₁ y' w b8 hK1 hr1 hg1 hq1 hb1 hw1 H1
  replace hg := hg.trans hg1
  replace hr := hg1.role.trans hr
  replace hq := hq1
  replace H := H1
  clear hb1 hw1 hr1 hK1 hg1 hq1 H1
  try walk_nrm
  co_applyP OF.pu rfl (by rfl) (fun _ => run_eq_of ?run) (fun _ => by simp [go_sem, *])
  case run => intro K hK; go_simp; exact hK
  try walk_nrm
  co_apply OF.nil
  try simp only [thenF]
  co_apply WF.seqP
  co_apply WF.region
  try simp only [List.size_toArray, List.length_cons, List.length_nil, Nat.reduceAdd, Nat.zero_add, List.range, List.range.loop]
  co_applyP OF.pu rfl (by rfl) (fun _ => run_eq_of ?run) (fun _ => by simp [go_sem, *])
  case run => intro K hK; go_simp; exact hK
  try walk_nrm
  co_applyP OF.callJ rfl (by rfl) rfl
  · walk_nrm
    exact hnew sh d h0 h1 hr H
  rintro _ K y' w hK1 ⟨g, rfl, hg1, H1⟩
  replace hg := hg.trans hg1
  replace hr := hg1.role.trans hr
  have hq1 : y'.role.quiet = false := by rw [hr]; rfl
  replace hq := hq1
  replace H := H1
  clear hg1 H1 hq1 hK1
  try walk_nrm
  co_applyP OF.pu rfl (by rfl) (fun _ => run_eq_of ?run) (fun _ => by simp [go_sem, *])
  case run => intro K hK; go_simp; exact hK
  try walk_nrm
  co_applyP OF.pu rfl (by rfl) (fun _ => run_eq_of ?run) (fun _ => by simp [go_sem, *])
  case run => intro K hK; go_simp; exact hK
  try walk_nrm
  co_applyP OF.pu rfl (by rfl) (fun _ => run_eq_of ?run) (fun _ => by simp [go_sem, *])
  case run => intro K hK; go_simp; exact hK
  try walk_nrm
  co_applyP OF.al rfl (by rfl) H hq (fun _ => run_eq_of ?run) (fun _ => by simp [go_sem, *])
  case run => intro K hK; go_simp; exact hK
  intro K w₁ y' w b10 hK1 hr1 hg1 hq1 hb1 hw1 H1
  replace hg := hg.trans hg1
  replace hr := hg1.role.trans hr
  replace hq := hq1
  replace H := H1
  clear hb1 hw1 hr1 hK1 hg1 hq1 H1
  try walk_nrm
  co_applyP OF.st1 0 0 rfl (by rfl) rfl H hq rfl rfl rfl rfl rfl (by kernel_rfl)
  intro K w₁ w hK1 hr1 hu1 H1
  replace H := H1
  clear hr1 hK1 hu1 H1
  simp only [List.set_cons_zero, List.setIfInBounds_toArray] at H
  try walk_nrm
  co_applyP OF.pu rfl (by rfl) (fun _ => run_eq_of ?run) (fun _ => by simp [go_sem, *])
  case run => intro K hK; go_simp; exact hK
  try walk_nrm
  co_apply OF.nil
  try simp only [thenF]
  co_apply WF.seqP (n₂ := 0)
  co_apply WF.seqP
  co_apply WF.region
  try simp only [List.size_toArray, List.length_cons, List.length_nil, Nat.reduceAdd, Nat.zero_add, List.range, List.range.loop]
  co_applyP OF.pu rfl (by rfl) (fun _ => run_eq_of ?run) (fun _ => by simp [go_sem, *])
  case run => intro K hK; go_simp; exact hK
  try walk_nrm
  co_applyP OF.pu rfl (by rfl) (fun _ => run_eq_of ?run) (fun _ => by simp [go_sem, *])
  case run => intro K hK; go_simp; exact hK
  try walk_nrm
  co_applyP OF.pu rfl (by rfl) (fun _ => run_eq_of ?run) (fun _ => by simp [go_sem, *])
  case run => intro K hK; go_simp; exact hK
  try walk_nrm
  first
  | (co_applyP OF.pu rfl (by rfl) (fun _ => run_eq_of ?run) (fun _ => by simp [go_sem, *]); case run => intro K hK; go_simp; exact hK)
  | co_apply OF.unwanted rfl (by rfl)
  try walk_nrm
  first
  | (co_applyP OF.pu rfl (by rfl) (fun _ => run_eq_of ?run) (fun _ => by simp [go_sem, *]); case run => intro K hK; go_simp; exact hK)
  | co_apply OF.unwanted rfl (by rfl)
  try walk_nrm
  co_applyP OF.pu rfl (by rfl) (fun _ => run_eq_of ?run) (fun _ => by simp [go_sem, *])
  case run => intro K hK; go_simp; exact hK
  try walk_nrm
  co_applyP OF.pu rfl (by rfl) (fun _ => run_eq_of ?run) (fun _ => by simp [go_sem, *])
  case run => intro K hK; go_simp; exact hK
  try walk_nrm
  first
  | (co_applyP OF.pu rfl (by rfl) (fun _ => run_eq_of ?run) (fun _ => by simp [go_sem, *]); case run => intro K hK; go_simp; exact hK)
  | co_apply OF.unwanted rfl (by rfl)
  try walk_nrm
  first
  | (co_applyP OF.pu rfl (by rfl) (fun _ => run_eq_of ?run) (fun _ => by simp [go_sem, *]); case run => intro K hK; go_simp; exact hK)
  | co_apply OF.unwanted rfl (by rfl)
  try walk_nrm
  co_applyP OF.pu rfl (by rfl) (fun _ => run_eq_of ?run) (fun _ => by simp [go_sem, *])
  case run => intro K hK; go_simp; exact hK
  try walk_nrm
  co_applyP OF.pu rfl (by rfl) (fun _ => run_eq_of ?run) (fun _ => by simp [go_sem, *])
  case run => intro K hK; go_simp; exact hK
  try walk_nrm
  first
  | (co_applyP OF.ld1 3 0 rfl (by rfl) rfl H hq rfl rfl rfl Try.underlying3 rfl; intro K w hK1 hr1 H1; replace H := H1; skip; clear hr1 hK1 H1)
  | co_apply OF.unwanted rfl (by rfl)
  try walk_nrm
  first
  | (co_applyP OF.pu rfl (by rfl) (fun _ => run_eq_of ?run) (fun _ => by simp [go_sem, *]); case run => intro K hK; go_simp; exact hK)
  | co_apply OF.unwanted rfl (by rfl)
  try walk_nrm
  co_applyP OF.pu rfl (by rfl) (fun _ => run_eq_of ?run) (fun _ => by simp [go_sem, *])
  case run => intro K hK; go_simp; exact hK
  try walk_nrm
  co_applyP OF.pu rfl (by rfl) (fun _ => run_eq_of ?run) (fun _ => by simp [go_sem, *])
  case run => intro K hK; go_simp; exact hK
  try walk_nrm
  first
  | (co_applyP OF.ld1 3 0 rfl (by rfl) rfl H hq rfl rfl rfl Try.underlying3 rfl; intro K w hK1 hr1 H1; replace H := H1; skip; clear hr1 hK1 H1)
  | co_apply OF.unwanted rfl (by rfl)
  try walk_nrm
  first
  | (co_applyP OF.pu rfl (by rfl) (fun _ => run_eq_of ?run) (fun _ => by simp [go_sem, *]); case run => intro K hK; go_simp; exact hK)
  | co_apply OF.unwanted rfl (by rfl)
  try walk_nrm
  co_applyP OF.pu rfl (by rfl) (fun _ => run_eq_of ?run) (fun _ => by simp [go_sem, *])
  case run => intro K hK; go_simp; exact hK
  try walk_nrm
  co_applyP OF.pu rfl (by rfl) (fun _ => run_eq_of ?run) (fun _ => by simp [go_sem, *])
  case run => intro K hK; go_simp; exact hK
  try walk_nrm
  first
  | (co_applyP OF.pu rfl (by rfl) (fun _ => run_eq_of ?run) (fun _ => by simp [go_sem, *]); case run => intro K hK; go_simp; exact hK)
  | co_apply OF.unwanted rfl (by rfl)
  try walk_nrm
  first
  | (co_applyP OF.pu rfl (by rfl) (fun _ => run_eq_of ?run) (fun _ => by simp [go_sem, *]); case run => intro K hK; go_simp; exact hK)
  | co_apply OF.unwanted rfl (by rfl)
  try walk_nrm
  co_applyP OF.pu rfl (by rfl) (fun _ => run_eq_of ?run) (fun _ => by simp [go_sem, *])
  case run => intro K hK; go_simp; exact hK
  try walk_nrm
  co_applyP OF.pu rfl (by rfl) (fun _ => run_eq_of ?run) (fun _ => by simp [go_sem, *])
  case run => intro K hK; go_simp; exact hK
  try walk_nrm
  first
  | (co_applyP OF.pu rfl (by rfl) (fun _ => run_eq_of ?run) (fun _ => by simp [go_sem, *]); case run => intro K hK; go_simp; exact hK)
  | co_apply OF.unwanted rfl (by rfl)
  try walk_nrm
  first
  | (co_applyP OF.pu rfl (by rfl) (fun _ => run_eq_of ?run) (fun _ => by simp [go_sem, *]); case run => intro K hK; go_simp; exact hK)
  | co_apply OF.unwanted rfl (by rfl)
  try walk_nrm
  co_applyP OF.pu rfl (by rfl) (fun _ => run_eq_of ?run) (fun _ => by simp [go_sem, *])
  case run => intro K hK; go_simp; exact hK
  try walk_nrm
  co_apply OF.nil
  try simp only [thenF]
  co_apply WF.cond (t := true) rfl
  simp only [↓reduceIte]
  co_apply WF.seqP
  co_apply WF.region
  try simp only [List.size_toArray, List.length_cons, List.length_nil, Nat.reduceAdd, Nat.zero_add, List.range, List.range.loop]
  co_applyP OF.pu rfl (by rfl) (fun _ => run_eq_of ?run) (fun _ => by simp [go_sem, *])
  case run => intro K hK; go_simp; exact hK
  try walk_nrm
  co_applyP OF.str 2 rfl (by rfl) rfl H hq rfl rfl rfl (by kernel_rfl) (by rfl) (by kernel_rfl)
  intro K w₁ w hK1 hr1 hu1 H1
  replace H := H1
  clear hr1 hK1 hu1 H1
  simp only [List.set_cons_zero, List.set_cons_succ] at H
  try walk_nrm
  co_applyP OF.pu rfl (by rfl) (fun _ => run_eq_of ?run) (fun _ => by simp [go_sem, *])
  case run => intro K hK; go_simp; exact hK
  try walk_nrm
  co_apply OF.nil
  try simp only [thenF]
  co_apply WF.ret
  try simp only [thenF]
  exact retG_cell_tmp 2 rfl H hq rfl rfl rfl Try.underlying38 rfl (by kernel_rfl) fun K₁ hK w₁ r H => ⟨rfl, hg, H.tail.tail.tail.tail⟩

set_option maxHeartbeats 8000000 in
set_option maxRecDepth 100000 in
theorem storm_bad6 : ∃ nf, ∀ {N : Nat} {F : Nat → World → Prop} {m : Bool} {y : Gh Role} {K : Nat} {w : World} {l : List Row} (sh : Nat → Prop) (d wn tn kn : Int) (_ : 0 ≤ d) (_ : d ≤ 2147483647) (_ : ¬ wn < 1) (_ : ¬ 16 < wn) (_ : ¬ tn < 0) (_ : ¬ 10000 < tn) (_ : kn < 0) (_ : y.role = .alone sh) (_ : Ctx N F y K w l), CJ (S N) m 40 #[.int .i64 d, .int .i64 wn, .int .i64 tn, .int .i64 kn] nf (fun r K' y' w' => r = .tuple #[.agg #[.int .i64 0, .bool false, .int .i64 0, .int .i64 0], .int .i64 1] ∧ Gr y y' ∧ Ctx N F y' K' w' l) K y w := by
  obtain ⟨nt, hnew⟩ := new_ok
  co_apply Exists.intro
  intro N F m y K w l sh d wn tn kn h0 h1 q0 q1 q2 q3 q4 hr H
  have hg := Gr.refl y
  have hq : y.role.quiet = false := by rw [hr]; rfl
  have r0 : decide (wn < 1) = false := by simp <;> omega
  have r1 : decide (wn > 16) = false := by simp <;> omega
  have r2 : decide (tn < 0) = false := by simp <;> omega
  have r3 : decide (tn > 10000) = false := by simp <;> omega
  have r4 : decide (kn < 0) = true := by simp <;> omega
  co_apply CJ.of_WF Try.func40 (by kernel_rfl) (by rfl)
  simp only [show Try.f40.ntmps = 62 from rfl]
  try walk_nrm
  co_apply WF.seqP
  co_apply WF.region
  try simp only [List.size_toArray, List.length_cons, List.length_nil, Nat.reduceAdd, Nat.zero_add, List.range, List.range.loop]
  co_applyP OF.al rfl (by rfl) H hq (fun _ => run_eq_of ?run) (fun _ => by simp [go_sem, *])
  case run => intro K hK; go_simp; exact hK
  intro K w₁ y' w b6 hK1 hr1 hg1 hq1 hb1 hw1 H1
  replace hg := hg.trans hg1
  replace hr := hg1.role.trans hr
  replace hq := hq1
  replace H := H1
  clear hb1 hw1 hr1 hK1 hg1 hq1 H1
  try walk_nrm
  co_applyP OF.al rfl (by rfl) H hq (fun _ => run_eq_of ?run) (fun _ => by simp [go_sem, *])
  case run => intro K hK; go_simp; exact hK
  intro K w₁ y' w b8 hK1 hr1 hg1 hq1 hb1 hw1 H1
  replace hg := hg.trans hg1
  replace hr := hg1.role.trans hr
  replace hq := hq1
  replace H := H1
  clear hb1 hw1 hr1 hK1 hg1 hq1 H1
  try walk_nrm
  co_applyP OF.pu rfl (by rfl) (fun _ => run_eq_of ?run) (fun _ => by simp [go_sem, *])
  case run => intro K hK; go_simp; exact hK
  try walk_nrm
  co_apply OF.nil
  try simp only [thenF]
  co_apply WF.seqP
  co_apply WF.region
  try simp only [List.size_toArray, List.length_cons, List.length_nil, Nat.reduceAdd, Nat.zero_add, List.range, List.range.loop]
  co_applyP OF.pu rfl (by rfl) (fun _ => run_eq_of ?run) (fun _ => by simp [go_sem, *])
  case run => intro K hK; go_simp; exact hK
  try walk_nrm
  co_applyP OF.callJ rfl (by rfl) rfl
  · walk_nrm
    exact hnew sh d h0 h1 hr H
  rintro _ K y' w hK1 ⟨g, rfl, hg1, H1⟩
  replace hg := hg.trans hg1
  replace hr := hg1.role.trans hr
  have hq1 : y'.role.quiet = false := by rw [hr]; rfl
  replace hq := hq1
  replace H := H1
  clear hg1 H1 hq1 hK1
  try walk_nrm
  co_applyP OF.pu rfl (by rfl) (fun _ => run_eq_of ?run) (fun _ => by simp [go_sem, *])
  case run => intro K hK; go_simp; exact hK
  try walk_nrm
  co_applyP OF.pu rfl (by rfl) (fun _ => run_eq_of ?run) (fun _ => by simp [go_sem, *])
  case run => intro K hK; go_simp; exact hK
  try walk_nrm
  co_applyP OF.pu rfl (by rfl) (fun _ => run_eq_of ?run) (fun _ => by simp [go_sem, *])
  case run => intro K hK; go_simp; exact hK
  try walk_nrm
  co_applyP OF.al rfl (by rfl) H hq (fun _ => run_eq_of ?run) (fun _ => by simp [go_sem, *])
  case run => intro K hK; go_simp; exact hK
  intro K w₁ y' w b10 hK1 hr1 hg1 hq1 hb1 hw1 H1
  replace hg := hg.trans hg1
  replace hr := hg1.role.trans hr
  replace hq := hq1
  replace H := H1
  clear hb1 hw1 hr1 hK1 hg1 hq1 H1
  try walk_nrm
  co_applyP OF.st1 0 0 rfl (by rfl) rfl H hq rfl rfl rfl rfl rfl (by kernel_rfl)
  intro K w₁ w hK1 hr1 hu1 H1
  replace H := H1
  clear hr1 hK1 hu1 H1
  simp only [List.set_cons_zero, List.setIfInBounds_toArray] at H
  try walk_nrm
  co_applyP OF.pu rfl (by rfl) (fun _ => run_eq_of ?run) (fun _ => by simp [go_sem, *])
  case run => intro K hK; go_simp; exact hK
  try walk_nrm
  co_apply OF.nil
  try simp only [thenF]
  co_apply WF.seqP (n₂ := 0)
  co_apply WF.seqP
  co_apply WF.region
  try simp only [List.size_toArray, List.length_cons, List.length_nil, Nat.reduceAdd, Nat.zero_add, List.range, List.range.loop]
  co_applyP OF.pu rfl (by rfl) (fun _ => run_eq_of ?run) (fun _ => by simp [go_sem, *])
  case run => intro K hK; go_simp; exact hK
  try walk_nrm
  co_applyP OF.pu rfl (by rfl) (fun _ => run_eq_of ?run) (fun _ => by simp [go_sem, *])
  case run => intro K hK; go_simp; exact hK
  try walk_nrm
  co_applyP OF.pu rfl (by rfl) (fun _ => run_eq_of ?run) (fun _ => by simp [go_sem, *])
  case run => intro K hK; go_simp; exact hK
  try walk_nrm
  first
  | (co_applyP OF.pu rfl (by rfl) (fun _ => run_eq_of ?run) (fun _ => by simp [go_sem, *]); case run => intro K hK; go_simp; exact hK)
  | co_apply OF.unwanted rfl (by rfl)
  try walk_nrm
  first
  | (co_applyP OF.pu rfl (by rfl) (fun _ => run_eq_of ?run) (fun _ => by simp [go_sem, *]); case run => intro K hK; go_simp; exact hK)
  | co_apply OF.unwanted rfl (by rfl)
  try walk_nrm
  co_applyP OF.pu rfl (by rfl) (fun _ => run_eq_of ?run) (fun _ => by simp [go_sem, *])
  case run => intro K hK; go_simp; exact hK
  try walk_nrm
  co_applyP OF.pu rfl (by rfl) (fun _ => run_eq_of ?run) (fun _ => by simp [go_sem, *])
  case run => intro K hK; go_simp; exact hK
  try walk_nrm
  first
  | (co_applyP OF.pu rfl (by rfl) (fun _ => run_eq_of ?run) (fun _ => by simp [go_sem, *]); case run => intro K hK; go_simp; exact hK)
  | co_apply OF.unwanted rfl (by rfl)
  try walk_nrm
  first
  | (co_applyP OF.pu rfl (by rfl) (fun _ => run_eq_of ?run) (fun _ => by simp [go_sem, *]); case run => intro K hK; go_simp; exact hK)
  | co_apply OF.unwanted rfl (by rfl)
  try walk_nrm
  co_applyP OF.pu rfl (by rfl) (fun _ => run_eq_of ?run) (fun _ => by simp [go_sem, *])
  case run => intro K hK; go_simp; exact hK
  try walk_nrm
  co_applyP OF.pu rfl (by rfl) (fun _ => run_eq_of ?run) (fun _ => by simp [go_sem, *])
  case run => intro K hK; go_simp; exact hK
  try walk_nrm
  first
  | (co_applyP OF.ld1 3 0 rfl (by rfl) rfl H hq rfl rfl rfl Try.underlying3 rfl; intro K w hK1 hr1 H1; replace H := H1; skip; clear hr1 hK1 H1)
  | co_apply OF.unwanted rfl (by rfl)
  try walk_nrm
  first
  | (co_applyP OF.pu rfl (by rfl) (fun _ => run_eq_of ?run) (fun _ => by simp [go_sem, *]); case run => intro K hK; go_simp; exact hK)
  | co_apply OF.unwanted rfl (by rfl)
  try walk_nrm
  co_applyP OF.pu rfl (by rfl) (fun _ => run_eq_of ?run) (fun _ => by simp [go_sem, *])
  case run => intro K hK; go_simp; exact hK
  try walk_nrm
  co_applyP OF.pu rfl (by rfl) (fun _ => run_eq_of ?run) (fun _ => by simp [go_sem, *])
  case run => intro K hK; go_simp; exact hK
  try walk_nrm
  first
  | (co_applyP OF.ld1 3 0 rfl (by rfl) rfl H hq rfl rfl rfl Try.underlying3 rfl; intro K w hK1 hr1 H1; replace H := H1; skip; clear hr1 hK1 H1)
  | co_apply OF.unwanted rfl (by rfl)
  try walk_nrm
  first
  | (co_applyP OF.pu rfl (by rfl) (fun _ => run_eq_of ?run) (fun _ => by simp [go_sem, *]); case run => intro K hK; go_simp; exact hK)
  | co_apply OF.unwanted rfl (by rfl)
  try walk_nrm
  co_applyP OF.pu rfl (by rfl) (fun _ => run_eq_of ?run) (fun _ => by simp [go_sem, *])
  case run => intro K hK; go_simp; exact hK
  try walk_nrm
  co_applyP OF.pu rfl (by rfl) (fun _ => run_eq_of ?run) (fun _ => by simp [go_sem, *])
  case run => intro K hK; go_simp; exact hK
  try walk_nrm
  first
  | (co_applyP OF.pu rfl (by rfl) (fun _ => run_eq_of ?run) (fun _ => by simp [go_sem, *]); case run => intro K hK; go_simp; exact hK)
  | co_apply OF.unwanted rfl (by rfl)
  try walk_nrm
  first
  | (co_applyP OF.pu rfl (by rfl) (fun _ => run_eq_of ?run) (fun _ => by simp [go_sem, *]); case run => intro K hK; go_simp; exact hK)
  | co_apply OF.unwanted rfl (by rfl)
  try walk_nrm
  co_applyP OF.pu rfl (by rfl) (fun _ => run_eq_of ?run) (fun _ => by simp [go_sem, *])
  case run => intro K hK; go_simp; exact hK
  try walk_nrm
  co_applyP OF.pu rfl (by rfl) (fun _ => run_eq_of ?run) (fun _ => by simp [go_sem, *])
  case run => intro K hK; go_simp; exact hK
  try walk_nrm
  first
  | (co_applyP OF.pu rfl (by rfl) (fun _ => run_eq_of ?run) (fun _ => by simp [go_sem, *]); case run => intro K hK; go_simp; exact hK)
  | co_apply OF.unwanted rfl (by rfl)
  try walk_nrm
  first
  | (co_applyP OF.pu rfl (by rfl) (fun _ => run_eq_of ?run) (fun _ => by simp [go_sem, *]); case run => intro K hK; go_simp; exact hK)
  | co_apply OF.unwanted rfl (by rfl)
  try walk_nrm
  co_applyP OF.pu rfl (by rfl) (fun _ => run_eq_of ?run) (fun _ => by simp [go_sem, *])
  case run => intro K hK; go_simp; exact hK
  try walk_nrm
  co_apply OF.nil
  try simp only [thenF]
  co_apply WF.cond (t := true) rfl
  simp only [↓reduceIte]
  co_apply WF.seqP
  co_apply WF.region
  try simp only [List.size_toArray, List.length_cons, List.length_nil, Nat.reduceAdd, Nat.zero_add, List.range, List.range.loop]
  co_applyP OF.pu rfl (by rfl) (fun _ => run_eq_of ?run) (fun _ => by simp [go_sem, *])
  case run => intro K hK; go_simp; exact hK
  try walk_nrm
  co_applyP OF.str 2 rfl (by rfl) rfl H hq rfl rfl rfl (by kernel_rfl) (by rfl) (by kernel_rfl)
  intro K w₁ w hK1 hr1 hu1 H1
  replace H := H1
  clear hr1 hK1 hu1 H1
  simp only [List.set_cons_zero, List.set_cons_succ] at H
  try walk_nrm
  co_applyP OF.pu rfl (by rfl) (fun _ => run_eq_of ?run) (fun _ => by simp [go_sem, *])
  case run => intro K hK; go_simp; exact hK
  try walk_nrm
  co_apply OF.nil
  try simp only [thenF]
  co_apply WF.ret
  try simp only [thenF]
  exact retG_cell_tmp 2 rfl H hq rfl rfl rfl Try.underlying38 rfl (by kernel_rfl) fun K₁ hK w₁ r H => ⟨rfl, hg, H.tail.tail.tail.tail⟩

set_option maxHeartbeats 8000000 in
set_option maxRecDepth 100000 in
theorem storm_bad7 : ∃ nf, ∀ {N : Nat} {F : Nat → World → Prop} {m : Bool} {y : Gh Role} {K : Nat} {w : World} {l : List Row} (sh : Nat → Prop) (d wn tn kn : Int) (_ : 0 ≤ d) (_ : d ≤ 2147483647) (_ : ¬ wn < 1) (_ : ¬ 16 < wn) (_ : ¬ tn < 0) (_ : ¬ 10000 < tn) (_ : ¬ kn < 0) (_ : 1000 < kn) (_ : y.role = .alone sh) (_ : Ctx N F y K w l), CJ (S N) m 40 #[.int .i64 d, .int .i64 wn, .int .i64 tn, .int .i64 kn] nf (fun r K' y' w' => r = .tuple #[.agg #[.int .i64 0, .bool false, .int .i64 0, .int .i64 0], .int .i64 1] ∧ Gr y y' ∧ Ctx N F y' K' w' l) K y w := by
  obtain ⟨nt, hnew⟩ := new_ok
  co_apply Exists.intro
  intro N F m y K w l sh d wn tn kn h0 h1 q0 q1 q2 q3 q4 q5 hr H
  have hg := Gr.refl y
  have hq : y.role.quiet = false := by rw [hr]; rfl
  have r0 : decide (wn < 1) = false := by simp <;> omega
  have r1 : decide (wn > 16) = false := by simp <;> omega
  have r2 : decide (tn < 0) = false := by simp <;> omega
  have r3 : decide (tn > 10000) = false := by simp <;> omega
  have r4 : decide (kn < 0) = false := by simp <;> omega
  have r5 : decide (kn > 1000) = true := by simp <;> omega
  co_apply CJ.of_WF Try.func40 (by kernel_rfl) (by rfl)
  simp only [show Try.f40.ntmps = 62 from rfl]
  try walk_nrm
  co_apply WF.seqP
  co_apply WF.region
  try simp only [List.size_toArray, List.length_cons, List.length_nil, Nat.reduceAdd, Nat.zero_add, List.range, List.range.loop]
  co_applyP OF.al rfl (by rfl) H hq (fun _ => run_eq_of ?run) (fun _ => by simp [go_sem, *])
  case run => intro K hK; go_simp; exact hK
  intro K w₁ y' w b6 hK1 hr1 hg1 hq1 hb1 hw1 H1
  replace hg := hg.trans hg1
  replace hr := hg1.role.trans hr
  replace hq := hq1
  replace H := H1
  clear hb1 hw1 hr1 hK1 hg1 hq1 H1
  try walk_nrm
  co_applyP OF.al rfl (by rfl) H hq (fun _ => run_eq_of ?run) (fun _ => by simp [go_sem, *])
  case run => intro K hK; go_simp; exact hK
  intro K w₁ y' w b8 hK1 hr1 hg1 hq1 hb1 hw1 H1
  replace hg := hg.trans hg1
  replace hr := hg1.role.trans hr
  replace hq := hq1
  replace H := H1
  clear hb1 hw1 hr1 hK1 hg1 hq1 H1
  try walk_nrm
  co_applyP OF.pu rfl (by rfl) (fun _ => run_eq_of ?run) (fun _ => by simp [go_sem, *])
  case run => intro K hK; go_simp; exact hK
  try walk_nrm
  co_apply OF.nil
  try simp only [thenF]
  co_apply WF.seqP
  co_apply WF.region
  try simp only [List.size_toArray, List.length_cons, List.length_nil, Nat.reduceAdd, Nat.zero_add, List.range, List.range.loop]
  co_applyP OF.pu rfl (by rfl) (fun _ => run_eq_of ?run) (fun _ => by simp [go_sem, *])
  case run => intro K hK; go_simp; exact hK
  try walk_nrm
  co_applyP OF.callJ rfl (by rfl) rfl
  · walk_nrm
    exact hnew sh d h0 h1 hr H
  rintro _ K y' w hK1 ⟨g, rfl, hg1, H1⟩
  replace hg := hg.trans hg1
  replace hr := hg1.role.trans hr
  have hq1 : y'.role.quiet = false := by rw [hr]; rfl
  replace hq := hq1
  replace H := H1
  clear hg1 H1 hq1 hK1
  try walk_nrm
  co_applyP OF.pu rfl (by rfl) (fun _ => run_eq_of ?run) (fun _ => by simp [go_sem, *])
  case run => intro K hK; go_simp; exact hK
  try walk_nrm
  co_applyP OF.pu rfl (by rfl) (fun _ => run_eq_of ?run) (fun _ => by simp [go_sem, *])
  case run => intro K hK; go_simp; exact hK
  try walk_nrm
  co_applyP OF.pu rfl (by rfl) (fun _ => run_eq_of ?run) (fun _ => by simp [go_sem, *])
  case run => intro K hK; go_simp; exact hK
  try walk_nrm
  co_applyP OF.al rfl (by rfl) H hq (fun _ => run_eq_of ?run) (fun _ => by simp [go_sem, *])
  case run => intro K hK; go_simp; exact hK
  intro K w₁ y' w b10 hK1 hr1 hg1 hq1 hb1 hw1 H1
  replace hg := hg.trans hg1
  replace hr := hg1.role.trans hr
  replace hq := hq1
  replace H := H1
  clear hb1 hw1 hr1 hK1 hg1 hq1 H1
  try walk_nrm
  co_applyP OF.st1 0 0 rfl (by rfl) rfl H hq rfl rfl rfl rfl rfl (by kernel_rfl)
  intro K w₁ w hK1 hr1 hu1 H1
  replace H := H1
  clear hr1 hK1 hu1 H1
  simp only [List.set_cons_zero, List.setIfInBounds_toArray] at H
  try walk_nrm
  co_applyP OF.pu rfl (by rfl) (fun _ => run_eq_of ?run) (fun _ => by simp [go_sem, *])
  case run => intro K hK; go_simp; exact hK
  try walk_nrm
  co_apply OF.nil
  try simp only [thenF]
  co_apply WF.seqP (n₂ := 0)
  co_apply WF.seqP
  co_apply WF.region
  try simp only [List.size_toArray, List.length_cons, List.length_nil, Nat.reduceAdd, Nat.zero_add, List.range, List.range.loop]
  co_applyP OF.pu rfl (by rfl) (fun _ => run_eq_of ?run) (fun _ => by simp [go_sem, *])
  case run => intro K hK; go_simp; exact hK
  try walk_nrm
  co_applyP OF.pu rfl (by rfl) (fun _ => run_eq_of ?run) (fun _ => by simp [go_sem, *])
  case run => intro K hK; go_simp; exact hK
  try walk_nrm
  co_applyP OF.pu rfl (by rfl) (fun _ => run_eq_of ?run) (fun _ => by simp [go_sem, *])
  case run => intro K hK; go_simp; exact hK
  try walk_nrm
  first
  | (co_applyP OF.pu rfl (by rfl) (fun _ => run_eq_of ?run) (fun _ => by simp [go_sem, *]); case run => intro K hK; go_simp; exact hK)
  | co_apply OF.unwanted rfl (by rfl)
  try walk_nrm
  first
  | (co_applyP OF.pu rfl (by rfl) (fun _ => run_eq_of ?run) (fun _ => by simp [go_sem, *]); case run => intro K hK; go_simp; exact hK)
  | co_apply OF.unwanted rfl (by rfl)
  try walk_nrm
  co_applyP OF.pu rfl (by rfl) (fun _ => run_eq_of ?run) (fun _ => by simp [go_sem, *])
  case run => intro K hK; go_simp; exact hK
  try walk_nrm
  co_applyP OF.pu rfl (by rfl) (fun _ => run_eq_of ?run) (fun _ => by simp [go_sem, *])
  case run => intro K hK; go_simp; exact hK
  try walk_nrm
  first
  | (co_applyP OF.pu rfl (by rfl) (fun _ => run_eq_of ?run) (fun _ => by simp [go_sem, *]); case run => intro K hK; go_simp; exact hK)
  | co_apply OF.unwanted rfl (by rfl)
  try walk_nrm
  first
  | (co_applyP OF.pu rfl (by rfl) (fun _ => run_eq_of ?run) (fun _ => by simp [go_sem, *]); case run => intro K hK; go_simp; exact hK)
  | co_apply OF.unwanted rfl (by rfl)
  try walk_nrm
  co_applyP OF.pu rfl (by rfl) (fun _ => run_eq_of ?run) (fun _ => by simp [go_sem, *])
  case run => intro K hK; go_simp; exact hK
  try walk_nrm
  co_applyP OF.pu rfl (by rfl) (fun _ => run_eq_of ?run) (fun _ => by simp [go_sem, *])
  case run => intro K hK; go_simp; exact hK
  try walk_nrm
  first
  | (co_applyP OF.ld1 3 0 rfl (by rfl) rfl H hq rfl rfl rfl Try.underlying3 rfl; intro K w hK1 hr1 H1; replace H := H1; skip; clear hr1 hK1 H1)
  | co_apply OF.unwanted rfl (by rfl)
  try walk_nrm
  first
  | (co_applyP OF.pu rfl (by rfl) (fun _ => run_eq_of ?run) (fun _ => by simp [go_sem, *]); case run => intro K hK; go_simp; exact hK)
  | co_apply OF.unwanted rfl (by rfl)
  try walk_nrm
  co_applyP OF.pu rfl (by rfl) (fun _ => run_eq_of ?run) (fun _ => by simp [go_sem, *])
  case run => intro K hK; go_simp; exact hK
  try walk_nrm
  co_applyP OF.pu rfl (by rfl) (fun _ => run_eq_of ?run) (fun _ => by simp [go_sem, *])
  case run => intro K hK; go_simp; exact hK
  try walk_nrm
  first
  | (co_applyP OF.ld1 3 0 rfl (by rfl) rfl H hq rfl rfl rfl Try.underlying3 rfl; intro K w hK1 hr1 H1; replace H := H1; skip; clear hr1 hK1 H1)
  | co_apply OF.unwanted rfl (by rfl)
  try walk_nrm
  first
  | (co_applyP OF.pu rfl (by rfl) (fun _ => run_eq_of ?run) (fun _ => by simp [go_sem, *]); case run => intro K hK; go_simp; exact hK)
  | co_apply OF.unwanted rfl (by rfl)
  try walk_nrm
  co_applyP OF.pu rfl (by rfl) (fun _ => run_eq_of ?run) (fun _ => by simp [go_sem, *])
  case run => intro K hK; go_simp; exact hK
  try walk_nrm
  co_applyP OF.pu rfl (by rfl) (fun _ => run_eq_of ?run) (fun _ => by simp [go_sem, *])
  case run => intro K hK; go_simp; exact hK
  try walk_nrm
  first
  | (co_applyP OF.pu rfl (by rfl) (fun _ => run_eq_of ?run) (fun _ => by simp [go_sem, *]); case run => intro K hK; go_simp; exact hK)
  | co_apply OF.unwanted rfl (by rfl)
  try walk_nrm
  first
  | (co_applyP OF.pu rfl (by rfl) (fun _ => run_eq_of ?run) (fun _ => by simp [go_sem, *]); case run => intro K hK; go_simp; exact hK)
  | co_apply OF.unwanted rfl (by rfl)
  try walk_nrm
  co_applyP OF.pu rfl (by rfl) (fun _ => run_eq_of ?run) (fun _ => by simp [go_sem, *])
  case run => intro K hK; go_simp; exact hK
  try walk_nrm
  co_applyP OF.pu rfl (by rfl) (fun _ => run_eq_of ?run) (fun _ => by simp [go_sem, *])
  case run => intro K hK; go_simp; exact hK
  try walk_nrm
  first
  | (co_applyP OF.pu rfl (by rfl) (fun _ => run_eq_of ?run) (fun _ => by simp [go_sem, *]); case run => intro K hK; go_simp; exact hK)
  | co_apply OF.unwanted rfl (by rfl)
  try walk_nrm
  first
  | (co_applyP OF.pu rfl (by rfl) (fun _ => run_eq_of ?run) (fun _ => by simp [go_sem, *]); case run => intro K hK; go_simp; exact hK)
  | co_apply OF.unwanted rfl (by rfl)
  try walk_nrm
  co_applyP OF.pu rfl (by rfl) (fun _ => run_eq_of ?run) (fun _ => by simp [go_sem, *])
  case run => intro K hK; go_simp; exact hK
  try walk_nrm
  co_apply OF.nil
  try simp only [thenF]
  co_apply WF.cond (t := true) rfl
  simp only [↓reduceIte]
  co_apply WF.seqP
  co_apply WF.region
  try simp only [List.size_toArray, List.length_cons, List.length_nil, Nat.reduceAdd, Nat.zero_add, List.range, List.range.loop]
  co_applyP OF.pu rfl (by rfl) (fun _ => run_eq_of ?run) (fun _ => by simp [go_sem, *])
  case run => intro K hK; go_simp; exact hK
  try walk_nrm
  co_applyP OF.str 2 rfl (by rfl) rfl H hq rfl rfl rfl (by kernel_rfl) (by rfl) (by kernel_rfl)
  intro K w₁ w hK1 hr1 hu1 H1
  replace H := H1
  clear hr1 hK1 hu1 H1
  simp only [List.set_cons_zero, List.set_cons_succ] at H
  try walk_nrm
  co_applyP OF.pu rfl (by rfl) (fun _ => run_eq_of ?run) (fun _ => by simp [go_sem, *])
  case run => intro K hK; go_simp; exact hK
  try walk_nrm
  co_apply OF.nil
  try simp only [thenF]
  co_apply WF.ret
  try simp only [thenF]
  exact retG_cell_tmp 2 rfl H hq rfl rfl rfl Try.underlying38 rfl (by kernel_rfl) fun K₁ hK w₁ r H => ⟨rfl, hg, H.tail.tail.tail.tail⟩


/-- STORM, REFUSED. -/
theorem storm_no : ∃ nf, ∀ {N : Nat} {F : Nat → World → Prop} {m : Bool} {y : Gh Role} {K : Nat} {w : World} {l : List Row} (sh : Nat → Prop) (d wn tn kn : Int) (_ : ¬ valid d wn tn kn) (_ : y.role = .alone sh) (_ : Ctx N F y K w l), CJ (S N) m 40 #[.int .i64 d, .int .i64 wn, .int .i64 tn, .int .i64 kn] nf (fun r K' y' w' => r = outv d wn tn kn ∧ Gr y y' ∧ Ctx N F y' K' w' l) K y w := by
  obtain ⟨n0, b0⟩ := storm_bad0
  obtain ⟨n1, b1⟩ := storm_bad1
  obtain ⟨n2, b2⟩ := storm_bad2
  obtain ⟨n3, b3⟩ := storm_bad3
  obtain ⟨n4, b4⟩ := storm_bad4
  obtain ⟨n5, b5⟩ := storm_bad5
  obtain ⟨n6, b6⟩ := storm_bad6
  obtain ⟨n7, b7⟩ := storm_bad7
  refine ⟨n0 + n1 + n2 + n3 + n4 + n5 + n6 + n7, fun {N F m y K w l} sh d wn tn kn hv hr H => ?_⟩
  rw [outv_no hv]
  by_cases h0 : 0 ≤ d
  · by_cases h1 : d ≤ 2147483647
    · by_cases q0 : wn < 1
      · exact (b2 sh d wn tn kn h0 h1 q0 hr H).more (by omega)
      · by_cases q1 : 16 < wn
        · exact (b3 sh d wn tn kn h0 h1 q0 q1 hr H).more (by omega)
        · by_cases q2 : tn < 0
          · exact (b4 sh d wn tn kn h0 h1 q0 q1 q2 hr H).more (by omega)
          · by_cases q3 : 10000 < tn
            · exact (b5 sh d wn tn kn h0 h1 q0 q1 q2 q3 hr H).more (by omega)
            · by_cases q4 : kn < 0
              · exact (b6 sh d wn tn kn h0 h1 q0 q1 q2 q3 q4 hr H).more (by omega)
              · by_cases q5 : 1000 < kn
                · exact (b7 sh d wn tn kn h0 h1 q0 q1 q2 q3 q4 q5 hr H).more (by omega)
                · exact absurd ⟨(by unfold isTick; simp; exact ⟨h0, h1⟩ : isTick d = true), q0, q1, q2, q3, q4, q5⟩ hv
    · exact (b1 sh d wn tn kn h0 h1 hr H).more (by omega)
  · exact (b0 sh d wn tn kn h0 hr H).more (by omega)

/-- THE DOCUMENT'S STORM. -/
theorem rstorm_any : ∃ nf, ∀ {N : Nat} {F : Nat → World → Prop} {m : Bool} {y : Gh Role} {K : Nat} {w : World} {l : List Row} (sh : Nat → Prop) (d wn tn kn : Int) (_ : y.role = .alone sh) (_ : Ctx N F y K w l), CJ (S N) m 39 #[.int .i64 d, .int .i64 wn, .int .i64 tn, .int .i64 kn] nf (fun r K' y' w' => r = outv d wn tn kn ∧ Gr y y' ∧ Ctx N F y' K' w' l) K y w := by
  obtain ⟨n0, b0⟩ := rstorm_bad0
  obtain ⟨n1, b1⟩ := rstorm_bad1
  obtain ⟨n2, b2⟩ := rstorm_bad2
  obtain ⟨n3, b3⟩ := rstorm_bad3
  obtain ⟨n4, b4⟩ := rstorm_bad4
  obtain ⟨n5, b5⟩ := rstorm_bad5
  obtain ⟨n6, b6⟩ := rstorm_bad6
  obtain ⟨n7, b7⟩ := rstorm_k
  obtain ⟨n8, b8⟩ := rstorm_t
  obtain ⟨n9, b9⟩ := rstorm_0
  refine ⟨n0 + n1 + n2 + n3 + n4 + n5 + n6 + n7 + n8 + n9, fun {N F m y K w l} sh d wn tn kn hr H => ?_⟩
  cases ht : isTick d with
  | false => rw [outv_no fun h => by rw [h.1] at ht; cases ht]; exact (b0 sh d wn tn kn ht hr H).more (by omega)
  | true =>
    by_cases q0 : wn < 1
    · rw [outv_no fun h => h.2.1 q0]; exact (b1 sh d wn tn kn ht q0 hr H).more (by omega)
    by_cases q1 : 16 < wn
    · rw [outv_no fun h => h.2.2.1 q1]; exact (b2 sh d wn tn kn ht q0 q1 hr H).more (by omega)
    by_cases q2 : tn < 0
    · rw [outv_no fun h => h.2.2.2.1 q2]; exact (b3 sh d wn tn kn ht q0 q1 q2 hr H).more (by omega)
    by_cases q3 : 10000 < tn
    · rw [outv_no fun h => h.2.2.2.2.1 q3]; exact (b4 sh d wn tn kn ht q0 q1 q2 q3 hr H).more (by omega)
    by_cases q4 : kn < 0
    · rw [outv_no fun h => h.2.2.2.2.2.1 q4]; exact (b5 sh d wn tn kn ht q0 q1 q2 q3 q4 hr H).more (by omega)
    by_cases q5 : 1000 < kn
    · rw [outv_no fun h => h.2.2.2.2.2.2 q5]; exact (b6 sh d wn tn kn ht q0 q1 q2 q3 q4 q5 hr H).more (by omega)
    rw [outv_yes ⟨ht, q0, q1, q2, q3, q4, q5⟩]
    by_cases k1 : 0 < kn
    · rw [show endv tn kn = ⟨kn, true, 0, 1⟩ by unfold endv; rw [if_pos k1]]; exact (b7 sh d wn tn kn ht q0 q1 q2 q3 q4 q5 k1 hr H).more (by omega)
    have k2 : kn = 0 := by omega
    by_cases t1 : 0 < tn
    · rw [show endv tn kn = ⟨0, false, 0, 1⟩ by unfold endv; rw [if_neg k1, if_pos t1]]; exact (b8 sh d wn tn kn ht q0 q1 q2 q3 q4 q5 k2 t1 hr H).more (by omega)
    have t2 : tn = 0 := by omega
    rw [show endv tn kn = ⟨0, false, 0, 0⟩ by unfold endv; rw [if_neg k1, if_neg t1]]; exact (b9 sh d wn tn kn ht q0 q1 q2 q3 q4 q5 k2 t2 hr H).more (by omega)

theorem alike_any : ∃ nf, ∀ {N : Nat} {F : Nat → World → Prop} {m : Bool} {y : Gh Role} {K : Nat} {w : World} {l : List Row} (sh : Nat → Prop) (v : VW) (_ : y.role = .alone sh) (_ : Ctx N F y K w l), CJ (S N) m 17 #[.agg v.arr, .agg v.arr] nf (fun r K' y' w' => r = .bool true ∧ Gr y y' ∧ Ctx N F y' K' w' l) K y w := by
  obtain ⟨n0, b0⟩ := alike_t
  obtain ⟨n1, b1⟩ := alike_f
  refine ⟨n0 + n1, fun {N F m y K w l} sh v hr H => ?_⟩
  obtain ⟨u, e, s, k⟩ := v
  cases e with
  | true => exact (b0 sh u s k hr H).more (by omega)
  | false => exact (b1 sh u s k hr H).more (by omega)

/-- THE SWEEP at the end. -/
theorem o_sweep : ∃ nf, ∀ {N : Nat} {F : Nat → World → Prop} {m : Bool} {y : Gh Role} {K : Nat} {w : World} {l : List Row} (sh : Nat → Prop) (g : Nat) (d : Int) (T k : Nat) (_ : 0 ≤ d ∧ d ≤ 2147483647) (_ : k ≤ 1000) (_ : y.role = .alone sh) (_ : Ctx N F y K w ((g, #[.int .i64 d, .int .u64 (wdv (k : Int) (decide (0 < k ∨ 0 < T))).num], 100) :: l)),
    CJ (S N) m 16 #[.pointer (some ⟨g, 0, none⟩), .int .i64 2147483647] nf (fun _ K' y' w' => Gr y y' ∧ Ctx N F y' K' w' ((g, #[.int .i64 d, .int .u64 (endv (T : Int) (k : Int)).num], 100) :: l)) K y w := by
  obtain ⟨n0, b0⟩ := o_sweep_same
  obtain ⟨n1, b1⟩ := o_sweep_0
  refine ⟨n0 + n1, fun {N F m y K w l} sh g d T k hd hk hr H => ?_⟩
  by_cases k1 : 0 < k
  · have e : decide (0 < k ∨ 0 < T) = true := by simp [k1]
    rw [e] at H
    rw [show endv (T : Int) (k : Int) = wdv (k : Int) true by unfold endv; rw [if_pos (by omega)]; rfl]
    exact (b0 sh g d k true (by omega) (.inl k1) hr H).more (by omega)
  · have k2 : k = 0 := by omega
    subst k2
    by_cases t1 : 0 < T
    · have e : decide (0 < 0 ∨ 0 < T) = true := by simp [t1]
      rw [e] at H
      rw [show endv (T : Int) ((0 : Nat) : Int) = slept by unfold endv; rw [if_neg (by omega), if_pos (by omega)]; rfl]
      exact (b1 sh g d hd hr H).more (by omega)
    · have e : decide (0 < 0 ∨ 0 < T) = false := by simp; omega
      rw [e] at H
      rw [show endv (T : Int) ((0 : Nat) : Int) = wdv ((0 : Nat) : Int) false by unfold endv; rw [if_neg (by omega), if_neg (by omega)]; rfl]
      exact (b0 sh g d 0 false (by omega) (.inr rfl) hr H).more (by omega)
theorem endv_ok {T k : Nat} (hk : k ≤ 1000) : (endv (T : Int) (k : Int)).ok := by
  unfold endv
  split
  · constructor <;> simp <;> omega
  · split <;> constructor <;> decide

end Go.Proofs.Ytgnhddnhcfmipaa.Ids
