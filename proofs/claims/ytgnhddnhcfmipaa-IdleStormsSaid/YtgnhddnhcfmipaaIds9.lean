/- IdleStorms: the small functions of a use word, under the judgement. Printed by wip/tools/gen_ids9.py. -/
import Derived.Test.YtgnhddnhcfmipaaIds8
namespace Go.Proofs.Ytgnhddnhcfmipaa.Ids
open Go Go.Conc Go.RowKit Go.Proofs.Ytgnhddnhcfmipaa.Eg Go.Proofs.Ytgnhddnhcfmipaa

set_option maxRecDepth 100000 in
theorem tick_0 : ∃ nf, ∀ {N : Nat} {F : Nat → World → Prop} {m : Bool} {y : Gh Role} {K : Nat} {w : World} {l : List Row} (n : Int) (_ : 0 ≤ n) (_ : n ≤ 2147483647) (_ : Ctx N F y K w l) (_ : y.role.quiet = false),
    CJ (S N) m 41 #[.int .i64 n] nf (fun r K' y' w' => r = .bool true ∧ Gr y y' ∧ Ctx N F y' K' w' l) K y w := by
  co_apply Exists.intro
  intro N F m y K w l n h0 h1 H hq
  have hg := Gr.refl y
  co_apply CJ.of_WF Try.func41 (by kernel_rfl) (by rfl)
  simp only [show Try.f41.ntmps = 9 from rfl]
  walk_nrm
  co_apply WF.seq
  co_apply WF.region
  try simp only [List.size_toArray, List.length_cons, List.length_nil, Nat.zero_add, List.range, List.range.loop]
  co_applyP OF.pu rfl (by rfl) (fun _ => run_eq_of ?run) (fun _ => by simp [go_sem, *])
  case run => intro K hK; go_simp; exact hK
  walk_nrm
  co_apply OF.nil
  simp only [thenF]
  co_apply WF.seq
  co_apply WF.region
  try simp only [List.size_toArray, List.length_cons, List.length_nil, Nat.reduceAdd, Nat.zero_add, List.range, List.range.loop]
  co_applyP OF.pu rfl (by rfl) (fun _ => run_eq_of ?run) (fun _ => by simp [go_sem, *])
  case run => intro K hK; go_simp; exact hK
  walk_nrm
  co_applyP OF.pu rfl (by rfl) (fun _ => run_eq_of ?run) (fun _ => by simp [go_sem, *])
  case run => intro K hK; go_simp; exact hK
  walk_nrm
  co_applyP OF.pu rfl (by rfl) (fun _ => run_eq_of ?run) (fun _ => by simp [go_sem, *])
  case run => intro K hK; go_simp; exact hK
  walk_nrm
  first
  | (co_applyP OF.pu rfl (by rfl) (fun _ => run_eq_of ?run) (fun _ => by simp [go_sem, *]); case run => intro K hK; go_simp; exact hK)
  | co_apply OF.unwanted rfl (by rfl)
  walk_nrm
  first
  | (co_applyP OF.pu rfl (by rfl) (fun _ => run_eq_of ?run) (fun _ => by simp [go_sem, *]); case run => intro K hK; go_simp; exact hK)
  | co_apply OF.unwanted rfl (by rfl)
  walk_nrm
  co_applyP OF.pu rfl (by rfl) (fun _ => run_eq_of ?run) (fun _ => by simp [go_sem, *])
  case run => intro K hK; go_simp; exact hK
  walk_nrm
  co_applyP OF.pu rfl (by rfl) (fun _ => run_eq_of ?run) (fun _ => by simp [go_sem, *])
  case run => intro K hK; go_simp; exact hK
  walk_nrm
  co_apply OF.nil
  simp only [thenF]
  co_apply WF.ret
  exact retG_of rfl (resultsC_tmp (by rfl) _) (fun K₁ hK w₁ r => ⟨rfl, hg, H.rely r⟩)

set_option maxRecDepth 100000 in
theorem tick_1 : ∃ nf, ∀ {N : Nat} {F : Nat → World → Prop} {m : Bool} {y : Gh Role} {K : Nat} {w : World} {l : List Row} (n : Int) (_ : 0 ≤ n) (_ : ¬ n ≤ 2147483647) (_ : Ctx N F y K w l) (_ : y.role.quiet = false),
    CJ (S N) m 41 #[.int .i64 n] nf (fun r K' y' w' => r = .bool false ∧ Gr y y' ∧ Ctx N F y' K' w' l) K y w := by
  co_apply Exists.intro
  intro N F m y K w l n h0 h1 H hq
  have hg := Gr.refl y
  co_apply CJ.of_WF Try.func41 (by kernel_rfl) (by rfl)
  simp only [show Try.f41.ntmps = 9 from rfl]
  walk_nrm
  co_apply WF.seq
  co_apply WF.region
  try simp only [List.size_toArray, List.length_cons, List.length_nil, Nat.zero_add, List.range, List.range.loop]
  co_applyP OF.pu rfl (by rfl) (fun _ => run_eq_of ?run) (fun _ => by simp [go_sem, *])
  case run => intro K hK; go_simp; exact hK
  walk_nrm
  co_apply OF.nil
  simp only [thenF]
  co_apply WF.seq
  co_apply WF.region
  try simp only [List.size_toArray, List.length_cons, List.length_nil, Nat.reduceAdd, Nat.zero_add, List.range, List.range.loop]
  co_applyP OF.pu rfl (by rfl) (fun _ => run_eq_of ?run) (fun _ => by simp [go_sem, *])
  case run => intro K hK; go_simp; exact hK
  walk_nrm
  co_applyP OF.pu rfl (by rfl) (fun _ => run_eq_of ?run) (fun _ => by simp [go_sem, *])
  case run => intro K hK; go_simp; exact hK
  walk_nrm
  co_applyP OF.pu rfl (by rfl) (fun _ => run_eq_of ?run) (fun _ => by simp [go_sem, *])
  case run => intro K hK; go_simp; exact hK
  walk_nrm
  first
  | (co_applyP OF.pu rfl (by rfl) (fun _ => run_eq_of ?run) (fun _ => by simp [go_sem, *]); case run => intro K hK; go_simp; exact hK)
  | co_apply OF.unwanted rfl (by rfl)
  walk_nrm
  first
  | (co_applyP OF.pu rfl (by rfl) (fun _ => run_eq_of ?run) (fun _ => by simp [go_sem, *]); case run => intro K hK; go_simp; exact hK)
  | co_apply OF.unwanted rfl (by rfl)
  walk_nrm
  co_applyP OF.pu rfl (by rfl) (fun _ => run_eq_of ?run) (fun _ => by simp [go_sem, *])
  case run => intro K hK; go_simp; exact hK
  walk_nrm
  co_applyP OF.pu rfl (by rfl) (fun _ => run_eq_of ?run) (fun _ => by simp [go_sem, *])
  case run => intro K hK; go_simp; exact hK
  walk_nrm
  co_apply OF.nil
  simp only [thenF]
  co_apply WF.ret
  exact retG_of rfl (resultsC_tmp (by rfl) _) (fun K₁ hK w₁ r => ⟨rfl, hg, H.rely r⟩)

set_option maxRecDepth 100000 in
theorem tick_2 : ∃ nf, ∀ {N : Nat} {F : Nat → World → Prop} {m : Bool} {y : Gh Role} {K : Nat} {w : World} {l : List Row} (n : Int) (_ : ¬ 0 ≤ n) (_ : Ctx N F y K w l) (_ : y.role.quiet = false),
    CJ (S N) m 41 #[.int .i64 n] nf (fun r K' y' w' => r = .bool false ∧ Gr y y' ∧ Ctx N F y' K' w' l) K y w := by
  co_apply Exists.intro
  intro N F m y K w l n h0 H hq
  have hg := Gr.refl y
  co_apply CJ.of_WF Try.func41 (by kernel_rfl) (by rfl)
  simp only [show Try.f41.ntmps = 9 from rfl]
  walk_nrm
  co_apply WF.seq
  co_apply WF.region
  try simp only [List.size_toArray, List.length_cons, List.length_nil, Nat.zero_add, List.range, List.range.loop]
  co_applyP OF.pu rfl (by rfl) (fun _ => run_eq_of ?run) (fun _ => by simp [go_sem, *])
  case run => intro K hK; go_simp; exact hK
  walk_nrm
  co_apply OF.nil
  simp only [thenF]
  co_apply WF.seq
  co_apply WF.region
  try simp only [List.size_toArray, List.length_cons, List.length_nil, Nat.reduceAdd, Nat.zero_add, List.range, List.range.loop]
  co_applyP OF.pu rfl (by rfl) (fun _ => run_eq_of ?run) (fun _ => by simp [go_sem, *])
  case run => intro K hK; go_simp; exact hK
  walk_nrm
  co_applyP OF.pu rfl (by rfl) (fun _ => run_eq_of ?run) (fun _ => by simp [go_sem, *])
  case run => intro K hK; go_simp; exact hK
  walk_nrm
  co_applyP OF.pu rfl (by rfl) (fun _ => run_eq_of ?run) (fun _ => by simp [go_sem, *])
  case run => intro K hK; go_simp; exact hK
  walk_nrm
  first
  | (co_applyP OF.pu rfl (by rfl) (fun _ => run_eq_of ?run) (fun _ => by simp [go_sem, *]); case run => intro K hK; go_simp; exact hK)
  | co_apply OF.unwanted rfl (by rfl)
  walk_nrm
  first
  | (co_applyP OF.pu rfl (by rfl) (fun _ => run_eq_of ?run) (fun _ => by simp [go_sem, *]); case run => intro K hK; go_simp; exact hK)
  | co_apply OF.unwanted rfl (by rfl)
  walk_nrm
  co_applyP OF.pu rfl (by rfl) (fun _ => run_eq_of ?run) (fun _ => by simp [go_sem, *])
  case run => intro K hK; go_simp; exact hK
  walk_nrm
  co_applyP OF.pu rfl (by rfl) (fun _ => run_eq_of ?run) (fun _ => by simp [go_sem, *])
  case run => intro K hK; go_simp; exact hK
  walk_nrm
  co_apply OF.nil
  simp only [thenF]
  co_apply WF.ret
  exact retG_of rfl (resultsC_tmp (by rfl) _) (fun K₁ hK w₁ r => ⟨rfl, hg, H.rely r⟩)

theorem tick_c : ∃ nf, ∀ {N : Nat} {F : Nat → World → Prop} {m : Bool} {y : Gh Role} {K : Nat} {w : World} {l : List Row} (n : Int) (_ : Ctx N F y K w l) (_ : y.role.quiet = false),
    CJ (S N) m 41 #[.int .i64 n] nf (fun r K' y' w' => r = .bool (isTick n) ∧ Gr y y' ∧ Ctx N F y' K' w' l) K y w := by
  obtain ⟨n0, h0⟩ := tick_0
  obtain ⟨n1, h1⟩ := tick_1
  obtain ⟨n2, h2⟩ := tick_2
  refine ⟨n0 + n1 + n2, fun n H hq => ?_⟩
  by_cases e0 : 0 ≤ n
  · by_cases e1 : n ≤ 2147483647
    · rw [show isTick n = true by unfold isTick; simp; omega]; exact (h0 n e0 e1 H hq).more (by omega)
    · rw [show isTick n = false by unfold isTick; simp; omega]; exact (h1 n e0 e1 H hq).more (by omega)
  · rw [show isTick n = false by unfold isTick; simp; omega]; exact (h2 n e0 H hq).more (by omega)

set_option maxRecDepth 100000 in
theorem rtick_0 : ∃ nf, ∀ {N : Nat} {F : Nat → World → Prop} {m : Bool} {y : Gh Role} {K : Nat} {w : World} {l : List Row} (n : Int) (_ : 0 ≤ n) (_ : n ≤ 2147483647) (_ : Ctx N F y K w l) (_ : y.role.quiet = false),
    CJ (S N) m 12 #[.int .i64 n] nf (fun r K' y' w' => r = .bool true ∧ Gr y y' ∧ Ctx N F y' K' w' l) K y w := by
  co_apply Exists.intro
  intro N F m y K w l n h0 h1 H hq
  have hg := Gr.refl y
  co_apply CJ.of_WF Try.func12 (by kernel_rfl) (by rfl)
  simp only [show Try.f12.ntmps = 9 from rfl]
  walk_nrm
  co_apply WF.seq
  co_apply WF.region
  try simp only [List.size_toArray, List.length_cons, List.length_nil, Nat.zero_add, List.range, List.range.loop]
  co_applyP OF.pu rfl (by rfl) (fun _ => run_eq_of ?run) (fun _ => by simp [go_sem, *])
  case run => intro K hK; go_simp; exact hK
  walk_nrm
  co_apply OF.nil
  simp only [thenF]
  co_apply WF.seq
  co_apply WF.region
  try simp only [List.size_toArray, List.length_cons, List.length_nil, Nat.reduceAdd, Nat.zero_add, List.range, List.range.loop]
  co_applyP OF.pu rfl (by rfl) (fun _ => run_eq_of ?run) (fun _ => by simp [go_sem, *])
  case run => intro K hK; go_simp; exact hK
  walk_nrm
  co_applyP OF.pu rfl (by rfl) (fun _ => run_eq_of ?run) (fun _ => by simp [go_sem, *])
  case run => intro K hK; go_simp; exact hK
  walk_nrm
  co_applyP OF.pu rfl (by rfl) (fun _ => run_eq_of ?run) (fun _ => by simp [go_sem, *])
  case run => intro K hK; go_simp; exact hK
  walk_nrm
  first
  | (co_applyP OF.pu rfl (by rfl) (fun _ => run_eq_of ?run) (fun _ => by simp [go_sem, *]); case run => intro K hK; go_simp; exact hK)
  | co_apply OF.unwanted rfl (by rfl)
  walk_nrm
  first
  | (co_applyP OF.pu rfl (by rfl) (fun _ => run_eq_of ?run) (fun _ => by simp [go_sem, *]); case run => intro K hK; go_simp; exact hK)
  | co_apply OF.unwanted rfl (by rfl)
  walk_nrm
  co_applyP OF.pu rfl (by rfl) (fun _ => run_eq_of ?run) (fun _ => by simp [go_sem, *])
  case run => intro K hK; go_simp; exact hK
  walk_nrm
  co_applyP OF.pu rfl (by rfl) (fun _ => run_eq_of ?run) (fun _ => by simp [go_sem, *])
  case run => intro K hK; go_simp; exact hK
  walk_nrm
  co_apply OF.nil
  simp only [thenF]
  co_apply WF.ret
  exact retG_of rfl (resultsC_tmp (by rfl) _) (fun K₁ hK w₁ r => ⟨rfl, hg, H.rely r⟩)

set_option maxRecDepth 100000 in
theorem rtick_1 : ∃ nf, ∀ {N : Nat} {F : Nat → World → Prop} {m : Bool} {y : Gh Role} {K : Nat} {w : World} {l : List Row} (n : Int) (_ : 0 ≤ n) (_ : ¬ n ≤ 2147483647) (_ : Ctx N F y K w l) (_ : y.role.quiet = false),
    CJ (S N) m 12 #[.int .i64 n] nf (fun r K' y' w' => r = .bool false ∧ Gr y y' ∧ Ctx N F y' K' w' l) K y w := by
  co_apply Exists.intro
  intro N F m y K w l n h0 h1 H hq
  have hg := Gr.refl y
  co_apply CJ.of_WF Try.func12 (by kernel_rfl) (by rfl)
  simp only [show Try.f12.ntmps = 9 from rfl]
  walk_nrm
  co_apply WF.seq
  co_apply WF.region
  try simp only [List.size_toArray, List.length_cons, List.length_nil, Nat.zero_add, List.range, List.range.loop]
  co_applyP OF.pu rfl (by rfl) (fun _ => run_eq_of ?run) (fun _ => by simp [go_sem, *])
  case run => intro K hK; go_simp; exact hK
  walk_nrm
  co_apply OF.nil
  simp only [thenF]
  co_apply WF.seq
  co_apply WF.region
  try simp only [List.size_toArray, List.length_cons, List.length_nil, Nat.reduceAdd, Nat.zero_add, List.range, List.range.loop]
  co_applyP OF.pu rfl (by rfl) (fun _ => run_eq_of ?run) (fun _ => by simp [go_sem, *])
  case run => intro K hK; go_simp; exact hK
  walk_nrm
  co_applyP OF.pu rfl (by rfl) (fun _ => run_eq_of ?run) (fun _ => by simp [go_sem, *])
  case run => intro K hK; go_simp; exact hK
  walk_nrm
  co_applyP OF.pu rfl (by rfl) (fun _ => run_eq_of ?run) (fun _ => by simp [go_sem, *])
  case run => intro K hK; go_simp; exact hK
  walk_nrm
  first
  | (co_applyP OF.pu rfl (by rfl) (fun _ => run_eq_of ?run) (fun _ => by simp [go_sem, *]); case run => intro K hK; go_simp; exact hK)
  | co_apply OF.unwanted rfl (by rfl)
  walk_nrm
  first
  | (co_applyP OF.pu rfl (by rfl) (fun _ => run_eq_of ?run) (fun _ => by simp [go_sem, *]); case run => intro K hK; go_simp; exact hK)
  | co_apply OF.unwanted rfl (by rfl)
  walk_nrm
  co_applyP OF.pu rfl (by rfl) (fun _ => run_eq_of ?run) (fun _ => by simp [go_sem, *])
  case run => intro K hK; go_simp; exact hK
  walk_nrm
  co_applyP OF.pu rfl (by rfl) (fun _ => run_eq_of ?run) (fun _ => by simp [go_sem, *])
  case run => intro K hK; go_simp; exact hK
  walk_nrm
  co_apply OF.nil
  simp only [thenF]
  co_apply WF.ret
  exact retG_of rfl (resultsC_tmp (by rfl) _) (fun K₁ hK w₁ r => ⟨rfl, hg, H.rely r⟩)

set_option maxRecDepth 100000 in
theorem rtick_2 : ∃ nf, ∀ {N : Nat} {F : Nat → World → Prop} {m : Bool} {y : Gh Role} {K : Nat} {w : World} {l : List Row} (n : Int) (_ : ¬ 0 ≤ n) (_ : Ctx N F y K w l) (_ : y.role.quiet = false),
    CJ (S N) m 12 #[.int .i64 n] nf (fun r K' y' w' => r = .bool false ∧ Gr y y' ∧ Ctx N F y' K' w' l) K y w := by
  co_apply Exists.intro
  intro N F m y K w l n h0 H hq
  have hg := Gr.refl y
  co_apply CJ.of_WF Try.func12 (by kernel_rfl) (by rfl)
  simp only [show Try.f12.ntmps = 9 from rfl]
  walk_nrm
  co_apply WF.seq
  co_apply WF.region
  try simp only [List.size_toArray, List.length_cons, List.length_nil, Nat.zero_add, List.range, List.range.loop]
  co_applyP OF.pu rfl (by rfl) (fun _ => run_eq_of ?run) (fun _ => by simp [go_sem, *])
  case run => intro K hK; go_simp; exact hK
  walk_nrm
  co_apply OF.nil
  simp only [thenF]
  co_apply WF.seq
  co_apply WF.region
  try simp only [List.size_toArray, List.length_cons, List.length_nil, Nat.reduceAdd, Nat.zero_add, List.range, List.range.loop]
  co_applyP OF.pu rfl (by rfl) (fun _ => run_eq_of ?run) (fun _ => by simp [go_sem, *])
  case run => intro K hK; go_simp; exact hK
  walk_nrm
  co_applyP OF.pu rfl (by rfl) (fun _ => run_eq_of ?run) (fun _ => by simp [go_sem, *])
  case run => intro K hK; go_simp; exact hK
  walk_nrm
  co_applyP OF.pu rfl (by rfl) (fun _ => run_eq_of ?run) (fun _ => by simp [go_sem, *])
  case run => intro K hK; go_simp; exact hK
  walk_nrm
  first
  | (co_applyP OF.pu rfl (by rfl) (fun _ => run_eq_of ?run) (fun _ => by simp [go_sem, *]); case run => intro K hK; go_simp; exact hK)
  | co_apply OF.unwanted rfl (by rfl)
  walk_nrm
  first
  | (co_applyP OF.pu rfl (by rfl) (fun _ => run_eq_of ?run) (fun _ => by simp [go_sem, *]); case run => intro K hK; go_simp; exact hK)
  | co_apply OF.unwanted rfl (by rfl)
  walk_nrm
  co_applyP OF.pu rfl (by rfl) (fun _ => run_eq_of ?run) (fun _ => by simp [go_sem, *])
  case run => intro K hK; go_simp; exact hK
  walk_nrm
  co_applyP OF.pu rfl (by rfl) (fun _ => run_eq_of ?run) (fun _ => by simp [go_sem, *])
  case run => intro K hK; go_simp; exact hK
  walk_nrm
  co_apply OF.nil
  simp only [thenF]
  co_apply WF.ret
  exact retG_of rfl (resultsC_tmp (by rfl) _) (fun K₁ hK w₁ r => ⟨rfl, hg, H.rely r⟩)

theorem rtick_c : ∃ nf, ∀ {N : Nat} {F : Nat → World → Prop} {m : Bool} {y : Gh Role} {K : Nat} {w : World} {l : List Row} (n : Int) (_ : Ctx N F y K w l) (_ : y.role.quiet = false),
    CJ (S N) m 12 #[.int .i64 n] nf (fun r K' y' w' => r = .bool (isTick n) ∧ Gr y y' ∧ Ctx N F y' K' w' l) K y w := by
  obtain ⟨n0, h0⟩ := rtick_0
  obtain ⟨n1, h1⟩ := rtick_1
  obtain ⟨n2, h2⟩ := rtick_2
  refine ⟨n0 + n1 + n2, fun n H hq => ?_⟩
  by_cases e0 : 0 ≤ n
  · by_cases e1 : n ≤ 2147483647
    · rw [show isTick n = true by unfold isTick; simp; omega]; exact (h0 n e0 e1 H hq).more (by omega)
    · rw [show isTick n = false by unfold isTick; simp; omega]; exact (h1 n e0 e1 H hq).more (by omega)
  · rw [show isTick n = false by unfold isTick; simp; omega]; exact (h2 n e0 H hq).more (by omega)

set_option maxRecDepth 100000 in
theorem view_c : ∃ nf, ∀ {N : Nat} {F : Nat → World → Prop} {m : Bool} {y : Gh Role} {K : Nat} {w : World} {l : List Row} (v : VW) (_ : v.ok) (_ : Ctx N F y K w l) (_ : y.role.quiet = false),
    CJ (S N) m 44 #[.int .u64 v.num] nf (fun r K' y' w' => r = .agg v.arr ∧ Gr y y' ∧ Ctx N F y' K' w' l) K y w := by
  co_apply Exists.intro
  intro N F m y K w l v hv H hq
  have hg := Gr.refl y
  have hn := VW.num_lt hv
  obtain ⟨p1, p2, p3, p4⟩ := VW.parts hv
  obtain ⟨u0, u1, s0, s1, k0, k1⟩ := hv
  unfold VW.arr
  generalize v.num = n at *
  have a1 := (and_mod hn.1 hn.2).1
  have a2 := (and_mod (a := n / 65536) (by omega) (by omega)).2
  have a3 := (and_mod (a := n / 140737488355328) (by omega) (by omega)).1
  rw [p1] at a1
  rw [p2] at a2
  rw [p3] at a3
  clear p1 p2 p3
  have wu : IntKind.i64.wrap v.u = v.u := by rw [IntKind.wrap_i64]; omega
  have ws : IntKind.i64.wrap v.s = v.s := by rw [IntKind.wrap_i64]; omega
  have wk : IntKind.i64.wrap v.k = v.k := by rw [IntKind.wrap_i64]; omega
  co_apply CJ.of_WF Try.func44 (by kernel_rfl) (by rfl)
  simp only [show Try.f44.ntmps = 18 from rfl]
  walk_nrm
  co_apply WF.seq
  co_apply WF.region
  try simp only [List.size_toArray, List.length_cons, List.length_nil, Nat.zero_add, List.range, List.range.loop]
  co_applyP OF.al rfl (by rfl) H hq (fun _ => run_eq_of ?run) (fun _ => by simp [go_sem, *])
  case run => intro K hK; go_simp; exact hK
  intro K w₁ y' w b2 hK1 hr1 hg' hq' hb1 hw1 H1
  replace hg := hg.trans hg'
  replace hq := hq'
  replace H := H1
  clear hb1 hw1 hr1 hK1 hg' hq' H1
  walk_nrm
  co_apply OF.nil
  simp only [thenF]
  co_apply WF.seq
  co_apply WF.region
  try simp only [List.size_toArray, List.length_cons, List.length_nil, Nat.reduceAdd, Nat.zero_add, List.range, List.range.loop]
  co_applyP OF.pu rfl (by rfl) (fun _ => run_eq_of ?run) (fun _ => by simp [go_sem, *])
  case run => intro K hK; go_simp; exact hK
  walk_nrm
  co_applyP OF.pu rfl (by rfl) (fun _ => run_eq_of ?run) (fun _ => by simp [go_sem, *])
  case run => intro K hK; go_simp; exact hK
  walk_nrm
  co_applyP OF.pu rfl (by rfl) (fun _ => run_eq_of ?run) (fun _ => by simp [go_sem, *])
  case run => intro K hK; go_simp; exact hK
  walk_nrm
  co_applyP OF.pu rfl (by rfl) (fun _ => run_eq_of ?run) (fun _ => by simp [go_sem, *])
  case run => intro K hK; go_simp; exact hK
  walk_nrm
  co_applyP OF.pu rfl (by rfl) (fun _ => run_eq_of ?run) (fun _ => by simp [go_sem, *])
  case run => intro K hK; go_simp; exact hK
  walk_nrm
  co_applyP OF.pu rfl (by rfl) (fun _ => run_eq_of ?run) (fun _ => by simp [go_sem, *])
  case run => intro K hK; go_simp; exact hK
  walk_nrm
  co_applyP OF.pu rfl (by rfl) (fun _ => run_eq_of ?run) (fun _ => by simp [go_sem, *])
  case run => intro K hK; go_simp; exact hK
  walk_nrm
  co_applyP OF.pu rfl (by rfl) (fun _ => run_eq_of ?run) (fun _ => by simp [go_sem, *])
  case run => intro K hK; go_simp; exact hK
  walk_nrm
  co_applyP OF.pu rfl (by rfl) (fun _ => run_eq_of ?run) (fun _ => by simp [go_sem, *])
  case run => intro K hK; go_simp; exact hK
  walk_nrm
  co_applyP OF.pu rfl (by rfl) (fun _ => run_eq_of ?run) (fun _ => by simp [go_sem, *])
  case run => intro K hK; go_simp; exact hK
  walk_nrm
  co_applyP OF.pu rfl (by rfl) (fun _ => run_eq_of ?run) (fun _ => by simp [go_sem, *])
  case run => intro K hK; go_simp; exact hK
  walk_nrm
  co_applyP OF.pu rfl (by rfl) (fun _ => run_eq_of ?run) (fun _ => by simp [go_sem, *])
  case run => intro K hK; go_simp; exact hK
  walk_nrm
  co_applyP OF.pu rfl (by rfl) (fun _ => run_eq_of ?run) (fun _ => by simp [go_sem, *])
  case run => intro K hK; go_simp; exact hK
  walk_nrm
  co_applyP OF.pu rfl (by rfl) (fun _ => run_eq_of ?run) (fun _ => by simp [go_sem, *])
  case run => intro K hK; go_simp; exact hK
  walk_nrm
  co_applyP OF.pu rfl (by rfl) (fun _ => run_eq_of ?run) (fun _ => by simp [go_sem, *])
  case run => intro K hK; go_simp; exact hK
  walk_nrm
  co_applyP OF.str 0 rfl (by rfl) rfl H hq rfl rfl rfl (by kernel_rfl) (by rfl) (by kernel_rfl)
  intro K w₁ w hK1 hr1 hu1 H1
  replace H := H1
  clear hr1 hK1 hu1 H1
  simp only [List.set_cons_zero] at H
  walk_nrm
  co_apply OF.nil
  simp only [thenF]
  co_apply WF.ret
  exact retG_cell 0 rfl H hq rfl rfl rfl Try.underlying38 rfl (by kernel_rfl) fun K₁ hK w₁ r H => ⟨rfl, hg, H.tail⟩

set_option maxRecDepth 100000 in
theorem packed_t : ∃ nf, ∀ {N : Nat} {F : Nat → World → Prop} {m : Bool} {y : Gh Role} {K : Nat} {w : World} {l : List Row} (u s k : Int) (_ : (⟨u, true, s, k⟩ : VW).ok) (_ : Ctx N F y K w l) (_ : y.role.quiet = false),
    CJ (S N) m 61 #[.agg #[.int .i64 u, .bool true, .int .i64 s, .int .i64 k]] nf (fun r K' y' w' => r = .int .u64 (⟨u, true, s, k⟩ : VW).num ∧ Gr y y' ∧ Ctx N F y' K' w' l) K y w := by
  co_apply Exists.intro
  intro N F m y K w l u s k hv H hq
  have hg := Gr.refl y
  obtain ⟨u0, u1, s0, s1, k0, k1⟩ := hv
  simp only at u0 u1 s0 s1 k0 k1
  have o1 := or_add (a := u) (b := s) 16 u0 (by rw [show (2 : Int) ^ 16 = 65536 from rfl]; omega) s0 (by rw [show (2 : Int) ^ 16 = 65536 from rfl]; omega) (by decide)
  rw [show (2 : Int) ^ 16 = 65536 from rfl] at o1
  have o2 := or_add (a := u + s * 65536) (b := k) 47 (by omega) (by rw [show (2 : Int) ^ 47 = 140737488355328 from rfl]; omega) k0 (by rw [show (2 : Int) ^ 47 = 140737488355328 from rfl]; omega) (by decide)
  rw [show (2 : Int) ^ 47 = 140737488355328 from rfl] at o2
  have o3 := or_add (a := u + s * 65536 + k * 140737488355328) (b := 1) 63 (by omega) (by rw [show (2 : Int) ^ 63 = 9223372036854775808 from rfl]; omega) (by decide) (by decide) (by decide)
  rw [show (1 : Int) * (2 : Int) ^ 63 = 9223372036854775808 from rfl] at o3
  have wu : IntKind.u64.wrap u = u := by rw [IntKind.wrap_u64]; omega
  have ws : IntKind.u64.wrap s = s := by rw [IntKind.wrap_u64]; omega
  have wk : IntKind.u64.wrap k = k := by rw [IntKind.wrap_u64]; omega
  have ws2 : IntKind.u64.wrap (s * 65536) = s * 65536 := by rw [IntKind.wrap_u64]; omega
  have wk2 : IntKind.u64.wrap (k * 140737488355328) = k * 140737488355328 := by rw [IntKind.wrap_u64]; omega
  co_apply CJ.of_WF Try.func61 (by kernel_rfl) (by rfl)
  simp only [show Try.f61.ntmps = 22 from rfl]
  walk_nrm
  co_apply WF.seq
  co_apply WF.region
  try simp only [List.size_toArray, List.length_cons, List.length_nil, Nat.reduceAdd, Nat.zero_add, List.range, List.range.loop]
  co_applyP OF.al rfl (by rfl) H hq (fun _ => run_eq_of ?run) (fun _ => by simp [go_sem, *])
  case run => intro K hK; go_simp; exact hK
  intro K w₁ y' w b1 hK1 hr1 hg' hq' hb1 hw1 H1
  replace hg := hg.trans hg'
  replace hq := hq'
  replace H := H1
  clear hb1 hw1 hr1 hK1 hg' hq' H1
  walk_nrm
  co_applyP OF.pu rfl (by rfl) (fun _ => run_eq_of ?run) (fun _ => by simp [go_sem, *])
  case run => intro K hK; go_simp; exact hK
  walk_nrm
  co_apply OF.nil
  simp only [thenF]
  co_apply WF.seq
  co_apply WF.region
  try simp only [List.size_toArray, List.length_cons, List.length_nil, Nat.reduceAdd, Nat.zero_add, List.range, List.range.loop]
  co_applyP OF.pu rfl (by rfl) (fun _ => run_eq_of ?run) (fun _ => by simp [go_sem, *])
  case run => intro K hK; go_simp; exact hK
  walk_nrm
  co_applyP OF.ld1 0 0 rfl (by rfl) rfl H hq rfl rfl rfl Try.underlying3 rfl
  intro K w hK1 hr1 H1
  replace H := H1
  clear hr1 hK1 H1
  walk_nrm
  co_applyP OF.pu rfl (by rfl) (fun _ => run_eq_of ?run) (fun _ => by simp [go_sem, *])
  case run => intro K hK; go_simp; exact hK
  walk_nrm
  co_applyP OF.pu rfl (by rfl) (fun _ => run_eq_of ?run) (fun _ => by simp [go_sem, *])
  case run => intro K hK; go_simp; exact hK
  walk_nrm
  co_applyP OF.ld1 0 2 rfl (by rfl) rfl H hq rfl rfl rfl Try.underlying3 rfl
  intro K w hK1 hr1 H1
  replace H := H1
  clear hr1 hK1 H1
  walk_nrm
  co_applyP OF.pu rfl (by rfl) (fun _ => run_eq_of ?run) (fun _ => by simp [go_sem, *])
  case run => intro K hK; go_simp; exact hK
  walk_nrm
  co_applyP OF.pu rfl (by rfl) (fun _ => run_eq_of ?run) (fun _ => by simp [go_sem, *])
  case run => intro K hK; go_simp; exact hK
  walk_nrm
  co_applyP OF.pu rfl (by rfl) (fun _ => run_eq_of ?run) (fun _ => by simp [go_sem, *])
  case run => intro K hK; go_simp; exact hK
  walk_nrm
  co_applyP OF.pu rfl (by rfl) (fun _ => run_eq_of ?run) (fun _ => by simp [go_sem, *])
  case run => intro K hK; go_simp; exact hK
  walk_nrm
  co_applyP OF.ld1 0 3 rfl (by rfl) rfl H hq rfl rfl rfl Try.underlying3 rfl
  intro K w hK1 hr1 H1
  replace H := H1
  clear hr1 hK1 H1
  walk_nrm
  co_applyP OF.pu rfl (by rfl) (fun _ => run_eq_of ?run) (fun _ => by simp [go_sem, *])
  case run => intro K hK; go_simp; exact hK
  walk_nrm
  co_applyP OF.pu rfl (by rfl) (fun _ => run_eq_of ?run) (fun _ => by simp [go_sem, *])
  case run => intro K hK; go_simp; exact hK
  walk_nrm
  co_applyP OF.pu rfl (by rfl) (fun _ => run_eq_of ?run) (fun _ => by simp [go_sem, *])
  case run => intro K hK; go_simp; exact hK
  walk_nrm
  co_applyP OF.pu rfl (by rfl) (fun _ => run_eq_of ?run) (fun _ => by simp [go_sem, *])
  case run => intro K hK; go_simp; exact hK
  walk_nrm
  co_apply OF.nil
  simp only [thenF]
  co_apply WF.seq
  co_apply WF.seq
  co_apply WF.region
  try simp only [List.size_toArray, List.length_cons, List.length_nil, Nat.reduceAdd, Nat.zero_add, List.range, List.range.loop]
  co_applyP OF.pu rfl (by rfl) (fun _ => run_eq_of ?run) (fun _ => by simp [go_sem, *])
  case run => intro K hK; go_simp; exact hK
  walk_nrm
  co_applyP OF.ld1 0 1 rfl (by rfl) rfl H hq rfl rfl rfl Try.underlying4 rfl
  intro K w hK1 hr1 H1
  replace H := H1
  clear hr1 hK1 H1
  walk_nrm
  co_apply OF.nil
  simp only [thenF]
  co_apply WF.cond (t := true) rfl
  simp only [↓reduceIte]
  co_apply WF.region
  try simp only [List.size_toArray, List.length_cons, List.length_nil, Nat.reduceAdd, Nat.zero_add, List.range, List.range.loop]
  co_applyP OF.pu rfl (by rfl) (fun _ => run_eq_of ?run) (fun _ => by simp [go_sem, *])
  case run => intro K hK; go_simp; exact hK
  walk_nrm
  co_applyP OF.pu rfl (by rfl) (fun _ => run_eq_of ?run) (fun _ => by simp [go_sem, *])
  case run => intro K hK; go_simp; exact hK
  walk_nrm
  co_applyP OF.pu rfl (by rfl) (fun _ => run_eq_of ?run) (fun _ => by simp [go_sem, *])
  case run => intro K hK; go_simp; exact hK
  walk_nrm
  co_apply OF.nil
  simp only [thenF]
  co_apply WF.seq
  co_apply WF.region
  try simp only [List.size_toArray, List.length_cons, List.length_nil, Nat.reduceAdd, Nat.zero_add, List.range, List.range.loop]
  co_applyP OF.pu rfl (by rfl) (fun _ => run_eq_of ?run) (fun _ => by simp [go_sem, *])
  case run => intro K hK; go_simp; exact hK
  walk_nrm
  co_applyP OF.pu rfl (by rfl) (fun _ => run_eq_of ?run) (fun _ => by simp [go_sem, *])
  case run => intro K hK; go_simp; exact hK
  walk_nrm
  co_apply OF.nil
  simp only [thenF]
  co_apply WF.ret
  exact retG_of rfl (resultsC_tmp (by rfl) _) (fun K₁ hK w₁ r => ⟨rfl, hg, (H.rely r).tail⟩)

set_option maxRecDepth 100000 in
theorem packed_f : ∃ nf, ∀ {N : Nat} {F : Nat → World → Prop} {m : Bool} {y : Gh Role} {K : Nat} {w : World} {l : List Row} (u s k : Int) (_ : (⟨u, false, s, k⟩ : VW).ok) (_ : Ctx N F y K w l) (_ : y.role.quiet = false),
    CJ (S N) m 61 #[.agg #[.int .i64 u, .bool false, .int .i64 s, .int .i64 k]] nf (fun r K' y' w' => r = .int .u64 (⟨u, false, s, k⟩ : VW).num ∧ Gr y y' ∧ Ctx N F y' K' w' l) K y w := by
  co_apply Exists.intro
  intro N F m y K w l u s k hv H hq
  have hg := Gr.refl y
  obtain ⟨u0, u1, s0, s1, k0, k1⟩ := hv
  simp only at u0 u1 s0 s1 k0 k1
  have o1 := or_add (a := u) (b := s) 16 u0 (by rw [show (2 : Int) ^ 16 = 65536 from rfl]; omega) s0 (by rw [show (2 : Int) ^ 16 = 65536 from rfl]; omega) (by decide)
  rw [show (2 : Int) ^ 16 = 65536 from rfl] at o1
  have o2 := or_add (a := u + s * 65536) (b := k) 47 (by omega) (by rw [show (2 : Int) ^ 47 = 140737488355328 from rfl]; omega) k0 (by rw [show (2 : Int) ^ 47 = 140737488355328 from rfl]; omega) (by decide)
  rw [show (2 : Int) ^ 47 = 140737488355328 from rfl] at o2
  have o3 := or_add (a := u + s * 65536 + k * 140737488355328) (b := 1) 63 (by omega) (by rw [show (2 : Int) ^ 63 = 9223372036854775808 from rfl]; omega) (by decide) (by decide) (by decide)
  rw [show (1 : Int) * (2 : Int) ^ 63 = 9223372036854775808 from rfl] at o3
  have wu : IntKind.u64.wrap u = u := by rw [IntKind.wrap_u64]; omega
  have ws : IntKind.u64.wrap s = s := by rw [IntKind.wrap_u64]; omega
  have wk : IntKind.u64.wrap k = k := by rw [IntKind.wrap_u64]; omega
  have ws2 : IntKind.u64.wrap (s * 65536) = s * 65536 := by rw [IntKind.wrap_u64]; omega
  have wk2 : IntKind.u64.wrap (k * 140737488355328) = k * 140737488355328 := by rw [IntKind.wrap_u64]; omega
  co_apply CJ.of_WF Try.func61 (by kernel_rfl) (by rfl)
  simp only [show Try.f61.ntmps = 22 from rfl]
  walk_nrm
  co_apply WF.seq
  co_apply WF.region
  try simp only [List.size_toArray, List.length_cons, List.length_nil, Nat.reduceAdd, Nat.zero_add, List.range, List.range.loop]
  co_applyP OF.al rfl (by rfl) H hq (fun _ => run_eq_of ?run) (fun _ => by simp [go_sem, *])
  case run => intro K hK; go_simp; exact hK
  intro K w₁ y' w b1 hK1 hr1 hg' hq' hb1 hw1 H1
  replace hg := hg.trans hg'
  replace hq := hq'
  replace H := H1
  clear hb1 hw1 hr1 hK1 hg' hq' H1
  walk_nrm
  co_applyP OF.pu rfl (by rfl) (fun _ => run_eq_of ?run) (fun _ => by simp [go_sem, *])
  case run => intro K hK; go_simp; exact hK
  walk_nrm
  co_apply OF.nil
  simp only [thenF]
  co_apply WF.seq
  co_apply WF.region
  try simp only [List.size_toArray, List.length_cons, List.length_nil, Nat.reduceAdd, Nat.zero_add, List.range, List.range.loop]
  co_applyP OF.pu rfl (by rfl) (fun _ => run_eq_of ?run) (fun _ => by simp [go_sem, *])
  case run => intro K hK; go_simp; exact hK
  walk_nrm
  co_applyP OF.ld1 0 0 rfl (by rfl) rfl H hq rfl rfl rfl Try.underlying3 rfl
  intro K w hK1 hr1 H1
  replace H := H1
  clear hr1 hK1 H1
  walk_nrm
  co_applyP OF.pu rfl (by rfl) (fun _ => run_eq_of ?run) (fun _ => by simp [go_sem, *])
  case run => intro K hK; go_simp; exact hK
  walk_nrm
  co_applyP OF.pu rfl (by rfl) (fun _ => run_eq_of ?run) (fun _ => by simp [go_sem, *])
  case run => intro K hK; go_simp; exact hK
  walk_nrm
  co_applyP OF.ld1 0 2 rfl (by rfl) rfl H hq rfl rfl rfl Try.underlying3 rfl
  intro K w hK1 hr1 H1
  replace H := H1
  clear hr1 hK1 H1
  walk_nrm
  co_applyP OF.pu rfl (by rfl) (fun _ => run_eq_of ?run) (fun _ => by simp [go_sem, *])
  case run => intro K hK; go_simp; exact hK
  walk_nrm
  co_applyP OF.pu rfl (by rfl) (fun _ => run_eq_of ?run) (fun _ => by simp [go_sem, *])
  case run => intro K hK; go_simp; exact hK
  walk_nrm
  co_applyP OF.pu rfl (by rfl) (fun _ => run_eq_of ?run) (fun _ => by simp [go_sem, *])
  case run => intro K hK; go_simp; exact hK
  walk_nrm
  co_applyP OF.pu rfl (by rfl) (fun _ => run_eq_of ?run) (fun _ => by simp [go_sem, *])
  case run => intro K hK; go_simp; exact hK
  walk_nrm
  co_applyP OF.ld1 0 3 rfl (by rfl) rfl H hq rfl rfl rfl Try.underlying3 rfl
  intro K w hK1 hr1 H1
  replace H := H1
  clear hr1 hK1 H1
  walk_nrm
  co_applyP OF.pu rfl (by rfl) (fun _ => run_eq_of ?run) (fun _ => by simp [go_sem, *])
  case run => intro K hK; go_simp; exact hK
  walk_nrm
  co_applyP OF.pu rfl (by rfl) (fun _ => run_eq_of ?run) (fun _ => by simp [go_sem, *])
  case run => intro K hK; go_simp; exact hK
  walk_nrm
  co_applyP OF.pu rfl (by rfl) (fun _ => run_eq_of ?run) (fun _ => by simp [go_sem, *])
  case run => intro K hK; go_simp; exact hK
  walk_nrm
  co_applyP OF.pu rfl (by rfl) (fun _ => run_eq_of ?run) (fun _ => by simp [go_sem, *])
  case run => intro K hK; go_simp; exact hK
  walk_nrm
  co_apply OF.nil
  simp only [thenF]
  co_apply WF.seq
  co_apply WF.seq
  co_apply WF.region
  try simp only [List.size_toArray, List.length_cons, List.length_nil, Nat.reduceAdd, Nat.zero_add, List.range, List.range.loop]
  co_applyP OF.pu rfl (by rfl) (fun _ => run_eq_of ?run) (fun _ => by simp [go_sem, *])
  case run => intro K hK; go_simp; exact hK
  walk_nrm
  co_applyP OF.ld1 0 1 rfl (by rfl) rfl H hq rfl rfl rfl Try.underlying4 rfl
  intro K w hK1 hr1 H1
  replace H := H1
  clear hr1 hK1 H1
  walk_nrm
  co_apply OF.nil
  simp only [thenF]
  co_apply WF.cond (t := false) rfl
  simp only [Bool.false_eq_true, ↓reduceIte]
  co_apply WF.skip
  simp only [thenF]
  co_apply WF.seq
  co_apply WF.region
  try simp only [List.size_toArray, List.length_cons, List.length_nil, Nat.reduceAdd, Nat.zero_add, List.range, List.range.loop]
  co_applyP OF.pu rfl (by rfl) (fun _ => run_eq_of ?run) (fun _ => by simp [go_sem, *])
  case run => intro K hK; go_simp; exact hK
  walk_nrm
  co_applyP OF.pu rfl (by rfl) (fun _ => run_eq_of ?run) (fun _ => by simp [go_sem, *])
  case run => intro K hK; go_simp; exact hK
  walk_nrm
  co_apply OF.nil
  simp only [thenF]
  co_apply WF.ret
  exact retG_of rfl (resultsC_tmp (by rfl) _) (fun K₁ hK w₁ r => ⟨rfl, hg, (H.rely r).tail⟩)

set_option maxRecDepth 100000 in
theorem get_t : ∃ nf, ∀ {N : Nat} {F : Nat → World → Prop} {m : Bool} {y : Gh Role} {K : Nat} {w : World} {l : List Row} (d n u s k : Int) (_ : (⟨u, true, s, k⟩ : VW).ok) (_ : u < 65535) (_ : Ctx N F y K w l) (_ : y.role.quiet = false),
    CJ (S N) m 79 #[.int .i64 d, .int .i64 n, .agg #[.int .i64 u, .bool true, .int .i64 s, .int .i64 k]] nf (fun r K' y' w' => r = .tuple #[.agg #[.int .i64 (u + 1), .bool true, .int .i64 0, .int .i64 k], .int .i64 0] ∧ Gr y y' ∧ Ctx N F y' K' w' l) K y w := by
  co_apply Exists.intro
  intro N F m y K w l d n u s k hv h H hq
  have hg := Gr.refl y
  obtain ⟨u0, u1, s0, s1, k0, k1⟩ := hv
  simp only at u0 u1 s0 s1 k0 k1
  have hb : (u == 65535) = false := by simp; omega
  have hm := and_i64 (a := k + 1) (by omega) (by omega)
  have wu : IntKind.i64.wrap (u + 1) = u + 1 := by rw [IntKind.wrap_i64]; omega
  have wk : IntKind.i64.wrap (k + 1) = k + 1 := by rw [IntKind.wrap_i64]; omega
  co_apply CJ.of_WF Try.func79 (by kernel_rfl) (by rfl)
  simp only [show Try.f79.ntmps = 27 from rfl]
  walk_nrm
  co_apply WF.seq
  co_apply WF.region
  try simp only [List.size_toArray, List.length_cons, List.length_nil, Nat.reduceAdd, Nat.zero_add, List.range, List.range.loop]
  co_applyP OF.al rfl (by rfl) H hq (fun _ => run_eq_of ?run) (fun _ => by simp [go_sem, *])
  case run => intro K hK; go_simp; exact hK
  intro K w₁ y' w b5 hK1 hr1 hg' hq' hb1 hw1 H1
  replace hg := hg.trans hg'
  replace hq := hq'
  replace H := H1
  clear hb1 hw1 hr1 hK1 hg' hq' H1
  walk_nrm
  co_applyP OF.al rfl (by rfl) H hq (fun _ => run_eq_of ?run) (fun _ => by simp [go_sem, *])
  case run => intro K hK; go_simp; exact hK
  intro K w₁ y' w b6 hK1 hr1 hg' hq' hb1 hw1 H1
  replace hg := hg.trans hg'
  replace hq := hq'
  replace H := H1
  clear hb1 hw1 hr1 hK1 hg' hq' H1
  walk_nrm
  co_applyP OF.pu rfl (by rfl) (fun _ => run_eq_of ?run) (fun _ => by simp [go_sem, *])
  case run => intro K hK; go_simp; exact hK
  walk_nrm
  co_apply OF.nil
  simp only [thenF]
  co_apply WF.seq
  co_apply WF.seq
  co_apply WF.region
  try simp only [List.size_toArray, List.length_cons, List.length_nil, Nat.reduceAdd, Nat.zero_add, List.range, List.range.loop]
  co_applyP OF.pu rfl (by rfl) (fun _ => run_eq_of ?run) (fun _ => by simp [go_sem, *])
  case run => intro K hK; go_simp; exact hK
  walk_nrm
  co_applyP OF.ld1 1 0 rfl (by rfl) rfl H hq rfl rfl rfl Try.underlying3 rfl
  intro K w hK1 hr1 H1
  replace H := H1
  clear hr1 hK1 H1
  walk_nrm
  co_applyP OF.pu rfl (by rfl) (fun _ => run_eq_of ?run) (fun _ => by simp [go_sem, *])
  case run => intro K hK; go_simp; exact hK
  walk_nrm
  co_apply OF.nil
  simp only [thenF]
  co_apply WF.cond (t := false) rfl
  simp only [Bool.false_eq_true, ↓reduceIte]
  co_apply WF.skip
  simp only [thenF]
  co_apply WF.seq
  co_apply WF.seq
  co_apply WF.region
  try simp only [List.size_toArray, List.length_cons, List.length_nil, Nat.reduceAdd, Nat.zero_add, List.range, List.range.loop]
  co_applyP OF.pu rfl (by rfl) (fun _ => run_eq_of ?run) (fun _ => by simp [go_sem, *])
  case run => intro K hK; go_simp; exact hK
  walk_nrm
  co_applyP OF.ld1 1 1 rfl (by rfl) rfl H hq rfl rfl rfl Try.underlying4 rfl
  intro K w hK1 hr1 H1
  replace H := H1
  clear hr1 hK1 H1
  walk_nrm
  co_applyP OF.pu rfl (by rfl) (fun _ => run_eq_of ?run) (fun _ => by simp [go_sem, *])
  case run => intro K hK; go_simp; exact hK
  walk_nrm
  co_apply OF.nil
  simp only [thenF]
  co_apply WF.cond (t := false) rfl
  simp only [Bool.false_eq_true, ↓reduceIte]
  co_apply WF.skip
  simp only [thenF]
  co_apply WF.seq
  co_apply WF.region
  try simp only [List.size_toArray, List.length_cons, List.length_nil, Nat.reduceAdd, Nat.zero_add, List.range, List.range.loop]
  co_applyP OF.pu rfl (by rfl) (fun _ => run_eq_of ?run) (fun _ => by simp [go_sem, *])
  case run => intro K hK; go_simp; exact hK
  walk_nrm
  co_applyP OF.ld1 1 0 rfl (by rfl) rfl H hq rfl rfl rfl Try.underlying3 rfl
  intro K w hK1 hr1 H1
  replace H := H1
  clear hr1 hK1 H1
  walk_nrm
  co_applyP OF.pu rfl (by rfl) (fun _ => run_eq_of ?run) (fun _ => by simp [go_sem, *])
  case run => intro K hK; go_simp; exact hK
  walk_nrm
  co_applyP OF.pu rfl (by rfl) (fun _ => run_eq_of ?run) (fun _ => by simp [go_sem, *])
  case run => intro K hK; go_simp; exact hK
  walk_nrm
  co_applyP OF.st1 1 0 rfl (by rfl) rfl H hq rfl rfl rfl rfl rfl (by kernel_rfl)
  intro K w₁ w hK1 hr1 hu1 H1
  replace H := H1
  clear hr1 hK1 hu1 H1
  simp only [List.set_cons_zero, List.set_cons_succ, List.setIfInBounds_toArray] at H
  walk_nrm
  co_apply OF.nil
  simp only [thenF]
  co_apply WF.seq
  co_apply WF.region
  try simp only [List.size_toArray, List.length_cons, List.length_nil, Nat.reduceAdd, Nat.zero_add, List.range, List.range.loop]
  co_applyP OF.pu rfl (by rfl) (fun _ => run_eq_of ?run) (fun _ => by simp [go_sem, *])
  case run => intro K hK; go_simp; exact hK
  walk_nrm
  co_applyP OF.st1 1 1 rfl (by rfl) rfl H hq rfl rfl rfl rfl rfl (by kernel_rfl)
  intro K w₁ w hK1 hr1 hu1 H1
  replace H := H1
  clear hr1 hK1 hu1 H1
  simp only [List.set_cons_zero, List.set_cons_succ, List.setIfInBounds_toArray] at H
  walk_nrm
  co_applyP OF.pu rfl (by rfl) (fun _ => run_eq_of ?run) (fun _ => by simp [go_sem, *])
  case run => intro K hK; go_simp; exact hK
  walk_nrm
  co_applyP OF.st1 1 2 rfl (by rfl) rfl H hq rfl rfl rfl rfl rfl (by kernel_rfl)
  intro K w₁ w hK1 hr1 hu1 H1
  replace H := H1
  clear hr1 hK1 hu1 H1
  simp only [List.set_cons_zero, List.set_cons_succ, List.setIfInBounds_toArray] at H
  walk_nrm
  co_apply OF.nil
  simp only [thenF]
  co_apply WF.seq
  co_apply WF.region
  try simp only [List.size_toArray, List.length_cons, List.length_nil, Nat.reduceAdd, Nat.zero_add, List.range, List.range.loop]
  co_applyP OF.ldr 1 rfl (by rfl) rfl H hq rfl rfl Try.underlying38 rfl (by kernel_rfl)
  intro K w hK1 hr1 H1
  replace H := H1
  clear hr1 hK1 H1
  walk_nrm
  co_applyP OF.str 0 rfl (by rfl) rfl H hq rfl rfl rfl (by kernel_rfl) (by rfl) (by kernel_rfl)
  intro K w₁ w hK1 hr1 hu1 H1
  replace H := H1
  clear hr1 hK1 hu1 H1
  simp only [List.set_cons_zero] at H
  walk_nrm
  co_applyP OF.pu rfl (by rfl) (fun _ => run_eq_of ?run) (fun _ => by simp [go_sem, *])
  case run => intro K hK; go_simp; exact hK
  walk_nrm
  co_apply OF.nil
  simp only [thenF]
  co_apply WF.ret
  exact retG_cell_tmp 0 rfl H hq rfl rfl rfl Try.underlying38 rfl (by kernel_rfl) fun K₁ hK w₁ r H => ⟨rfl, hg, H.tail.tail⟩

set_option maxRecDepth 100000 in
theorem get_f : ∃ nf, ∀ {N : Nat} {F : Nat → World → Prop} {m : Bool} {y : Gh Role} {K : Nat} {w : World} {l : List Row} (d n u s k : Int) (_ : (⟨u, false, s, k⟩ : VW).ok) (_ : u < 65535) (_ : Ctx N F y K w l) (_ : y.role.quiet = false),
    CJ (S N) m 79 #[.int .i64 d, .int .i64 n, .agg #[.int .i64 u, .bool false, .int .i64 s, .int .i64 k]] nf (fun r K' y' w' => r = .tuple #[.agg #[.int .i64 (u + 1), .bool true, .int .i64 0, .int .i64 ((k + 1) % 65536)], .int .i64 0] ∧ Gr y y' ∧ Ctx N F y' K' w' l) K y w := by
  co_apply Exists.intro
  intro N F m y K w l d n u s k hv h H hq
  have hg := Gr.refl y
  obtain ⟨u0, u1, s0, s1, k0, k1⟩ := hv
  simp only at u0 u1 s0 s1 k0 k1
  have hb : (u == 65535) = false := by simp; omega
  have hm := and_i64 (a := k + 1) (by omega) (by omega)
  have wu : IntKind.i64.wrap (u + 1) = u + 1 := by rw [IntKind.wrap_i64]; omega
  have wk : IntKind.i64.wrap (k + 1) = k + 1 := by rw [IntKind.wrap_i64]; omega
  co_apply CJ.of_WF Try.func79 (by kernel_rfl) (by rfl)
  simp only [show Try.f79.ntmps = 27 from rfl]
  walk_nrm
  co_apply WF.seq
  co_apply WF.region
  try simp only [List.size_toArray, List.length_cons, List.length_nil, Nat.reduceAdd, Nat.zero_add, List.range, List.range.loop]
  co_applyP OF.al rfl (by rfl) H hq (fun _ => run_eq_of ?run) (fun _ => by simp [go_sem, *])
  case run => intro K hK; go_simp; exact hK
  intro K w₁ y' w b5 hK1 hr1 hg' hq' hb1 hw1 H1
  replace hg := hg.trans hg'
  replace hq := hq'
  replace H := H1
  clear hb1 hw1 hr1 hK1 hg' hq' H1
  walk_nrm
  co_applyP OF.al rfl (by rfl) H hq (fun _ => run_eq_of ?run) (fun _ => by simp [go_sem, *])
  case run => intro K hK; go_simp; exact hK
  intro K w₁ y' w b6 hK1 hr1 hg' hq' hb1 hw1 H1
  replace hg := hg.trans hg'
  replace hq := hq'
  replace H := H1
  clear hb1 hw1 hr1 hK1 hg' hq' H1
  walk_nrm
  co_applyP OF.pu rfl (by rfl) (fun _ => run_eq_of ?run) (fun _ => by simp [go_sem, *])
  case run => intro K hK; go_simp; exact hK
  walk_nrm
  co_apply OF.nil
  simp only [thenF]
  co_apply WF.seq
  co_apply WF.seq
  co_apply WF.region
  try simp only [List.size_toArray, List.length_cons, List.length_nil, Nat.reduceAdd, Nat.zero_add, List.range, List.range.loop]
  co_applyP OF.pu rfl (by rfl) (fun _ => run_eq_of ?run) (fun _ => by simp [go_sem, *])
  case run => intro K hK; go_simp; exact hK
  walk_nrm
  co_applyP OF.ld1 1 0 rfl (by rfl) rfl H hq rfl rfl rfl Try.underlying3 rfl
  intro K w hK1 hr1 H1
  replace H := H1
  clear hr1 hK1 H1
  walk_nrm
  co_applyP OF.pu rfl (by rfl) (fun _ => run_eq_of ?run) (fun _ => by simp [go_sem, *])
  case run => intro K hK; go_simp; exact hK
  walk_nrm
  co_apply OF.nil
  simp only [thenF]
  co_apply WF.cond (t := false) rfl
  simp only [Bool.false_eq_true, ↓reduceIte]
  co_apply WF.skip
  simp only [thenF]
  co_apply WF.seq
  co_apply WF.seq
  co_apply WF.region
  try simp only [List.size_toArray, List.length_cons, List.length_nil, Nat.reduceAdd, Nat.zero_add, List.range, List.range.loop]
  co_applyP OF.pu rfl (by rfl) (fun _ => run_eq_of ?run) (fun _ => by simp [go_sem, *])
  case run => intro K hK; go_simp; exact hK
  walk_nrm
  co_applyP OF.ld1 1 1 rfl (by rfl) rfl H hq rfl rfl rfl Try.underlying4 rfl
  intro K w hK1 hr1 H1
  replace H := H1
  clear hr1 hK1 H1
  walk_nrm
  co_applyP OF.pu rfl (by rfl) (fun _ => run_eq_of ?run) (fun _ => by simp [go_sem, *])
  case run => intro K hK; go_simp; exact hK
  walk_nrm
  co_apply OF.nil
  simp only [thenF]
  co_apply WF.cond (t := true) rfl
  simp only [↓reduceIte]
  co_apply WF.region
  try simp only [List.size_toArray, List.length_cons, List.length_nil, Nat.reduceAdd, Nat.zero_add, List.range, List.range.loop]
  co_applyP OF.pu rfl (by rfl) (fun _ => run_eq_of ?run) (fun _ => by simp [go_sem, *])
  case run => intro K hK; go_simp; exact hK
  walk_nrm
  co_applyP OF.ld1 1 3 rfl (by rfl) rfl H hq rfl rfl rfl Try.underlying3 rfl
  intro K w hK1 hr1 H1
  replace H := H1
  clear hr1 hK1 H1
  walk_nrm
  co_applyP OF.pu rfl (by rfl) (fun _ => run_eq_of ?run) (fun _ => by simp [go_sem, *])
  case run => intro K hK; go_simp; exact hK
  walk_nrm
  co_applyP OF.pu rfl (by rfl) (fun _ => run_eq_of ?run) (fun _ => by simp [go_sem, *])
  case run => intro K hK; go_simp; exact hK
  walk_nrm
  co_applyP OF.pu rfl (by rfl) (fun _ => run_eq_of ?run) (fun _ => by simp [go_sem, *])
  case run => intro K hK; go_simp; exact hK
  walk_nrm
  co_applyP OF.st1 1 3 rfl (by rfl) rfl H hq rfl rfl rfl rfl rfl (by kernel_rfl)
  intro K w₁ w hK1 hr1 hu1 H1
  replace H := H1
  clear hr1 hK1 hu1 H1
  simp only [List.set_cons_zero, List.set_cons_succ, List.setIfInBounds_toArray] at H
  walk_nrm
  co_apply OF.nil
  simp only [thenF]
  co_apply WF.seq
  co_apply WF.region
  try simp only [List.size_toArray, List.length_cons, List.length_nil, Nat.reduceAdd, Nat.zero_add, List.range, List.range.loop]
  co_applyP OF.pu rfl (by rfl) (fun _ => run_eq_of ?run) (fun _ => by simp [go_sem, *])
  case run => intro K hK; go_simp; exact hK
  walk_nrm
  co_applyP OF.ld1 1 0 rfl (by rfl) rfl H hq rfl rfl rfl Try.underlying3 rfl
  intro K w hK1 hr1 H1
  replace H := H1
  clear hr1 hK1 H1
  walk_nrm
  co_applyP OF.pu rfl (by rfl) (fun _ => run_eq_of ?run) (fun _ => by simp [go_sem, *])
  case run => intro K hK; go_simp; exact hK
  walk_nrm
  co_applyP OF.pu rfl (by rfl) (fun _ => run_eq_of ?run) (fun _ => by simp [go_sem, *])
  case run => intro K hK; go_simp; exact hK
  walk_nrm
  co_applyP OF.st1 1 0 rfl (by rfl) rfl H hq rfl rfl rfl rfl rfl (by kernel_rfl)
  intro K w₁ w hK1 hr1 hu1 H1
  replace H := H1
  clear hr1 hK1 hu1 H1
  simp only [List.set_cons_zero, List.set_cons_succ, List.setIfInBounds_toArray] at H
  walk_nrm
  co_apply OF.nil
  simp only [thenF]
  co_apply WF.seq
  co_apply WF.region
  try simp only [List.size_toArray, List.length_cons, List.length_nil, Nat.reduceAdd, Nat.zero_add, List.range, List.range.loop]
  co_applyP OF.pu rfl (by rfl) (fun _ => run_eq_of ?run) (fun _ => by simp [go_sem, *])
  case run => intro K hK; go_simp; exact hK
  walk_nrm
  co_applyP OF.st1 1 1 rfl (by rfl) rfl H hq rfl rfl rfl rfl rfl (by kernel_rfl)
  intro K w₁ w hK1 hr1 hu1 H1
  replace H := H1
  clear hr1 hK1 hu1 H1
  simp only [List.set_cons_zero, List.set_cons_succ, List.setIfInBounds_toArray] at H
  walk_nrm
  co_applyP OF.pu rfl (by rfl) (fun _ => run_eq_of ?run) (fun _ => by simp [go_sem, *])
  case run => intro K hK; go_simp; exact hK
  walk_nrm
  co_applyP OF.st1 1 2 rfl (by rfl) rfl H hq rfl rfl rfl rfl rfl (by kernel_rfl)
  intro K w₁ w hK1 hr1 hu1 H1
  replace H := H1
  clear hr1 hK1 hu1 H1
  simp only [List.set_cons_zero, List.set_cons_succ, List.setIfInBounds_toArray] at H
  walk_nrm
  co_apply OF.nil
  simp only [thenF]
  co_apply WF.seq
  co_apply WF.region
  try simp only [List.size_toArray, List.length_cons, List.length_nil, Nat.reduceAdd, Nat.zero_add, List.range, List.range.loop]
  co_applyP OF.ldr 1 rfl (by rfl) rfl H hq rfl rfl Try.underlying38 rfl (by kernel_rfl)
  intro K w hK1 hr1 H1
  replace H := H1
  clear hr1 hK1 H1
  walk_nrm
  co_applyP OF.str 0 rfl (by rfl) rfl H hq rfl rfl rfl (by kernel_rfl) (by rfl) (by kernel_rfl)
  intro K w₁ w hK1 hr1 hu1 H1
  replace H := H1
  clear hr1 hK1 hu1 H1
  simp only [List.set_cons_zero] at H
  walk_nrm
  co_applyP OF.pu rfl (by rfl) (fun _ => run_eq_of ?run) (fun _ => by simp [go_sem, *])
  case run => intro K hK; go_simp; exact hK
  walk_nrm
  co_apply OF.nil
  simp only [thenF]
  co_apply WF.ret
  exact retG_cell_tmp 0 rfl H hq rfl rfl rfl Try.underlying38 rfl (by kernel_rfl) fun K₁ hK w₁ r H => ⟨rfl, hg, H.tail.tail⟩

set_option maxRecDepth 100000 in
theorem put_1 : ∃ nf, ∀ {N : Nat} {F : Nat → World → Prop} {m : Bool} {y : Gh Role} {K : Nat} {w : World} {l : List Row} (d n s k : Int) (e : Bool) (_ : Ctx N F y K w l) (_ : y.role.quiet = false),
    CJ (S N) m 80 #[.int .i64 d, .int .i64 n, .agg #[.int .i64 1, .bool e, .int .i64 s, .int .i64 k]] nf (fun r K' y' w' => r = .tuple #[.agg #[.int .i64 0, .bool e, .int .i64 n, .int .i64 k], .int .i64 0] ∧ Gr y y' ∧ Ctx N F y' K' w' l) K y w := by
  co_apply Exists.intro
  intro N F m y K w l d n s k e H hq
  have hg := Gr.refl y
  have wz : IntKind.i64.wrap 0 = 0 := by decide
  co_apply CJ.of_WF Try.func80 (by kernel_rfl) (by rfl)
  simp only [show Try.f80.ntmps = 22 from rfl]
  walk_nrm
  co_apply WF.seq
  co_apply WF.region
  try simp only [List.size_toArray, List.length_cons, List.length_nil, Nat.reduceAdd, Nat.zero_add, List.range, List.range.loop]
  co_applyP OF.al rfl (by rfl) H hq (fun _ => run_eq_of ?run) (fun _ => by simp [go_sem, *])
  case run => intro K hK; go_simp; exact hK
  intro K w₁ y' w b5 hK1 hr1 hg' hq' hb1 hw1 H1
  replace hg := hg.trans hg'
  replace hq := hq'
  replace H := H1
  clear hb1 hw1 hr1 hK1 hg' hq' H1
  walk_nrm
  co_applyP OF.al rfl (by rfl) H hq (fun _ => run_eq_of ?run) (fun _ => by simp [go_sem, *])
  case run => intro K hK; go_simp; exact hK
  intro K w₁ y' w b6 hK1 hr1 hg' hq' hb1 hw1 H1
  replace hg := hg.trans hg'
  replace hq := hq'
  replace H := H1
  clear hb1 hw1 hr1 hK1 hg' hq' H1
  walk_nrm
  co_applyP OF.pu rfl (by rfl) (fun _ => run_eq_of ?run) (fun _ => by simp [go_sem, *])
  case run => intro K hK; go_simp; exact hK
  walk_nrm
  co_apply OF.nil
  simp only [thenF]
  co_apply WF.seq
  co_apply WF.seq
  co_apply WF.region
  try simp only [List.size_toArray, List.length_cons, List.length_nil, Nat.reduceAdd, Nat.zero_add, List.range, List.range.loop]
  co_applyP OF.pu rfl (by rfl) (fun _ => run_eq_of ?run) (fun _ => by simp [go_sem, *])
  case run => intro K hK; go_simp; exact hK
  walk_nrm
  co_applyP OF.ld1 1 0 rfl (by rfl) rfl H hq rfl rfl rfl Try.underlying3 rfl
  intro K w hK1 hr1 H1
  replace H := H1
  clear hr1 hK1 H1
  walk_nrm
  co_applyP OF.pu rfl (by rfl) (fun _ => run_eq_of ?run) (fun _ => by simp [go_sem, *])
  case run => intro K hK; go_simp; exact hK
  walk_nrm
  co_apply OF.nil
  simp only [thenF]
  co_apply WF.cond (t := false) rfl
  simp only [Bool.false_eq_true, ↓reduceIte]
  co_apply WF.skip
  simp only [thenF]
  co_apply WF.seq
  co_apply WF.seq
  co_apply WF.region
  try simp only [List.size_toArray, List.length_cons, List.length_nil, Nat.reduceAdd, Nat.zero_add, List.range, List.range.loop]
  co_applyP OF.pu rfl (by rfl) (fun _ => run_eq_of ?run) (fun _ => by simp [go_sem, *])
  case run => intro K hK; go_simp; exact hK
  walk_nrm
  co_applyP OF.ld1 1 0 rfl (by rfl) rfl H hq rfl rfl rfl Try.underlying3 rfl
  intro K w hK1 hr1 H1
  replace H := H1
  clear hr1 hK1 H1
  walk_nrm
  co_applyP OF.pu rfl (by rfl) (fun _ => run_eq_of ?run) (fun _ => by simp [go_sem, *])
  case run => intro K hK; go_simp; exact hK
  walk_nrm
  co_applyP OF.pu rfl (by rfl) (fun _ => run_eq_of ?run) (fun _ => by simp [go_sem, *])
  case run => intro K hK; go_simp; exact hK
  walk_nrm
  co_applyP OF.st1 1 0 rfl (by rfl) rfl H hq rfl rfl rfl rfl rfl (by kernel_rfl)
  intro K w₁ w hK1 hr1 hu1 H1
  replace H := H1
  clear hr1 hK1 hu1 H1
  simp only [List.set_cons_zero, List.set_cons_succ, List.setIfInBounds_toArray] at H
  walk_nrm
  co_apply OF.nil
  simp only [thenF]
  co_apply WF.seq
  co_apply WF.region
  try simp only [List.size_toArray, List.length_cons, List.length_nil, Nat.reduceAdd, Nat.zero_add, List.range, List.range.loop]
  co_applyP OF.pu rfl (by rfl) (fun _ => run_eq_of ?run) (fun _ => by simp [go_sem, *])
  case run => intro K hK; go_simp; exact hK
  walk_nrm
  co_applyP OF.ld1 1 0 rfl (by rfl) rfl H hq rfl rfl rfl Try.underlying3 rfl
  intro K w hK1 hr1 H1
  replace H := H1
  clear hr1 hK1 H1
  walk_nrm
  co_applyP OF.pu rfl (by rfl) (fun _ => run_eq_of ?run) (fun _ => by simp [go_sem, *])
  case run => intro K hK; go_simp; exact hK
  walk_nrm
  co_apply OF.nil
  simp only [thenF]
  co_apply WF.cond (t := true) rfl
  simp only [↓reduceIte]
  co_apply WF.region
  try simp only [List.size_toArray, List.length_cons, List.length_nil, Nat.reduceAdd, Nat.zero_add, List.range, List.range.loop]
  co_applyP OF.pu rfl (by rfl) (fun _ => run_eq_of ?run) (fun _ => by simp [go_sem, *])
  case run => intro K hK; go_simp; exact hK
  walk_nrm
  co_applyP OF.pu rfl (by rfl) (fun _ => run_eq_of ?run) (fun _ => by simp [go_sem, *])
  case run => intro K hK; go_simp; exact hK
  walk_nrm
  co_applyP OF.st1 1 2 rfl (by rfl) rfl H hq rfl rfl rfl rfl rfl (by kernel_rfl)
  intro K w₁ w hK1 hr1 hu1 H1
  replace H := H1
  clear hr1 hK1 hu1 H1
  simp only [List.set_cons_zero, List.set_cons_succ, List.setIfInBounds_toArray] at H
  walk_nrm
  co_apply OF.nil
  simp only [thenF]
  co_apply WF.seq
  co_apply WF.region
  try simp only [List.size_toArray, List.length_cons, List.length_nil, Nat.reduceAdd, Nat.zero_add, List.range, List.range.loop]
  co_applyP OF.ldr 1 rfl (by rfl) rfl H hq rfl rfl Try.underlying38 rfl (by kernel_rfl)
  intro K w hK1 hr1 H1
  replace H := H1
  clear hr1 hK1 H1
  walk_nrm
  co_applyP OF.str 0 rfl (by rfl) rfl H hq rfl rfl rfl (by kernel_rfl) (by rfl) (by kernel_rfl)
  intro K w₁ w hK1 hr1 hu1 H1
  replace H := H1
  clear hr1 hK1 hu1 H1
  simp only [List.set_cons_zero] at H
  walk_nrm
  co_applyP OF.pu rfl (by rfl) (fun _ => run_eq_of ?run) (fun _ => by simp [go_sem, *])
  case run => intro K hK; go_simp; exact hK
  walk_nrm
  co_apply OF.nil
  simp only [thenF]
  co_apply WF.ret
  exact retG_cell_tmp 0 rfl H hq rfl rfl rfl Try.underlying38 rfl (by kernel_rfl) fun K₁ hK w₁ r H => ⟨rfl, hg, H.tail.tail⟩

set_option maxRecDepth 100000 in
theorem put_m : ∃ nf, ∀ {N : Nat} {F : Nat → World → Prop} {m : Bool} {y : Gh Role} {K : Nat} {w : World} {l : List Row} (d n u s k : Int) (e : Bool) (_ : (⟨u, e, s, k⟩ : VW).ok) (_ : 1 < u) (_ : Ctx N F y K w l) (_ : y.role.quiet = false),
    CJ (S N) m 80 #[.int .i64 d, .int .i64 n, .agg #[.int .i64 u, .bool e, .int .i64 s, .int .i64 k]] nf (fun r K' y' w' => r = .tuple #[.agg #[.int .i64 (u - 1), .bool e, .int .i64 s, .int .i64 k], .int .i64 0] ∧ Gr y y' ∧ Ctx N F y' K' w' l) K y w := by
  co_apply Exists.intro
  intro N F m y K w l d n u s k e hv h H hq
  have hg := Gr.refl y
  obtain ⟨u0, u1, s0, s1, k0, k1⟩ := hv
  simp only at u0 u1 s0 s1 k0 k1
  have hb : (u == 0) = false := by simp; omega
  have hb1 : (u - 1 == 0) = false := by simp; omega
  have wu : IntKind.i64.wrap (u - 1) = u - 1 := by rw [IntKind.wrap_i64]; omega
  co_apply CJ.of_WF Try.func80 (by kernel_rfl) (by rfl)
  simp only [show Try.f80.ntmps = 22 from rfl]
  walk_nrm
  co_apply WF.seq
  co_apply WF.region
  try simp only [List.size_toArray, List.length_cons, List.length_nil, Nat.reduceAdd, Nat.zero_add, List.range, List.range.loop]
  co_applyP OF.al rfl (by rfl) H hq (fun _ => run_eq_of ?run) (fun _ => by simp [go_sem, *])
  case run => intro K hK; go_simp; exact hK
  intro K w₁ y' w b5 hK1 hr1 hg' hq' hb1 hw1 H1
  replace hg := hg.trans hg'
  replace hq := hq'
  replace H := H1
  clear hb1 hw1 hr1 hK1 hg' hq' H1
  walk_nrm
  co_applyP OF.al rfl (by rfl) H hq (fun _ => run_eq_of ?run) (fun _ => by simp [go_sem, *])
  case run => intro K hK; go_simp; exact hK
  intro K w₁ y' w b6 hK1 hr1 hg' hq' hb1 hw1 H1
  replace hg := hg.trans hg'
  replace hq := hq'
  replace H := H1
  clear hb1 hw1 hr1 hK1 hg' hq' H1
  walk_nrm
  co_applyP OF.pu rfl (by rfl) (fun _ => run_eq_of ?run) (fun _ => by simp [go_sem, *])
  case run => intro K hK; go_simp; exact hK
  walk_nrm
  co_apply OF.nil
  simp only [thenF]
  co_apply WF.seq
  co_apply WF.seq
  co_apply WF.region
  try simp only [List.size_toArray, List.length_cons, List.length_nil, Nat.reduceAdd, Nat.zero_add, List.range, List.range.loop]
  co_applyP OF.pu rfl (by rfl) (fun _ => run_eq_of ?run) (fun _ => by simp [go_sem, *])
  case run => intro K hK; go_simp; exact hK
  walk_nrm
  co_applyP OF.ld1 1 0 rfl (by rfl) rfl H hq rfl rfl rfl Try.underlying3 rfl
  intro K w hK1 hr1 H1
  replace H := H1
  clear hr1 hK1 H1
  walk_nrm
  co_applyP OF.pu rfl (by rfl) (fun _ => run_eq_of ?run) (fun _ => by simp [go_sem, *])
  case run => intro K hK; go_simp; exact hK
  walk_nrm
  co_apply OF.nil
  simp only [thenF]
  co_apply WF.cond (t := false) rfl
  simp only [Bool.false_eq_true, ↓reduceIte]
  co_apply WF.skip
  simp only [thenF]
  co_apply WF.seq
  co_apply WF.seq
  co_apply WF.region
  try simp only [List.size_toArray, List.length_cons, List.length_nil, Nat.reduceAdd, Nat.zero_add, List.range, List.range.loop]
  co_applyP OF.pu rfl (by rfl) (fun _ => run_eq_of ?run) (fun _ => by simp [go_sem, *])
  case run => intro K hK; go_simp; exact hK
  walk_nrm
  co_applyP OF.ld1 1 0 rfl (by rfl) rfl H hq rfl rfl rfl Try.underlying3 rfl
  intro K w hK1 hr1 H1
  replace H := H1
  clear hr1 hK1 H1
  walk_nrm
  co_applyP OF.pu rfl (by rfl) (fun _ => run_eq_of ?run) (fun _ => by simp [go_sem, *])
  case run => intro K hK; go_simp; exact hK
  walk_nrm
  co_applyP OF.pu rfl (by rfl) (fun _ => run_eq_of ?run) (fun _ => by simp [go_sem, *])
  case run => intro K hK; go_simp; exact hK
  walk_nrm
  co_applyP OF.st1 1 0 rfl (by rfl) rfl H hq rfl rfl rfl rfl rfl (by kernel_rfl)
  intro K w₁ w hK1 hr1 hu1 H1
  replace H := H1
  clear hr1 hK1 hu1 H1
  simp only [List.set_cons_zero, List.set_cons_succ, List.setIfInBounds_toArray] at H
  walk_nrm
  co_apply OF.nil
  simp only [thenF]
  co_apply WF.seq
  co_apply WF.region
  try simp only [List.size_toArray, List.length_cons, List.length_nil, Nat.reduceAdd, Nat.zero_add, List.range, List.range.loop]
  co_applyP OF.pu rfl (by rfl) (fun _ => run_eq_of ?run) (fun _ => by simp [go_sem, *])
  case run => intro K hK; go_simp; exact hK
  walk_nrm
  co_applyP OF.ld1 1 0 rfl (by rfl) rfl H hq rfl rfl rfl Try.underlying3 rfl
  intro K w hK1 hr1 H1
  replace H := H1
  clear hr1 hK1 H1
  walk_nrm
  co_applyP OF.pu rfl (by rfl) (fun _ => run_eq_of ?run) (fun _ => by simp [go_sem, *])
  case run => intro K hK; go_simp; exact hK
  walk_nrm
  co_apply OF.nil
  simp only [thenF]
  co_apply WF.cond (t := false) rfl
  simp only [Bool.false_eq_true, ↓reduceIte]
  co_apply WF.skip
  simp only [thenF]
  co_apply WF.seq
  co_apply WF.region
  try simp only [List.size_toArray, List.length_cons, List.length_nil, Nat.reduceAdd, Nat.zero_add, List.range, List.range.loop]
  co_applyP OF.ldr 1 rfl (by rfl) rfl H hq rfl rfl Try.underlying38 rfl (by kernel_rfl)
  intro K w hK1 hr1 H1
  replace H := H1
  clear hr1 hK1 H1
  walk_nrm
  co_applyP OF.str 0 rfl (by rfl) rfl H hq rfl rfl rfl (by kernel_rfl) (by rfl) (by kernel_rfl)
  intro K w₁ w hK1 hr1 hu1 H1
  replace H := H1
  clear hr1 hK1 hu1 H1
  simp only [List.set_cons_zero] at H
  walk_nrm
  co_applyP OF.pu rfl (by rfl) (fun _ => run_eq_of ?run) (fun _ => by simp [go_sem, *])
  case run => intro K hK; go_simp; exact hK
  walk_nrm
  co_apply OF.nil
  simp only [thenF]
  co_apply WF.ret
  exact retG_cell_tmp 0 rfl H hq rfl rfl rfl Try.underlying38 rfl (by kernel_rfl) fun K₁ hK w₁ r H => ⟨rfl, hg, H.tail.tail⟩

set_option maxRecDepth 100000 in
theorem sweep_f : ∃ nf, ∀ {N : Nat} {F : Nat → World → Prop} {m : Bool} {y : Gh Role} {K : Nat} {w : World} {l : List Row} (d u s k : Int)  (_ : Ctx N F y K w l) (_ : y.role.quiet = false),
    CJ (S N) m 81 #[.int .i64 d, .int .i64 2147483647, .agg #[.int .i64 u, .bool false, .int .i64 s, .int .i64 k]] nf (fun r K' y' w' => r = .tuple #[.agg #[.int .i64 u, .bool false, .int .i64 s, .int .i64 k], .int .i64 0] ∧ Gr y y' ∧ Ctx N F y' K' w' l) K y w := by
  co_apply Exists.intro
  intro N F m y K w l d u s k H hq
  have hg := Gr.refl y
  co_apply CJ.of_WF Try.func81 (by kernel_rfl) (by rfl)
  simp only [show Try.f81.ntmps = 25 from rfl]
  walk_nrm
  co_apply WF.seq
  co_apply WF.region
  try simp only [List.size_toArray, List.length_cons, List.length_nil, Nat.reduceAdd, Nat.zero_add, List.range, List.range.loop]
  co_applyP OF.al rfl (by rfl) H hq (fun _ => run_eq_of ?run) (fun _ => by simp [go_sem, *])
  case run => intro K hK; go_simp; exact hK
  intro K w₁ y' w b5 hK1 hr1 hg' hq' hb1 hw1 H1
  replace hg := hg.trans hg'
  replace hq := hq'
  replace H := H1
  clear hb1 hw1 hr1 hK1 hg' hq' H1
  walk_nrm
  co_applyP OF.al rfl (by rfl) H hq (fun _ => run_eq_of ?run) (fun _ => by simp [go_sem, *])
  case run => intro K hK; go_simp; exact hK
  intro K w₁ y' w b6 hK1 hr1 hg' hq' hb1 hw1 H1
  replace hg := hg.trans hg'
  replace hq := hq'
  replace H := H1
  clear hb1 hw1 hr1 hK1 hg' hq' H1
  walk_nrm
  co_applyP OF.pu rfl (by rfl) (fun _ => run_eq_of ?run) (fun _ => by simp [go_sem, *])
  case run => intro K hK; go_simp; exact hK
  walk_nrm
  co_apply OF.nil
  simp only [thenF]
  co_apply WF.seq
  co_apply WF.seq
  co_apply WF.region
  try simp only [List.size_toArray, List.length_cons, List.length_nil, Nat.reduceAdd, Nat.zero_add, List.range, List.range.loop]
  co_applyP OF.pu rfl (by rfl) (fun _ => run_eq_of ?run) (fun _ => by simp [go_sem, *])
  case run => intro K hK; go_simp; exact hK
  walk_nrm
  co_applyP OF.ld1 1 1 rfl (by rfl) rfl H hq rfl rfl rfl Try.underlying4 rfl
  intro K w hK1 hr1 H1
  replace H := H1
  clear hr1 hK1 H1
  walk_nrm
  co_applyP OF.pu rfl (by rfl) (fun _ => run_eq_of ?run) (fun _ => by simp [go_sem, *])
  case run => intro K hK; go_simp; exact hK
  walk_nrm
  first
  | (co_applyP OF.pu rfl (by rfl) (fun _ => run_eq_of ?run) (fun _ => by simp [go_sem, *]); case run => intro K hK; go_simp; exact hK)
  | co_apply OF.unwanted rfl (by rfl)
  walk_nrm
  first
  | (co_applyP OF.ld1 1 0 rfl (by rfl) rfl H hq rfl rfl rfl Try.underlying3 rfl; intro K w hK1 hr1 H1; replace H := H1; clear hr1 hK1 H1)
  | co_apply OF.unwanted rfl (by rfl)
  walk_nrm
  first
  | (co_applyP OF.pu rfl (by rfl) (fun _ => run_eq_of ?run) (fun _ => by simp [go_sem, *]); case run => intro K hK; go_simp; exact hK)
  | co_apply OF.unwanted rfl (by rfl)
  walk_nrm
  co_applyP OF.pu rfl (by rfl) (fun _ => run_eq_of ?run) (fun _ => by simp [go_sem, *])
  case run => intro K hK; go_simp; exact hK
  walk_nrm
  co_applyP OF.pu rfl (by rfl) (fun _ => run_eq_of ?run) (fun _ => by simp [go_sem, *])
  case run => intro K hK; go_simp; exact hK
  walk_nrm
  first
  | (co_applyP OF.pu rfl (by rfl) (fun _ => run_eq_of ?run) (fun _ => by simp [go_sem, *]); case run => intro K hK; go_simp; exact hK)
  | co_apply OF.unwanted rfl (by rfl)
  walk_nrm
  first
  | (co_applyP OF.pu rfl (by rfl) (fun _ => run_eq_of ?run) (fun _ => by simp [go_sem, *]); case run => intro K hK; go_simp; exact hK)
  | co_apply OF.unwanted rfl (by rfl)
  walk_nrm
  first
  | (co_applyP OF.ld1 1 2 rfl (by rfl) rfl H hq rfl rfl rfl Try.underlying3 rfl; intro K w hK1 hr1 H1; replace H := H1; clear hr1 hK1 H1)
  | co_apply OF.unwanted rfl (by rfl)
  walk_nrm
  first
  | (co_applyP OF.pu rfl (by rfl) (fun _ => run_eq_of ?run) (fun _ => by simp [go_sem, *]); case run => intro K hK; go_simp; exact hK)
  | co_apply OF.unwanted rfl (by rfl)
  walk_nrm
  first
  | (co_applyP OF.pu rfl (by rfl) (fun _ => run_eq_of ?run) (fun _ => by simp [go_sem, *]); case run => intro K hK; go_simp; exact hK)
  | co_apply OF.unwanted rfl (by rfl)
  walk_nrm
  first
  | (co_applyP OF.pu rfl (by rfl) (fun _ => run_eq_of ?run) (fun _ => by simp [go_sem, *]); case run => intro K hK; go_simp; exact hK)
  | co_apply OF.unwanted rfl (by rfl)
  walk_nrm
  co_applyP OF.pu rfl (by rfl) (fun _ => run_eq_of ?run) (fun _ => by simp [go_sem, *])
  case run => intro K hK; go_simp; exact hK
  walk_nrm
  co_apply OF.nil
  simp only [thenF]
  co_apply WF.cond (t := false) rfl
  simp only [Bool.false_eq_true, ↓reduceIte]
  co_apply WF.skip
  simp only [thenF]
  co_apply WF.seq
  co_apply WF.region
  try simp only [List.size_toArray, List.length_cons, List.length_nil, Nat.reduceAdd, Nat.zero_add, List.range, List.range.loop]
  co_applyP OF.ldr 1 rfl (by rfl) rfl H hq rfl rfl Try.underlying38 rfl (by kernel_rfl)
  intro K w hK1 hr1 H1
  replace H := H1
  clear hr1 hK1 H1
  walk_nrm
  co_applyP OF.str 0 rfl (by rfl) rfl H hq rfl rfl rfl (by kernel_rfl) (by rfl) (by kernel_rfl)
  intro K w₁ w hK1 hr1 hu1 H1
  replace H := H1
  clear hr1 hK1 hu1 H1
  simp only [List.set_cons_zero] at H
  walk_nrm
  co_applyP OF.pu rfl (by rfl) (fun _ => run_eq_of ?run) (fun _ => by simp [go_sem, *])
  case run => intro K hK; go_simp; exact hK
  walk_nrm
  co_apply OF.nil
  simp only [thenF]
  co_apply WF.ret
  exact retG_cell_tmp 0 rfl H hq rfl rfl rfl Try.underlying38 rfl (by kernel_rfl) fun K₁ hK w₁ r H => ⟨rfl, hg, H.tail.tail⟩

set_option maxRecDepth 100000 in
theorem sweep_u : ∃ nf, ∀ {N : Nat} {F : Nat → World → Prop} {m : Bool} {y : Gh Role} {K : Nat} {w : World} {l : List Row} (d u s k : Int) (_ : 0 < u) (_ : Ctx N F y K w l) (_ : y.role.quiet = false),
    CJ (S N) m 81 #[.int .i64 d, .int .i64 2147483647, .agg #[.int .i64 u, .bool true, .int .i64 s, .int .i64 k]] nf (fun r K' y' w' => r = .tuple #[.agg #[.int .i64 u, .bool true, .int .i64 s, .int .i64 k], .int .i64 0] ∧ Gr y y' ∧ Ctx N F y' K' w' l) K y w := by
  co_apply Exists.intro
  intro N F m y K w l d u s k h H hq
  have hg := Gr.refl y
  have hb : (u == 0) = false := by simp; omega
  co_apply CJ.of_WF Try.func81 (by kernel_rfl) (by rfl)
  simp only [show Try.f81.ntmps = 25 from rfl]
  walk_nrm
  co_apply WF.seq
  co_apply WF.region
  try simp only [List.size_toArray, List.length_cons, List.length_nil, Nat.reduceAdd, Nat.zero_add, List.range, List.range.loop]
  co_applyP OF.al rfl (by rfl) H hq (fun _ => run_eq_of ?run) (fun _ => by simp [go_sem, *])
  case run => intro K hK; go_simp; exact hK
  intro K w₁ y' w b5 hK1 hr1 hg' hq' hb1 hw1 H1
  replace hg := hg.trans hg'
  replace hq := hq'
  replace H := H1
  clear hb1 hw1 hr1 hK1 hg' hq' H1
  walk_nrm
  co_applyP OF.al rfl (by rfl) H hq (fun _ => run_eq_of ?run) (fun _ => by simp [go_sem, *])
  case run => intro K hK; go_simp; exact hK
  intro K w₁ y' w b6 hK1 hr1 hg' hq' hb1 hw1 H1
  replace hg := hg.trans hg'
  replace hq := hq'
  replace H := H1
  clear hb1 hw1 hr1 hK1 hg' hq' H1
  walk_nrm
  co_applyP OF.pu rfl (by rfl) (fun _ => run_eq_of ?run) (fun _ => by simp [go_sem, *])
  case run => intro K hK; go_simp; exact hK
  walk_nrm
  co_apply OF.nil
  simp only [thenF]
  co_apply WF.seq
  co_apply WF.seq
  co_apply WF.region
  try simp only [List.size_toArray, List.length_cons, List.length_nil, Nat.reduceAdd, Nat.zero_add, List.range, List.range.loop]
  co_applyP OF.pu rfl (by rfl) (fun _ => run_eq_of ?run) (fun _ => by simp [go_sem, *])
  case run => intro K hK; go_simp; exact hK
  walk_nrm
  co_applyP OF.ld1 1 1 rfl (by rfl) rfl H hq rfl rfl rfl Try.underlying4 rfl
  intro K w hK1 hr1 H1
  replace H := H1
  clear hr1 hK1 H1
  walk_nrm
  co_applyP OF.pu rfl (by rfl) (fun _ => run_eq_of ?run) (fun _ => by simp [go_sem, *])
  case run => intro K hK; go_simp; exact hK
  walk_nrm
  first
  | (co_applyP OF.pu rfl (by rfl) (fun _ => run_eq_of ?run) (fun _ => by simp [go_sem, *]); case run => intro K hK; go_simp; exact hK)
  | co_apply OF.unwanted rfl (by rfl)
  walk_nrm
  first
  | (co_applyP OF.ld1 1 0 rfl (by rfl) rfl H hq rfl rfl rfl Try.underlying3 rfl; intro K w hK1 hr1 H1; replace H := H1; clear hr1 hK1 H1)
  | co_apply OF.unwanted rfl (by rfl)
  walk_nrm
  first
  | (co_applyP OF.pu rfl (by rfl) (fun _ => run_eq_of ?run) (fun _ => by simp [go_sem, *]); case run => intro K hK; go_simp; exact hK)
  | co_apply OF.unwanted rfl (by rfl)
  walk_nrm
  co_applyP OF.pu rfl (by rfl) (fun _ => run_eq_of ?run) (fun _ => by simp [go_sem, *])
  case run => intro K hK; go_simp; exact hK
  walk_nrm
  co_applyP OF.pu rfl (by rfl) (fun _ => run_eq_of ?run) (fun _ => by simp [go_sem, *])
  case run => intro K hK; go_simp; exact hK
  walk_nrm
  first
  | (co_applyP OF.pu rfl (by rfl) (fun _ => run_eq_of ?run) (fun _ => by simp [go_sem, *]); case run => intro K hK; go_simp; exact hK)
  | co_apply OF.unwanted rfl (by rfl)
  walk_nrm
  first
  | (co_applyP OF.pu rfl (by rfl) (fun _ => run_eq_of ?run) (fun _ => by simp [go_sem, *]); case run => intro K hK; go_simp; exact hK)
  | co_apply OF.unwanted rfl (by rfl)
  walk_nrm
  first
  | (co_applyP OF.ld1 1 2 rfl (by rfl) rfl H hq rfl rfl rfl Try.underlying3 rfl; intro K w hK1 hr1 H1; replace H := H1; clear hr1 hK1 H1)
  | co_apply OF.unwanted rfl (by rfl)
  walk_nrm
  first
  | (co_applyP OF.pu rfl (by rfl) (fun _ => run_eq_of ?run) (fun _ => by simp [go_sem, *]); case run => intro K hK; go_simp; exact hK)
  | co_apply OF.unwanted rfl (by rfl)
  walk_nrm
  first
  | (co_applyP OF.pu rfl (by rfl) (fun _ => run_eq_of ?run) (fun _ => by simp [go_sem, *]); case run => intro K hK; go_simp; exact hK)
  | co_apply OF.unwanted rfl (by rfl)
  walk_nrm
  first
  | (co_applyP OF.pu rfl (by rfl) (fun _ => run_eq_of ?run) (fun _ => by simp [go_sem, *]); case run => intro K hK; go_simp; exact hK)
  | co_apply OF.unwanted rfl (by rfl)
  walk_nrm
  co_applyP OF.pu rfl (by rfl) (fun _ => run_eq_of ?run) (fun _ => by simp [go_sem, *])
  case run => intro K hK; go_simp; exact hK
  walk_nrm
  co_apply OF.nil
  simp only [thenF]
  co_apply WF.cond (t := false) rfl
  simp only [Bool.false_eq_true, ↓reduceIte]
  co_apply WF.skip
  simp only [thenF]
  co_apply WF.seq
  co_apply WF.region
  try simp only [List.size_toArray, List.length_cons, List.length_nil, Nat.reduceAdd, Nat.zero_add, List.range, List.range.loop]
  co_applyP OF.ldr 1 rfl (by rfl) rfl H hq rfl rfl Try.underlying38 rfl (by kernel_rfl)
  intro K w hK1 hr1 H1
  replace H := H1
  clear hr1 hK1 H1
  walk_nrm
  co_applyP OF.str 0 rfl (by rfl) rfl H hq rfl rfl rfl (by kernel_rfl) (by rfl) (by kernel_rfl)
  intro K w₁ w hK1 hr1 hu1 H1
  replace H := H1
  clear hr1 hK1 hu1 H1
  simp only [List.set_cons_zero] at H
  walk_nrm
  co_applyP OF.pu rfl (by rfl) (fun _ => run_eq_of ?run) (fun _ => by simp [go_sem, *])
  case run => intro K hK; go_simp; exact hK
  walk_nrm
  co_apply OF.nil
  simp only [thenF]
  co_apply WF.ret
  exact retG_cell_tmp 0 rfl H hq rfl rfl rfl Try.underlying38 rfl (by kernel_rfl) fun K₁ hK w₁ r H => ⟨rfl, hg, H.tail.tail⟩

set_option maxRecDepth 100000 in
theorem sweep_0 : ∃ nf, ∀ {N : Nat} {F : Nat → World → Prop} {m : Bool} {y : Gh Role} {K : Nat} {w : World} {l : List Row} (d k : Int) (_ : 0 ≤ d ∧ d ≤ 2147483647) (_ : Ctx N F y K w l) (_ : y.role.quiet = false),
    CJ (S N) m 81 #[.int .i64 d, .int .i64 2147483647, .agg #[.int .i64 0, .bool true, .int .i64 0, .int .i64 k]] nf (fun r K' y' w' => r = .tuple #[.agg #[.int .i64 0, .bool false, .int .i64 0, .int .i64 k], .int .i64 0] ∧ Gr y y' ∧ Ctx N F y' K' w' l) K y w := by
  co_apply Exists.intro
  intro N F m y K w l d k hd H hq
  have hg := Gr.refl y
  have wd : IntKind.i64.wrap d = d := by rw [IntKind.wrap_i64]; omega
  have hb : decide (2147483647 ≥ d) = true := by simp; omega
  have hb2 : decide (d ≤ 2147483647) = true := by simp; omega
  co_apply CJ.of_WF Try.func81 (by kernel_rfl) (by rfl)
  simp only [show Try.f81.ntmps = 25 from rfl]
  walk_nrm
  co_apply WF.seq
  co_apply WF.region
  try simp only [List.size_toArray, List.length_cons, List.length_nil, Nat.reduceAdd, Nat.zero_add, List.range, List.range.loop]
  co_applyP OF.al rfl (by rfl) H hq (fun _ => run_eq_of ?run) (fun _ => by simp [go_sem, *])
  case run => intro K hK; go_simp; exact hK
  intro K w₁ y' w b5 hK1 hr1 hg' hq' hb1 hw1 H1
  replace hg := hg.trans hg'
  replace hq := hq'
  replace H := H1
  clear hb1 hw1 hr1 hK1 hg' hq' H1
  walk_nrm
  co_applyP OF.al rfl (by rfl) H hq (fun _ => run_eq_of ?run) (fun _ => by simp [go_sem, *])
  case run => intro K hK; go_simp; exact hK
  intro K w₁ y' w b6 hK1 hr1 hg' hq' hb1 hw1 H1
  replace hg := hg.trans hg'
  replace hq := hq'
  replace H := H1
  clear hb1 hw1 hr1 hK1 hg' hq' H1
  walk_nrm
  co_applyP OF.pu rfl (by rfl) (fun _ => run_eq_of ?run) (fun _ => by simp [go_sem, *])
  case run => intro K hK; go_simp; exact hK
  walk_nrm
  co_apply OF.nil
  simp only [thenF]
  co_apply WF.seq
  co_apply WF.seq
  co_apply WF.region
  try simp only [List.size_toArray, List.length_cons, List.length_nil, Nat.reduceAdd, Nat.zero_add, List.range, List.range.loop]
  co_applyP OF.pu rfl (by rfl) (fun _ => run_eq_of ?run) (fun _ => by simp [go_sem, *])
  case run => intro K hK; go_simp; exact hK
  walk_nrm
  co_applyP OF.ld1 1 1 rfl (by rfl) rfl H hq rfl rfl rfl Try.underlying4 rfl
  intro K w hK1 hr1 H1
  replace H := H1
  clear hr1 hK1 H1
  walk_nrm
  co_applyP OF.pu rfl (by rfl) (fun _ => run_eq_of ?run) (fun _ => by simp [go_sem, *])
  case run => intro K hK; go_simp; exact hK
  walk_nrm
  first
  | (co_applyP OF.pu rfl (by rfl) (fun _ => run_eq_of ?run) (fun _ => by simp [go_sem, *]); case run => intro K hK; go_simp; exact hK)
  | co_apply OF.unwanted rfl (by rfl)
  walk_nrm
  first
  | (co_applyP OF.ld1 1 0 rfl (by rfl) rfl H hq rfl rfl rfl Try.underlying3 rfl; intro K w hK1 hr1 H1; replace H := H1; clear hr1 hK1 H1)
  | co_apply OF.unwanted rfl (by rfl)
  walk_nrm
  first
  | (co_applyP OF.pu rfl (by rfl) (fun _ => run_eq_of ?run) (fun _ => by simp [go_sem, *]); case run => intro K hK; go_simp; exact hK)
  | co_apply OF.unwanted rfl (by rfl)
  walk_nrm
  co_applyP OF.pu rfl (by rfl) (fun _ => run_eq_of ?run) (fun _ => by simp [go_sem, *])
  case run => intro K hK; go_simp; exact hK
  walk_nrm
  co_applyP OF.pu rfl (by rfl) (fun _ => run_eq_of ?run) (fun _ => by simp [go_sem, *])
  case run => intro K hK; go_simp; exact hK
  walk_nrm
  first
  | (co_applyP OF.pu rfl (by rfl) (fun _ => run_eq_of ?run) (fun _ => by simp [go_sem, *]); case run => intro K hK; go_simp; exact hK)
  | co_apply OF.unwanted rfl (by rfl)
  walk_nrm
  first
  | (co_applyP OF.pu rfl (by rfl) (fun _ => run_eq_of ?run) (fun _ => by simp [go_sem, *]); case run => intro K hK; go_simp; exact hK)
  | co_apply OF.unwanted rfl (by rfl)
  walk_nrm
  first
  | (co_applyP OF.ld1 1 2 rfl (by rfl) rfl H hq rfl rfl rfl Try.underlying3 rfl; intro K w hK1 hr1 H1; replace H := H1; clear hr1 hK1 H1)
  | co_apply OF.unwanted rfl (by rfl)
  walk_nrm
  first
  | (co_applyP OF.pu rfl (by rfl) (fun _ => run_eq_of ?run) (fun _ => by simp [go_sem, *]); case run => intro K hK; go_simp; exact hK)
  | co_apply OF.unwanted rfl (by rfl)
  walk_nrm
  first
  | (co_applyP OF.pu rfl (by rfl) (fun _ => run_eq_of ?run) (fun _ => by simp [go_sem, *]); case run => intro K hK; go_simp; exact hK)
  | co_apply OF.unwanted rfl (by rfl)
  walk_nrm
  first
  | (co_applyP OF.pu rfl (by rfl) (fun _ => run_eq_of ?run) (fun _ => by simp [go_sem, *]); case run => intro K hK; go_simp; exact hK)
  | co_apply OF.unwanted rfl (by rfl)
  walk_nrm
  co_applyP OF.pu rfl (by rfl) (fun _ => run_eq_of ?run) (fun _ => by simp [go_sem, *])
  case run => intro K hK; go_simp; exact hK
  walk_nrm
  co_apply OF.nil
  simp only [thenF]
  co_apply WF.cond (t := true) rfl
  simp only [↓reduceIte]
  co_apply WF.region
  try simp only [List.size_toArray, List.length_cons, List.length_nil, Nat.reduceAdd, Nat.zero_add, List.range, List.range.loop]
  co_applyP OF.pu rfl (by rfl) (fun _ => run_eq_of ?run) (fun _ => by simp [go_sem, *])
  case run => intro K hK; go_simp; exact hK
  walk_nrm
  co_applyP OF.st1 1 1 rfl (by rfl) rfl H hq rfl rfl rfl rfl rfl (by kernel_rfl)
  intro K w₁ w hK1 hr1 hu1 H1
  replace H := H1
  clear hr1 hK1 hu1 H1
  simp only [List.set_cons_zero, List.set_cons_succ, List.setIfInBounds_toArray] at H
  walk_nrm
  co_apply OF.nil
  simp only [thenF]
  co_apply WF.seq
  co_apply WF.region
  try simp only [List.size_toArray, List.length_cons, List.length_nil, Nat.reduceAdd, Nat.zero_add, List.range, List.range.loop]
  co_applyP OF.ldr 1 rfl (by rfl) rfl H hq rfl rfl Try.underlying38 rfl (by kernel_rfl)
  intro K w hK1 hr1 H1
  replace H := H1
  clear hr1 hK1 H1
  walk_nrm
  co_applyP OF.str 0 rfl (by rfl) rfl H hq rfl rfl rfl (by kernel_rfl) (by rfl) (by kernel_rfl)
  intro K w₁ w hK1 hr1 hu1 H1
  replace H := H1
  clear hr1 hK1 hu1 H1
  simp only [List.set_cons_zero] at H
  walk_nrm
  co_applyP OF.pu rfl (by rfl) (fun _ => run_eq_of ?run) (fun _ => by simp [go_sem, *])
  case run => intro K hK; go_simp; exact hK
  walk_nrm
  co_apply OF.nil
  simp only [thenF]
  co_apply WF.ret
  exact retG_cell_tmp 0 rfl H hq rfl rfl rfl Try.underlying38 rfl (by kernel_rfl) fun K₁ hK w₁ r H => ⟨rfl, hg, H.tail.tail⟩

set_option maxRecDepth 100000 in
theorem deeds_c : ∃ nf, ∀ {N : Nat} {F : Nat → World → Prop} {m : Bool} {y : Gh Role} {K : Nat} {w : World} {l : List Row}  (_ : Ctx N F y K w l) (_ : y.role.quiet = false),
    CJ (S N) m 60 #[] nf (fun r K' y' w' => r = .agg #[.nilFunc, .func (.func 79) #[] #[], .func (.func 80) #[] #[], .func (.func 81) #[] #[]] ∧ Gr y y' ∧ Ctx N F y' K' w' l) K y w := by
  co_apply Exists.intro
  intro N F m y K w l  H hq
  have hg := Gr.refl y
  co_apply CJ.of_WF Try.func60 (by kernel_rfl) (by rfl)
  simp only [show Try.f60.ntmps = 5 from rfl]
  walk_nrm
  co_apply WF.seq
  co_apply WF.region
  try simp only [List.size_toArray, List.length_cons, List.length_nil, Nat.zero_add, List.range, List.range.loop]
  co_applyP OF.al rfl (by rfl) H hq (fun _ => run_eq_of ?run) (fun _ => by simp [go_sem, *])
  case run => intro K hK; go_simp; exact hK
  intro K w₁ y' w b0 hK1 hr1 hg' hq' hb1 hw1 H1
  replace hg := hg.trans hg'
  replace hq := hq'
  replace H := H1
  clear hb1 hw1 hr1 hK1 hg' hq' H1
  walk_nrm
  co_apply OF.nil
  simp only [thenF]
  co_apply WF.seq
  co_apply WF.region
  try simp only [List.size_toArray, List.length_cons, List.length_nil, Nat.reduceAdd, Nat.zero_add, List.range, List.range.loop]
  co_applyP OF.pu rfl (by rfl) (fun _ => run_eq_of ?run) (fun _ => by simp [go_sem, *])
  case run => intro K hK; go_simp; exact hK
  walk_nrm
  co_applyP OF.pu rfl (by rfl) (fun _ => run_eq_of ?run) (fun _ => by simp [go_sem, *])
  case run => intro K hK; go_simp; exact hK
  walk_nrm
  co_applyP OF.pu rfl (by rfl) (fun _ => run_eq_of ?run) (fun _ => by simp [go_sem, *])
  case run => intro K hK; go_simp; exact hK
  walk_nrm
  co_applyP OF.pu rfl (by rfl) (fun _ => run_eq_of ?run) (fun _ => by simp [go_sem, *])
  case run => intro K hK; go_simp; exact hK
  walk_nrm
  co_applyP OF.str 0 rfl (by rfl) rfl H hq rfl rfl rfl (by kernel_rfl) (by rfl) (by kernel_rfl)
  intro K w₁ w hK1 hr1 hu1 H1
  replace H := H1
  clear hr1 hK1 hu1 H1
  simp only [List.set_cons_zero] at H
  walk_nrm
  co_apply OF.nil
  simp only [thenF]
  co_apply WF.ret
  exact retG_cell 0 rfl H hq rfl rfl rfl Try.underlying134 rfl (by kernel_rfl) fun K₁ hK w₁ r H => ⟨rfl, hg, H.tail⟩

end Go.Proofs.Ytgnhddnhcfmipaa.Ids
