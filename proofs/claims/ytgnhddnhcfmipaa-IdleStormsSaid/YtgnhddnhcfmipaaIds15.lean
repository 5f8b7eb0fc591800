/- IdleStorms: a worker's attempt to put what it has reckoned. Printed by wip/tools/gen_ids15.py. -/
import Derived.Test.YtgnhddnhcfmipaaIds13
namespace Go.Proofs.Ytgnhddnhcfmipaa.Ids
open Go Go.Conc Go.RowKit Go.Proofs.Ytgnhddnhcfmipaa.Eg Go.Proofs.Ytgnhddnhcfmipaa

set_option maxHeartbeats 8000000 in
set_option maxRecDepth 100000 in
theorem put_get : ∃ nf, ∀ {N : Nat} {m : Bool} {y : Gh Role} {K : Nat} {w : World} {l : List Row} (c : Cfg) (d : Bool) (K₀ u : Nat) (e : Bool) (ba : Nat) (code tries : Int) (_ : 0 < c.T) (_ : u < 16) (_ : y.role = .work c (.busy false d)) (_ : 0 < y.rem) (_ : Ctx N (Seen c K₀ u e) y K w ((ba, #[.pointer (some ⟨c.wd, 0, none⟩), .int .u8 1, .int .i64 0, .int .u64 (wdv ((u : Nat) : Int) e).num, .int .u64 (wdv (((u + 1) : Nat) : Int) true).num, .bool true, .bool false, .int .i64 code, .int .i64 tries], 106) :: l)),
    CJ (S N) m 45 #[.pointer (some ⟨ba, 0, none⟩)] nf (fun r K' y' w' => r = .tuple #[] ∧ ∃ tries' : Int, (K' < K ∧ Gr ⟨y.own, y.rem - 1, y.deaf, .work c (.busy true true)⟩ y' ∧ Ctx N T0 y' K' w' ((ba, #[.pointer (some ⟨c.wd, 0, none⟩), .int .u8 1, .int .i64 0, .int .u64 (wdv ((u : Nat) : Int) e).num, .int .u64 (wdv (((u + 1) : Nat) : Int) true).num, .bool false, .bool true, .int .i64 code, .int .i64 tries'], 106) :: l)) ∨
      (K' < K₀ ∧ Gr y y' ∧ Ctx N T0 y' K' w' ((ba, #[.pointer (some ⟨c.wd, 0, none⟩), .int .u8 1, .int .i64 0, .int .u64 (wdv ((u : Nat) : Int) e).num, .int .u64 (wdv (((u + 1) : Nat) : Int) true).num, .bool false, .bool false, .int .i64 code, .int .i64 tries'], 106) :: l))) K y w := by
  obtain ⟨nc, hcas⟩ := cas_get
  obtain ⟨B, hB⟩ : ∃ B, 40 * (nc + 1) + 2 ≤ B := ⟨_, Nat.le_refl _⟩
  co_apply Exists.intro
  intro N m y K w l c d K₀ u e ba code tries hT hu hr hrem H
  obtain ⟨ys, hys⟩ : ∃ ys, ys = y := ⟨y, rfl⟩
  have hg : Gr ys y := by rw [hys]; exact Gr.refl y
  have hq : y.role.quiet = false := by rw [hr]; rfl
  obtain ⟨KS, hKS⟩ : ∃ KS, KS = K := ⟨K, rfl⟩
  have hKs : K ≤ KS := Nat.le_of_eq hKS.symm
  co_apply CJ.of_WF Try.func45 (by kernel_rfl) (by rfl)
  simp only [show Try.f45.ntmps = 102 from rfl]
  try walk_nrm
  co_apply WF.seqP (n₂ := 0)
  co_apply WF.seqP
  co_apply WF.region
  try simp only [List.size_toArray, List.length_cons, List.length_nil, Nat.reduceAdd, Nat.zero_add, List.range, List.range.loop]
  co_applyP OF.pu rfl (by rfl) (fun _ => run_eq_of ?run) (fun _ => by simp [go_sem, *])
  case run => intro K hK; go_simp; exact hK
  try walk_nrm
  co_applyP OF.pu rfl (by rfl) (fun _ => run_eq_of ?run) (fun _ => by simp [go_sem, *])
  case run => intro K hK; go_simp; exact hK
  try walk_nrm
  co_applyP OF.pu rfl (by rfl) (fun _ => run_eq_of ?run) (fun _ => by simp [go_sem, *])
  case run => intro K hK; go_simp; exact hK
  try walk_nrm
  co_applyP OF.ld1 0 5 rfl (by rfl) rfl H hq rfl rfl rfl Try.underlying4 rfl
  intro K w hK1 hr1 H1
  replace H := H1
  replace hKs := Nat.le_trans hK1 hKs
  clear hr1 hK1 H1
  try walk_nrm
  co_apply OF.nil
  simp only [thenF]
  co_apply WF.cond (t := true) rfl
  simp only [↓reduceIte]
  co_apply WF.seqP
  co_apply WF.region
  try simp only [List.size_toArray, List.length_cons, List.length_nil, Nat.reduceAdd, Nat.zero_add, List.range, List.range.loop]
  co_applyP OF.pu rfl (by rfl) (fun _ => run_eq_of ?run) (fun _ => by simp [go_sem, *])
  case run => intro K hK; go_simp; exact hK
  try walk_nrm
  co_applyP OF.pu rfl (by rfl) (fun _ => run_eq_of ?run) (fun _ => by simp [go_sem, *])
  case run => intro K hK; go_simp; exact hK
  try walk_nrm
  co_applyP OF.pu rfl (by rfl) (fun _ => run_eq_of ?run) (fun _ => by simp [go_sem, *])
  case run => intro K hK; go_simp; exact hK
  try walk_nrm
  co_applyP OF.pu rfl (by rfl) (fun _ => run_eq_of ?run) (fun _ => by simp [go_sem, *])
  case run => intro K hK; go_simp; exact hK
  try walk_nrm
  co_applyP OF.ld1 0 8 rfl (by rfl) rfl H hq rfl rfl rfl Try.underlying3 rfl
  intro K w hK1 hr1 H1
  replace H := H1
  replace hKs := Nat.le_trans hK1 hKs
  clear hr1 hK1 H1
  try walk_nrm
  co_applyP OF.pu rfl (by rfl) (fun _ => run_eq_of ?run) (fun _ => by simp [go_sem, *])
  case run => intro K hK; go_simp; exact hK
  try walk_nrm
  co_applyP OF.pu rfl (by rfl) (fun _ => run_eq_of ?run) (fun _ => by simp [go_sem, *])
  case run => intro K hK; go_simp; exact hK
  try walk_nrm
  co_applyP OF.pu rfl (by rfl) (fun _ => run_eq_of ?run) (fun _ => by simp [go_sem, *])
  case run => intro K hK; go_simp; exact hK
  try walk_nrm
  co_applyP OF.pu rfl (by rfl) (fun _ => run_eq_of ?run) (fun _ => by simp [go_sem, *])
  case run => intro K hK; go_simp; exact hK
  try walk_nrm
  co_applyP OF.st1 0 8 rfl (by rfl) rfl H hq rfl rfl rfl rfl rfl (by kernel_rfl)
  intro K w₁ w hK1 hr1 hu1 H1
  replace H := H1
  replace hKs := Nat.le_trans hK1 hKs
  clear hr1 hK1 hu1 H1
  simp only [List.set_cons_zero, List.set_cons_succ, List.setIfInBounds_toArray] at H
  try walk_nrm
  co_apply OF.nil
  simp only [thenF]
  co_apply WF.seqP
  co_apply WF.drawnB B (nc) (Sr N ba 106 [(0, .pointer (some ⟨c.wd, 0, none⟩)), (3, .int .u64 (wdv ((u : Nat) : Int) e).num), (4, .int .u64 (wdv (((u + 1) : Nat) : Int) true).num)]) (by simp only [List.size_toArray, List.length_cons, List.length_nil, Nat.reduceAdd, Nat.zero_add]; omega) (by kernel_rfl)
  intro K hK1 w₀ hr1
  replace H := (H.rely hr1).drew
  replace hKs := Nat.le_trans hK1 hKs
  clear hr1 hK1
  generalize ({ w₀ with drawn := w₀.drawn + 1 } : World) = w at H ⊢
  try simp only [List.size_toArray, List.length_cons, List.length_nil, Nat.reduceAdd, Nat.zero_add]
  co_applyP AnyF.take Sr.rely (i := 0) rfl (by kernel_rfl) (by kernel_rfl) (by kernel_rfl) (YR.pu (by rfl) (fun _ => run_eq_of ?run) (fun _ => by simp [go_sem, *])) ⟨⟨_, _, 0, _, H, rfl, by simp⟩, hq⟩
  case run => intro K hK; go_simp; exact hK
  try walk_nrm
  co_applyP AnyF.take Sr.rely (i := 1) rfl (by kernel_rfl) (by kernel_rfl) (by kernel_rfl) (YR.pu (by rfl) (fun _ => run_eq_of ?run) (fun _ => by simp [go_sem, *])) ⟨⟨_, _, 0, _, H, rfl, by simp⟩, hq⟩
  case run => intro K hK; go_simp; exact hK
  try walk_nrm
  co_applyP AnyF.take Sr.rely (i := 2) rfl (by kernel_rfl) (by kernel_rfl) (by kernel_rfl) (YR.pu (by rfl) (fun _ => run_eq_of ?run) (fun _ => by simp [go_sem, *])) ⟨⟨_, _, 0, _, H, rfl, by simp⟩, hq⟩
  case run => intro K hK; go_simp; exact hK
  try walk_nrm
  co_applyP AnyF.take Sr.rely (i := 3) rfl (by kernel_rfl) (by kernel_rfl) (by kernel_rfl) (YR.pu (by rfl) (fun _ => run_eq_of ?run) (fun _ => by simp [go_sem, *])) ⟨⟨_, _, 0, _, H, rfl, by simp⟩, hq⟩
  case run => intro K hK; go_simp; exact hK
  try walk_nrm
  co_applyP AnyF.take Sr.rely (i := 4) rfl (by kernel_rfl) (by kernel_rfl) (by kernel_rfl) (YR.ld1 0 0 (by rfl) rfl rfl rfl Try.underlying23 rfl) ⟨⟨_, _, 0, _, H, rfl, by simp⟩, hq⟩
  try walk_nrm
  co_applyP AnyF.take Sr.rely (i := 5) rfl (by kernel_rfl) (by kernel_rfl) (by kernel_rfl) (YR.pu (by rfl) (fun _ => run_eq_of ?run) (fun _ => by simp [go_sem, *])) ⟨⟨_, _, 0, _, H, rfl, by simp⟩, hq⟩
  case run => intro K hK; go_simp; exact hK
  try walk_nrm
  co_applyP AnyF.take Sr.rely (i := 6) rfl (by kernel_rfl) (by kernel_rfl) (by kernel_rfl) (YR.pu (by rfl) (fun _ => run_eq_of ?run) (fun _ => by simp [go_sem, *])) ⟨⟨_, _, 0, _, H, rfl, by simp⟩, hq⟩
  case run => intro K hK; go_simp; exact hK
  try walk_nrm
  co_applyP AnyF.take Sr.rely (i := 7) rfl (by kernel_rfl) (by kernel_rfl) (by kernel_rfl) (YR.pu (by rfl) (fun _ => run_eq_of ?run) (fun _ => by simp [go_sem, *])) ⟨⟨_, _, 0, _, H, rfl, by simp⟩, hq⟩
  case run => intro K hK; go_simp; exact hK
  try walk_nrm
  co_applyP AnyF.take Sr.rely (i := 8) rfl (by kernel_rfl) (by kernel_rfl) (by kernel_rfl) (YR.pu (by rfl) (fun _ => run_eq_of ?run) (fun _ => by simp [go_sem, *])) ⟨⟨_, _, 0, _, H, rfl, by simp⟩, hq⟩
  case run => intro K hK; go_simp; exact hK
  try walk_nrm
  co_applyP AnyF.take Sr.rely (i := 9) rfl (by kernel_rfl) (by kernel_rfl) (by kernel_rfl) (YR.pu (by rfl) (fun _ => run_eq_of ?run) (fun _ => by simp [go_sem, *])) ⟨⟨_, _, 0, _, H, rfl, by simp⟩, hq⟩
  case run => intro K hK; go_simp; exact hK
  try walk_nrm
  co_applyP AnyF.take Sr.rely (i := 10) rfl (by kernel_rfl) (by kernel_rfl) (by kernel_rfl) (YR.ld1 1 3 (by rfl) rfl rfl rfl Try.underlying102 rfl) ⟨⟨_, _, 0, _, H, rfl, by simp⟩, hq⟩
  try walk_nrm
  co_applyP AnyF.take Sr.rely (i := 11) rfl (by kernel_rfl) (by kernel_rfl) (by kernel_rfl) (YR.pu (by rfl) (fun _ => run_eq_of ?run) (fun _ => by simp [go_sem, *])) ⟨⟨_, _, 0, _, H, rfl, by simp⟩, hq⟩
  case run => intro K hK; go_simp; exact hK
  try walk_nrm
  co_applyP AnyF.take Sr.rely (i := 12) rfl (by kernel_rfl) (by kernel_rfl) (by kernel_rfl) (YR.pu (by rfl) (fun _ => run_eq_of ?run) (fun _ => by simp [go_sem, *])) ⟨⟨_, _, 0, _, H, rfl, by simp⟩, hq⟩
  case run => intro K hK; go_simp; exact hK
  try walk_nrm
  co_applyP AnyF.take Sr.rely (i := 13) rfl (by kernel_rfl) (by kernel_rfl) (by kernel_rfl) (YR.pu (by rfl) (fun _ => run_eq_of ?run) (fun _ => by simp [go_sem, *])) ⟨⟨_, _, 0, _, H, rfl, by simp⟩, hq⟩
  case run => intro K hK; go_simp; exact hK
  try walk_nrm
  co_applyP AnyF.take Sr.rely (i := 14) rfl (by kernel_rfl) (by kernel_rfl) (by kernel_rfl) (YR.ld1 2 4 (by rfl) rfl rfl rfl Try.underlying102 rfl) ⟨⟨_, _, 0, _, H, rfl, by simp⟩, hq⟩
  try walk_nrm
  refine AnyF.all (rs := [15]) (by kernel_rfl) (by simp) ?_
  intro i hi
  simp only [List.mem_cons, List.not_mem_nil, or_false] at hi
  subst hi
  co_applyP OpF.cJ rfl (by rfl) rfl Try.func59 (by kernel_rfl) (by kernel_rfl) H
  intro Kc w₁ hK0 H0
  co_apply Exists.intro
  co_apply And.intro
  · try walk_nrm
    exact (hcas c d K₀ u e hT hu hr hrem H0).more (by omega)
  rintro _ K y1 w hK2 (⟨rfl, hlt, hy1, H1⟩ | ⟨rfl, hlt, hy1, H1⟩)
  · skip
    have hlt0 : K < KS := Nat.lt_of_lt_of_le hlt (Nat.le_trans hK0 hKs)
    replace hKs := Nat.le_trans hK2 (Nat.le_trans hK0 hKs)
    have hg1 : Gr ⟨ys.own, ys.rem - 1, ys.deaf, .work c (.busy true true)⟩ y1 := by rw [hy1]; exact ⟨rfl, by simp only [hg.rem], hg.deaf, hg.own⟩
    have hr1 : y1.role = .work c (.busy true true) := by rw [hy1]
    clear hy1
    replace hr := hr1
    have hq1 : y1.role.quiet = false := by rw [hr]; rfl
    clear hg
    have hg := hg1
    replace hq := hq1
    replace H := H1
    clear hg1 hr1 hq1 H1 hK0 hK2 hlt H0
    refine ⟨⟨⟨_, _, 0, _, H, rfl, by simp⟩, hq⟩, ?_⟩
    try walk_nrm
    co_applyP AnyF.take Sr.rely (i := 16) rfl (by kernel_rfl) (by kernel_rfl) (by kernel_rfl) (YR.pu (by rfl) (fun _ => run_eq_of ?run) (fun _ => by simp [go_sem, *])) ⟨⟨_, _, 0, _, H, rfl, by simp⟩, hq⟩
    case run => intro K hK; go_simp; exact hK
    try walk_nrm
    co_applyP AnyF.take Sr.rely (i := 17) rfl (by kernel_rfl) (by kernel_rfl) (by kernel_rfl) (YR.pu (by rfl) (fun _ => run_eq_of ?run) (fun _ => by simp [go_sem, *])) ⟨⟨_, _, 0, _, H, rfl, by simp⟩, hq⟩
    case run => intro K hK; go_simp; exact hK
    try walk_nrm
    refine AnyF.all (rs := [18]) (by kernel_rfl) (by simp) ?_
    intro i hi
    simp only [List.mem_cons, List.not_mem_nil, or_false] at hi
    subst hi
    co_applyP OpF.st1 0 6 rfl (by rfl) rfl H hq rfl rfl rfl rfl rfl (by kernel_rfl)
    intro K w hK1 H1
    replace H := H1
    replace hKs := Nat.le_trans hK1 hKs
    replace hlt0 := Nat.lt_of_le_of_lt hK1 hlt0
    clear hK1 H1
    simp only [List.set_cons_zero, List.set_cons_succ, List.setIfInBounds_toArray] at H
    refine ⟨⟨⟨_, _, 0, _, H, rfl, by simp⟩, hq⟩, ?_⟩
    try walk_nrm
    co_apply AnyF.done (by kernel_rfl)
    intro K hK1 w hr1
    replace H := H.rely hr1
    replace hKs := Nat.le_trans hK1 hKs
    replace hlt0 := Nat.lt_of_le_of_lt hK1 hlt0
    clear hr1 hK1
    simp only [thenF]
    co_apply WF.seqP
    co_apply WF.region
    try simp only [List.size_toArray, List.length_cons, List.length_nil, Nat.reduceAdd, Nat.zero_add, List.range, List.range.loop]
    co_applyP OF.pu rfl (by rfl) (fun _ => run_eq_of ?run) (fun _ => by simp [go_sem, *])
    case run => intro K hK; go_simp; exact hK
    try walk_nrm
    co_applyP OF.pu rfl (by rfl) (fun _ => run_eq_of ?run) (fun _ => by simp [go_sem, *])
    case run => intro K hK; go_simp; exact hK
    try walk_nrm
    co_applyP OF.pu rfl (by rfl) (fun _ => run_eq_of ?run) (fun _ => by simp [go_sem, *])
    case run => intro K hK; go_simp; exact hK
    try walk_nrm
    co_applyP OF.st1 0 5 rfl (by rfl) rfl H hq rfl rfl rfl rfl rfl (by kernel_rfl)
    intro K w₁ w hK1 hr1 hu1 H1
    replace H := H1
    replace hKs := Nat.le_trans hK1 hKs
    replace hlt0 := Nat.lt_of_le_of_lt hK1 hlt0
    clear hr1 hK1 hu1 H1
    simp only [List.set_cons_zero, List.set_cons_succ, List.setIfInBounds_toArray] at H
    try walk_nrm
    co_apply OF.nil
    simp only [thenF]
    co_apply WF.ret
    try simp only [thenF]
    exact retG_of rfl (resultsC_none (by rfl) _) (fun K₂ hK₂ w₂ r₂ => ⟨rfl, _, .inl ⟨by omega, by subst hys; exact hg, H.rely r₂⟩⟩)
  · skip
    have hlt0 : K < K₀ := hlt
    replace hKs := Nat.le_trans hK2 (Nat.le_trans hK0 hKs)
    have hg1 : Gr ys y1 := by rw [hy1]; exact hg
    have hr1 : y1.role = .work c (.busy false d) := by rw [hy1]; exact hr
    clear hy1
    replace hr := hr1
    have hq1 : y1.role.quiet = false := by rw [hr]; rfl
    clear hg
    have hg := hg1
    replace hq := hq1
    replace H := H1
    clear hg1 hr1 hq1 H1 hK0 hK2 hlt H0
    refine ⟨⟨⟨_, _, 0, _, H, rfl, by simp⟩, hq⟩, ?_⟩
    try walk_nrm
    co_applyP AnyF.take Sr.rely (i := 16) rfl (by kernel_rfl) (by kernel_rfl) (by kernel_rfl) (YR.pu (by rfl) (fun _ => run_eq_of ?run) (fun _ => by simp [go_sem, *])) ⟨⟨_, _, 0, _, H, rfl, by simp⟩, hq⟩
    case run => intro K hK; go_simp; exact hK
    try walk_nrm
    co_applyP AnyF.take Sr.rely (i := 17) rfl (by kernel_rfl) (by kernel_rfl) (by kernel_rfl) (YR.pu (by rfl) (fun _ => run_eq_of ?run) (fun _ => by simp [go_sem, *])) ⟨⟨_, _, 0, _, H, rfl, by simp⟩, hq⟩
    case run => intro K hK; go_simp; exact hK
    try walk_nrm
    refine AnyF.all (rs := [18]) (by kernel_rfl) (by simp) ?_
    intro i hi
    simp only [List.mem_cons, List.not_mem_nil, or_false] at hi
    subst hi
    co_applyP OpF.st1 0 6 rfl (by rfl) rfl H hq rfl rfl rfl rfl rfl (by kernel_rfl)
    intro K w hK1 H1
    replace H := H1
    replace hKs := Nat.le_trans hK1 hKs
    replace hlt0 := Nat.lt_of_le_of_lt hK1 hlt0
    clear hK1 H1
    simp only [List.set_cons_zero, List.set_cons_succ, List.setIfInBounds_toArray] at H
    refine ⟨⟨⟨_, _, 0, _, H, rfl, by simp⟩, hq⟩, ?_⟩
    try walk_nrm
    co_apply AnyF.done (by kernel_rfl)
    intro K hK1 w hr1
    replace H := H.rely hr1
    replace hKs := Nat.le_trans hK1 hKs
    replace hlt0 := Nat.lt_of_le_of_lt hK1 hlt0
    clear hr1 hK1
    simp only [thenF]
    co_apply WF.seqP
    co_apply WF.region
    try simp only [List.size_toArray, List.length_cons, List.length_nil, Nat.reduceAdd, Nat.zero_add, List.range, List.range.loop]
    co_applyP OF.pu rfl (by rfl) (fun _ => run_eq_of ?run) (fun _ => by simp [go_sem, *])
    case run => intro K hK; go_simp; exact hK
    try walk_nrm
    co_applyP OF.pu rfl (by rfl) (fun _ => run_eq_of ?run) (fun _ => by simp [go_sem, *])
    case run => intro K hK; go_simp; exact hK
    try walk_nrm
    co_applyP OF.pu rfl (by rfl) (fun _ => run_eq_of ?run) (fun _ => by simp [go_sem, *])
    case run => intro K hK; go_simp; exact hK
    try walk_nrm
    co_applyP OF.st1 0 5 rfl (by rfl) rfl H hq rfl rfl rfl rfl rfl (by kernel_rfl)
    intro K w₁ w hK1 hr1 hu1 H1
    replace H := H1
    replace hKs := Nat.le_trans hK1 hKs
    replace hlt0 := Nat.lt_of_le_of_lt hK1 hlt0
    clear hr1 hK1 hu1 H1
    simp only [List.set_cons_zero, List.set_cons_succ, List.setIfInBounds_toArray] at H
    try walk_nrm
    co_apply OF.nil
    simp only [thenF]
    co_apply WF.ret
    try simp only [thenF]
    exact retG_of rfl (resultsC_none (by rfl) _) (fun K₂ hK₂ w₂ r₂ => ⟨rfl, _, .inr ⟨by omega, by subst hys; exact hg, H.rely r₂⟩⟩)

set_option maxHeartbeats 8000000 in
set_option maxRecDepth 100000 in
theorem put_put : ∃ nf, ∀ {N : Nat} {m : Bool} {y : Gh Role} {K : Nat} {w : World} {l : List Row} (c : Cfg) (d : Bool) (K₀ u : Nat) (ba : Nat) (code tries : Int) (_ : u < 16) (_ : y.role = .work c (.busy true d)) (_ : 0 < y.rem) (_ : Ctx N (Seen c K₀ (u + 1) true) y K w ((ba, #[.pointer (some ⟨c.wd, 0, none⟩), .int .u8 2, .int .i64 0, .int .u64 (wdv (((u + 1) : Nat) : Int) true).num, .int .u64 (wdv ((u : Nat) : Int) true).num, .bool true, .bool false, .int .i64 code, .int .i64 tries], 106) :: l)),
    CJ (S N) m 45 #[.pointer (some ⟨ba, 0, none⟩)] nf (fun r K' y' w' => r = .tuple #[] ∧ ∃ tries' : Int, (K' < K ∧ Gr ⟨y.own, y.rem - 1, y.deaf, .work c (.busy false d)⟩ y' ∧ Ctx N T0 y' K' w' ((ba, #[.pointer (some ⟨c.wd, 0, none⟩), .int .u8 2, .int .i64 0, .int .u64 (wdv (((u + 1) : Nat) : Int) true).num, .int .u64 (wdv ((u : Nat) : Int) true).num, .bool false, .bool true, .int .i64 code, .int .i64 tries'], 106) :: l)) ∨
      (K' < K₀ ∧ Gr y y' ∧ Ctx N T0 y' K' w' ((ba, #[.pointer (some ⟨c.wd, 0, none⟩), .int .u8 2, .int .i64 0, .int .u64 (wdv (((u + 1) : Nat) : Int) true).num, .int .u64 (wdv ((u : Nat) : Int) true).num, .bool false, .bool false, .int .i64 code, .int .i64 tries'], 106) :: l))) K y w := by
  obtain ⟨nc, hcas⟩ := cas_put
  obtain ⟨B, hB⟩ : ∃ B, 40 * (nc + 1) + 2 ≤ B := ⟨_, Nat.le_refl _⟩
  co_apply Exists.intro
  intro N m y K w l c d K₀ u ba code tries hu hr hrem H
  obtain ⟨ys, hys⟩ : ∃ ys, ys = y := ⟨y, rfl⟩
  have hg : Gr ys y := by rw [hys]; exact Gr.refl y
  have hq : y.role.quiet = false := by rw [hr]; rfl
  obtain ⟨KS, hKS⟩ : ∃ KS, KS = K := ⟨K, rfl⟩
  have hKs : K ≤ KS := Nat.le_of_eq hKS.symm
  co_apply CJ.of_WF Try.func45 (by kernel_rfl) (by rfl)
  simp only [show Try.f45.ntmps = 102 from rfl]
  try walk_nrm
  co_apply WF.seqP (n₂ := 0)
  co_apply WF.seqP
  co_apply WF.region
  try simp only [List.size_toArray, List.length_cons, List.length_nil, Nat.reduceAdd, Nat.zero_add, List.range, List.range.loop]
  co_applyP OF.pu rfl (by rfl) (fun _ => run_eq_of ?run) (fun _ => by simp [go_sem, *])
  case run => intro K hK; go_simp; exact hK
  try walk_nrm
  co_applyP OF.pu rfl (by rfl) (fun _ => run_eq_of ?run) (fun _ => by simp [go_sem, *])
  case run => intro K hK; go_simp; exact hK
  try walk_nrm
  co_applyP OF.pu rfl (by rfl) (fun _ => run_eq_of ?run) (fun _ => by simp [go_sem, *])
  case run => intro K hK; go_simp; exact hK
  try walk_nrm
  co_applyP OF.ld1 0 5 rfl (by rfl) rfl H hq rfl rfl rfl Try.underlying4 rfl
  intro K w hK1 hr1 H1
  replace H := H1
  replace hKs := Nat.le_trans hK1 hKs
  clear hr1 hK1 H1
  try walk_nrm
  co_apply OF.nil
  simp only [thenF]
  co_apply WF.cond (t := true) rfl
  simp only [↓reduceIte]
  co_apply WF.seqP
  co_apply WF.region
  try simp only [List.size_toArray, List.length_cons, List.length_nil, Nat.reduceAdd, Nat.zero_add, List.range, List.range.loop]
  co_applyP OF.pu rfl (by rfl) (fun _ => run_eq_of ?run) (fun _ => by simp [go_sem, *])
  case run => intro K hK; go_simp; exact hK
  try walk_nrm
  co_applyP OF.pu rfl (by rfl) (fun _ => run_eq_of ?run) (fun _ => by simp [go_sem, *])
  case run => intro K hK; go_simp; exact hK
  try walk_nrm
  co_applyP OF.pu rfl (by rfl) (fun _ => run_eq_of ?run) (fun _ => by simp [go_sem, *])
  case run => intro K hK; go_simp; exact hK
  try walk_nrm
  co_applyP OF.pu rfl (by rfl) (fun _ => run_eq_of ?run) (fun _ => by simp [go_sem, *])
  case run => intro K hK; go_simp; exact hK
  try walk_nrm
  co_applyP OF.ld1 0 8 rfl (by rfl) rfl H hq rfl rfl rfl Try.underlying3 rfl
  intro K w hK1 hr1 H1
  replace H := H1
  replace hKs := Nat.le_trans hK1 hKs
  clear hr1 hK1 H1
  try walk_nrm
  co_applyP OF.pu rfl (by rfl) (fun _ => run_eq_of ?run) (fun _ => by simp [go_sem, *])
  case run => intro K hK; go_simp; exact hK
  try walk_nrm
  co_applyP OF.pu rfl (by rfl) (fun _ => run_eq_of ?run) (fun _ => by simp [go_sem, *])
  case run => intro K hK; go_simp; exact hK
  try walk_nrm
  co_applyP OF.pu rfl (by rfl) (fun _ => run_eq_of ?run) (fun _ => by simp [go_sem, *])
  case run => intro K hK; go_simp; exact hK
  try walk_nrm
  co_applyP OF.pu rfl (by rfl) (fun _ => run_eq_of ?run) (fun _ => by simp [go_sem, *])
  case run => intro K hK; go_simp; exact hK
  try walk_nrm
  co_applyP OF.st1 0 8 rfl (by rfl) rfl H hq rfl rfl rfl rfl rfl (by kernel_rfl)
  intro K w₁ w hK1 hr1 hu1 H1
  replace H := H1
  replace hKs := Nat.le_trans hK1 hKs
  clear hr1 hK1 hu1 H1
  simp only [List.set_cons_zero, List.set_cons_succ, List.setIfInBounds_toArray] at H
  try walk_nrm
  co_apply OF.nil
  simp only [thenF]
  co_apply WF.seqP
  co_apply WF.drawnB B (nc) (Sr N ba 106 [(0, .pointer (some ⟨c.wd, 0, none⟩)), (3, .int .u64 (wdv (((u + 1) : Nat) : Int) true).num), (4, .int .u64 (wdv ((u : Nat) : Int) true).num)]) (by simp only [List.size_toArray, List.length_cons, List.length_nil, Nat.reduceAdd, Nat.zero_add]; omega) (by kernel_rfl)
  intro K hK1 w₀ hr1
  replace H := (H.rely hr1).drew
  replace hKs := Nat.le_trans hK1 hKs
  clear hr1 hK1
  generalize ({ w₀ with drawn := w₀.drawn + 1 } : World) = w at H ⊢
  try simp only [List.size_toArray, List.length_cons, List.length_nil, Nat.reduceAdd, Nat.zero_add]
  co_applyP AnyF.take Sr.rely (i := 0) rfl (by kernel_rfl) (by kernel_rfl) (by kernel_rfl) (YR.pu (by rfl) (fun _ => run_eq_of ?run) (fun _ => by simp [go_sem, *])) ⟨⟨_, _, 0, _, H, rfl, by simp⟩, hq⟩
  case run => intro K hK; go_simp; exact hK
  try walk_nrm
  co_applyP AnyF.take Sr.rely (i := 1) rfl (by kernel_rfl) (by kernel_rfl) (by kernel_rfl) (YR.pu (by rfl) (fun _ => run_eq_of ?run) (fun _ => by simp [go_sem, *])) ⟨⟨_, _, 0, _, H, rfl, by simp⟩, hq⟩
  case run => intro K hK; go_simp; exact hK
  try walk_nrm
  co_applyP AnyF.take Sr.rely (i := 2) rfl (by kernel_rfl) (by kernel_rfl) (by kernel_rfl) (YR.pu (by rfl) (fun _ => run_eq_of ?run) (fun _ => by simp [go_sem, *])) ⟨⟨_, _, 0, _, H, rfl, by simp⟩, hq⟩
  case run => intro K hK; go_simp; exact hK
  try walk_nrm
  co_applyP AnyF.take Sr.rely (i := 3) rfl (by kernel_rfl) (by kernel_rfl) (by kernel_rfl) (YR.pu (by rfl) (fun _ => run_eq_of ?run) (fun _ => by simp [go_sem, *])) ⟨⟨_, _, 0, _, H, rfl, by simp⟩, hq⟩
  case run => intro K hK; go_simp; exact hK
  try walk_nrm
  co_applyP AnyF.take Sr.rely (i := 4) rfl (by kernel_rfl) (by kernel_rfl) (by kernel_rfl) (YR.ld1 0 0 (by rfl) rfl rfl rfl Try.underlying23 rfl) ⟨⟨_, _, 0, _, H, rfl, by simp⟩, hq⟩
  try walk_nrm
  co_applyP AnyF.take Sr.rely (i := 5) rfl (by kernel_rfl) (by kernel_rfl) (by kernel_rfl) (YR.pu (by rfl) (fun _ => run_eq_of ?run) (fun _ => by simp [go_sem, *])) ⟨⟨_, _, 0, _, H, rfl, by simp⟩, hq⟩
  case run => intro K hK; go_simp; exact hK
  try walk_nrm
  co_applyP AnyF.take Sr.rely (i := 6) rfl (by kernel_rfl) (by kernel_rfl) (by kernel_rfl) (YR.pu (by rfl) (fun _ => run_eq_of ?run) (fun _ => by simp [go_sem, *])) ⟨⟨_, _, 0, _, H, rfl, by simp⟩, hq⟩
  case run => intro K hK; go_simp; exact hK
  try walk_nrm
  co_applyP AnyF.take Sr.rely (i := 7) rfl (by kernel_rfl) (by kernel_rfl) (by kernel_rfl) (YR.pu (by rfl) (fun _ => run_eq_of ?run) (fun _ => by simp [go_sem, *])) ⟨⟨_, _, 0, _, H, rfl, by simp⟩, hq⟩
  case run => intro K hK; go_simp; exact hK
  try walk_nrm
  co_applyP AnyF.take Sr.rely (i := 8) rfl (by kernel_rfl) (by kernel_rfl) (by kernel_rfl) (YR.pu (by rfl) (fun _ => run_eq_of ?run) (fun _ => by simp [go_sem, *])) ⟨⟨_, _, 0, _, H, rfl, by simp⟩, hq⟩
  case run => intro K hK; go_simp; exact hK
  try walk_nrm
  co_applyP AnyF.take Sr.rely (i := 9) rfl (by kernel_rfl) (by kernel_rfl) (by kernel_rfl) (YR.pu (by rfl) (fun _ => run_eq_of ?run) (fun _ => by simp [go_sem, *])) ⟨⟨_, _, 0, _, H, rfl, by simp⟩, hq⟩
  case run => intro K hK; go_simp; exact hK
  try walk_nrm
  co_applyP AnyF.take Sr.rely (i := 10) rfl (by kernel_rfl) (by kernel_rfl) (by kernel_rfl) (YR.ld1 1 3 (by rfl) rfl rfl rfl Try.underlying102 rfl) ⟨⟨_, _, 0, _, H, rfl, by simp⟩, hq⟩
  try walk_nrm
  co_applyP AnyF.take Sr.rely (i := 11) rfl (by kernel_rfl) (by kernel_rfl) (by kernel_rfl) (YR.pu (by rfl) (fun _ => run_eq_of ?run) (fun _ => by simp [go_sem, *])) ⟨⟨_, _, 0, _, H, rfl, by simp⟩, hq⟩
  case run => intro K hK; go_simp; exact hK
  try walk_nrm
  co_applyP AnyF.take Sr.rely (i := 12) rfl (by kernel_rfl) (by kernel_rfl) (by kernel_rfl) (YR.pu (by rfl) (fun _ => run_eq_of ?run) (fun _ => by simp [go_sem, *])) ⟨⟨_, _, 0, _, H, rfl, by simp⟩, hq⟩
  case run => intro K hK; go_simp; exact hK
  try walk_nrm
  co_applyP AnyF.take Sr.rely (i := 13) rfl (by kernel_rfl) (by kernel_rfl) (by kernel_rfl) (YR.pu (by rfl) (fun _ => run_eq_of ?run) (fun _ => by simp [go_sem, *])) ⟨⟨_, _, 0, _, H, rfl, by simp⟩, hq⟩
  case run => intro K hK; go_simp; exact hK
  try walk_nrm
  co_applyP AnyF.take Sr.rely (i := 14) rfl (by kernel_rfl) (by kernel_rfl) (by kernel_rfl) (YR.ld1 2 4 (by rfl) rfl rfl rfl Try.underlying102 rfl) ⟨⟨_, _, 0, _, H, rfl, by simp⟩, hq⟩
  try walk_nrm
  refine AnyF.all (rs := [15]) (by kernel_rfl) (by simp) ?_
  intro i hi
  simp only [List.mem_cons, List.not_mem_nil, or_false] at hi
  subst hi
  co_applyP OpF.cJ rfl (by rfl) rfl Try.func59 (by kernel_rfl) (by kernel_rfl) H
  intro Kc w₁ hK0 H0
  co_apply Exists.intro
  co_apply And.intro
  · try walk_nrm
    exact (hcas c d K₀ u hu hr hrem H0).more (by omega)
  rintro _ K y1 w hK2 (⟨rfl, hlt, hy1, H1⟩ | ⟨rfl, hlt, hy1, H1⟩)
  · skip
    have hlt0 : K < KS := Nat.lt_of_lt_of_le hlt (Nat.le_trans hK0 hKs)
    replace hKs := Nat.le_trans hK2 (Nat.le_trans hK0 hKs)
    have hg1 : Gr ⟨ys.own, ys.rem - 1, ys.deaf, .work c (.busy false d)⟩ y1 := by rw [hy1]; exact ⟨rfl, by simp only [hg.rem], hg.deaf, hg.own⟩
    have hr1 : y1.role = .work c (.busy false d) := by rw [hy1]
    clear hy1
    replace hr := hr1
    have hq1 : y1.role.quiet = false := by rw [hr]; rfl
    clear hg
    have hg := hg1
    replace hq := hq1
    replace H := H1
    clear hg1 hr1 hq1 H1 hK0 hK2 hlt H0
    refine ⟨⟨⟨_, _, 0, _, H, rfl, by simp⟩, hq⟩, ?_⟩
    try walk_nrm
    co_applyP AnyF.take Sr.rely (i := 16) rfl (by kernel_rfl) (by kernel_rfl) (by kernel_rfl) (YR.pu (by rfl) (fun _ => run_eq_of ?run) (fun _ => by simp [go_sem, *])) ⟨⟨_, _, 0, _, H, rfl, by simp⟩, hq⟩
    case run => intro K hK; go_simp; exact hK
    try walk_nrm
    co_applyP AnyF.take Sr.rely (i := 17) rfl (by kernel_rfl) (by kernel_rfl) (by kernel_rfl) (YR.pu (by rfl) (fun _ => run_eq_of ?run) (fun _ => by simp [go_sem, *])) ⟨⟨_, _, 0, _, H, rfl, by simp⟩, hq⟩
    case run => intro K hK; go_simp; exact hK
    try walk_nrm
    refine AnyF.all (rs := [18]) (by kernel_rfl) (by simp) ?_
    intro i hi
    simp only [List.mem_cons, List.not_mem_nil, or_false] at hi
    subst hi
    co_applyP OpF.st1 0 6 rfl (by rfl) rfl H hq rfl rfl rfl rfl rfl (by kernel_rfl)
    intro K w hK1 H1
    replace H := H1
    replace hKs := Nat.le_trans hK1 hKs
    replace hlt0 := Nat.lt_of_le_of_lt hK1 hlt0
    clear hK1 H1
    simp only [List.set_cons_zero, List.set_cons_succ, List.setIfInBounds_toArray] at H
    refine ⟨⟨⟨_, _, 0, _, H, rfl, by simp⟩, hq⟩, ?_⟩
    try walk_nrm
    co_apply AnyF.done (by kernel_rfl)
    intro K hK1 w hr1
    replace H := H.rely hr1
    replace hKs := Nat.le_trans hK1 hKs
    replace hlt0 := Nat.lt_of_le_of_lt hK1 hlt0
    clear hr1 hK1
    simp only [thenF]
    co_apply WF.seqP
    co_apply WF.region
    try simp only [List.size_toArray, List.length_cons, List.length_nil, Nat.reduceAdd, Nat.zero_add, List.range, List.range.loop]
    co_applyP OF.pu rfl (by rfl) (fun _ => run_eq_of ?run) (fun _ => by simp [go_sem, *])
    case run => intro K hK; go_simp; exact hK
    try walk_nrm
    co_applyP OF.pu rfl (by rfl) (fun _ => run_eq_of ?run) (fun _ => by simp [go_sem, *])
    case run => intro K hK; go_simp; exact hK
    try walk_nrm
    co_applyP OF.pu rfl (by rfl) (fun _ => run_eq_of ?run) (fun _ => by simp [go_sem, *])
    case run => intro K hK; go_simp; exact hK
    try walk_nrm
    co_applyP OF.st1 0 5 rfl (by rfl) rfl H hq rfl rfl rfl rfl rfl (by kernel_rfl)
    intro K w₁ w hK1 hr1 hu1 H1
    replace H := H1
    replace hKs := Nat.le_trans hK1 hKs
    replace hlt0 := Nat.lt_of_le_of_lt hK1 hlt0
    clear hr1 hK1 hu1 H1
    simp only [List.set_cons_zero, List.set_cons_succ, List.setIfInBounds_toArray] at H
    try walk_nrm
    co_apply OF.nil
    simp only [thenF]
    co_apply WF.ret
    try simp only [thenF]
    exact retG_of rfl (resultsC_none (by rfl) _) (fun K₂ hK₂ w₂ r₂ => ⟨rfl, _, .inl ⟨by omega, by subst hys; exact hg, H.rely r₂⟩⟩)
  · skip
    have hlt0 : K < K₀ := hlt
    replace hKs := Nat.le_trans hK2 (Nat.le_trans hK0 hKs)
    have hg1 : Gr ys y1 := by rw [hy1]; exact hg
    have hr1 : y1.role = .work c (.busy true d) := by rw [hy1]; exact hr
    clear hy1
    replace hr := hr1
    have hq1 : y1.role.quiet = false := by rw [hr]; rfl
    clear hg
    have hg := hg1
    replace hq := hq1
    replace H := H1
    clear hg1 hr1 hq1 H1 hK0 hK2 hlt H0
    refine ⟨⟨⟨_, _, 0, _, H, rfl, by simp⟩, hq⟩, ?_⟩
    try walk_nrm
    co_applyP AnyF.take Sr.rely (i := 16) rfl (by kernel_rfl) (by kernel_rfl) (by kernel_rfl) (YR.pu (by rfl) (fun _ => run_eq_of ?run) (fun _ => by simp [go_sem, *])) ⟨⟨_, _, 0, _, H, rfl, by simp⟩, hq⟩
    case run => intro K hK; go_simp; exact hK
    try walk_nrm
    co_applyP AnyF.take Sr.rely (i := 17) rfl (by kernel_rfl) (by kernel_rfl) (by kernel_rfl) (YR.pu (by rfl) (fun _ => run_eq_of ?run) (fun _ => by simp [go_sem, *])) ⟨⟨_, _, 0, _, H, rfl, by simp⟩, hq⟩
    case run => intro K hK; go_simp; exact hK
    try walk_nrm
    refine AnyF.all (rs := [18]) (by kernel_rfl) (by simp) ?_
    intro i hi
    simp only [List.mem_cons, List.not_mem_nil, or_false] at hi
    subst hi
    co_applyP OpF.st1 0 6 rfl (by rfl) rfl H hq rfl rfl rfl rfl rfl (by kernel_rfl)
    intro K w hK1 H1
    replace H := H1
    replace hKs := Nat.le_trans hK1 hKs
    replace hlt0 := Nat.lt_of_le_of_lt hK1 hlt0
    clear hK1 H1
    simp only [List.set_cons_zero, List.set_cons_succ, List.setIfInBounds_toArray] at H
    refine ⟨⟨⟨_, _, 0, _, H, rfl, by simp⟩, hq⟩, ?_⟩
    try walk_nrm
    co_apply AnyF.done (by kernel_rfl)
    intro K hK1 w hr1
    replace H := H.rely hr1
    replace hKs := Nat.le_trans hK1 hKs
    replace hlt0 := Nat.lt_of_le_of_lt hK1 hlt0
    clear hr1 hK1
    simp only [thenF]
    co_apply WF.seqP
    co_apply WF.region
    try simp only [List.size_toArray, List.length_cons, List.length_nil, Nat.reduceAdd, Nat.zero_add, List.range, List.range.loop]
    co_applyP OF.pu rfl (by rfl) (fun _ => run_eq_of ?run) (fun _ => by simp [go_sem, *])
    case run => intro K hK; go_simp; exact hK
    try walk_nrm
    co_applyP OF.pu rfl (by rfl) (fun _ => run_eq_of ?run) (fun _ => by simp [go_sem, *])
    case run => intro K hK; go_simp; exact hK
    try walk_nrm
    co_applyP OF.pu rfl (by rfl) (fun _ => run_eq_of ?run) (fun _ => by simp [go_sem, *])
    case run => intro K hK; go_simp; exact hK
    try walk_nrm
    co_applyP OF.st1 0 5 rfl (by rfl) rfl H hq rfl rfl rfl rfl rfl (by kernel_rfl)
    intro K w₁ w hK1 hr1 hu1 H1
    replace H := H1
    replace hKs := Nat.le_trans hK1 hKs
    replace hlt0 := Nat.lt_of_le_of_lt hK1 hlt0
    clear hr1 hK1 hu1 H1
    simp only [List.set_cons_zero, List.set_cons_succ, List.setIfInBounds_toArray] at H
    try walk_nrm
    co_apply OF.nil
    simp only [thenF]
    co_apply WF.ret
    try simp only [thenF]
    exact retG_of rfl (resultsC_none (by rfl) _) (fun K₂ hK₂ w₂ r₂ => ⟨rfl, _, .inr ⟨by omega, by subst hys; exact hg, H.rely r₂⟩⟩)

end Go.Proofs.Ytgnhddnhcfmipaa.Ids
