/- IdleStorms: a worker's call, whole. Printed by wip/tools/gen_ids16.py. -/
import Derived.Test.YtgnhddnhcfmipaaIds14
import Derived.Test.YtgnhddnhcfmipaaIds15
namespace Go.Proofs.Ytgnhddnhcfmipaa.Ids
open Go Go.Conc Go.RowKit Go.Proofs.Ytgnhddnhcfmipaa.Eg Go.Proofs.Ytgnhddnhcfmipaa

set_option maxHeartbeats 8000000 in
set_option maxRecDepth 100000 in
theorem does_get : ∃ nf, ∀ {N : Nat} {m : Bool} {y : Gh Role} {K : Nat} {w : World} {l : List Row} (c : Cfg) (d : Bool) (_ : 0 < c.T) (_ : y.role = .work c (.busy false d)) (_ : 0 < y.rem) (_ : Ctx N T0 y K w l),
    CJ (S N) m 42 #[.pointer (some ⟨c.wd, 0, none⟩), .int .u8 1, .int .i64 0] nf (fun _ K' y' w' => K' < K ∧ Gr ⟨y.own, y.rem - 1, y.deaf, .work c (.busy true true)⟩ y' ∧ Ctx N T0 y' K' w' l) K y w := by
  obtain ⟨nt, htick⟩ := tick_0
  obtain ⟨nr, hread⟩ := read_get
  obtain ⟨np, hput⟩ := put_get
  obtain ⟨rr, hrr⟩ : ∃ rr, 60 + nr + np ≤ rr := ⟨_, Nat.le_refl _⟩
  co_apply Exists.intro
  intro N m y K w l c d hT hr hrem H
  obtain ⟨ys, hys⟩ : ∃ ys, ys = y := ⟨y, rfl⟩
  have hg : Gr ys y := by rw [hys]; exact Gr.refl y
  replace hrem : 0 < ys.rem := by rw [hys]; exact hrem
  have hq : y.role.quiet = false := by rw [hr]; rfl
  obtain ⟨KS, hKS⟩ : ∃ KS, KS = K := ⟨K, rfl⟩
  have hKs : K ≤ KS := Nat.le_of_eq hKS.symm
  co_apply CJ.of_WF Try.func42 (by kernel_rfl) (by rfl)
  simp only [show Try.f42.ntmps = 27 from rfl]
  try walk_nrm
  co_apply WF.seqP
  co_apply WF.region
  try simp only [List.size_toArray, List.length_cons, List.length_nil, Nat.zero_add, List.range, List.range.loop]
  co_applyP OF.pu rfl (by rfl) (fun _ => run_eq_of ?run) (fun _ => by simp [go_sem, *])
  case run => intro K hK; go_simp; exact hK
  try walk_nrm
  co_apply OF.nil
  try simp only [thenF]
  co_apply WF.seqP
  co_apply WF.block
  co_apply WF.seqP
  co_apply WF.region
  try simp only [List.size_toArray, List.length_cons, List.length_nil, Nat.reduceAdd, Nat.zero_add, List.range, List.range.loop]
  co_applyP OF.pu rfl (by rfl) (fun _ => run_eq_of ?run) (fun _ => by simp [go_sem, *])
  case run => intro K hK; go_simp; exact hK
  try walk_nrm
  co_applyP OF.pu (v := .bool false) rfl (by rfl) (fun _ => by kernel_rfl) (fun _ => by kernel_rfl)
  try walk_nrm
  co_applyP OF.pu rfl (by rfl) (fun _ => run_eq_of ?run) (fun _ => by simp [go_sem, *])
  case run => intro K hK; go_simp; exact hK
  try walk_nrm
  co_apply OF.nil
  try simp only [thenF]
  co_apply WF.cond (t := false) rfl
  simp only [Bool.false_eq_true, ↓reduceIte]
  co_apply WF.seqP
  co_apply WF.region
  try simp only [List.size_toArray, List.length_cons, List.length_nil, Nat.reduceAdd, Nat.zero_add, List.range, List.range.loop]
  co_applyP OF.pu rfl (by rfl) (fun _ => run_eq_of ?run) (fun _ => by simp [go_sem, *])
  case run => intro K hK; go_simp; exact hK
  try walk_nrm
  co_applyP OF.callJ rfl (by rfl) rfl
  · walk_nrm
    exact htick 0 (by omega) (by omega) H hq
  rintro _ K y' w hK1 ⟨rfl, hg1, H1⟩
  replace hg := hg.trans hg1
  replace hr := hg1.role.trans hr
  have hq1 : y'.role.quiet = false := by rw [hr]; rfl
  replace hq := hq1
  replace H := H1
  replace hKs := Nat.le_trans hK1 hKs
  first | (replace hKr := Nat.le_trans hK1 hKr) | skip
  first | (replace hlt0 := Nat.lt_of_le_of_lt hK1 hlt0) | skip
  clear hg1 H1 hq1 hK1
  try walk_nrm
  co_applyP OF.pu rfl (by rfl) (fun _ => run_eq_of ?run) (fun _ => by simp [go_sem, *])
  case run => intro K hK; go_simp; exact hK
  try walk_nrm
  co_applyP OF.pu rfl (by rfl) (fun _ => run_eq_of ?run) (fun _ => by simp [go_sem, *])
  case run => intro K hK; go_simp; exact hK
  try walk_nrm
  co_apply OF.nil
  try simp only [thenF]
  co_apply WF.cond (t := false) rfl
  simp only [Bool.false_eq_true, ↓reduceIte]
  co_apply WF.skip
  simp only [blockF, thenF]
  try simp only [thenF]
  co_apply WF.seqP
  co_apply WF.region
  try simp only [List.size_toArray, List.length_cons, List.length_nil, Nat.reduceAdd, Nat.zero_add, List.range, List.range.loop]
  co_applyP OF.pu rfl (by rfl) (fun _ => run_eq_of ?run) (fun _ => by simp [go_sem, *])
  case run => intro K hK; go_simp; exact hK
  try walk_nrm
  co_applyP OF.pu rfl (by rfl) (fun _ => run_eq_of ?run) (fun _ => by simp [go_sem, *])
  case run => intro K hK; go_simp; exact hK
  try walk_nrm
  co_applyP OF.pu rfl (by rfl) (fun _ => run_eq_of ?run) (fun _ => by simp [go_sem, *])
  case run => intro K hK; go_simp; exact hK
  try walk_nrm
  co_applyP OF.pu rfl (by rfl) (fun _ => run_eq_of ?run) (fun _ => by simp [go_sem, *])
  case run => intro K hK; go_simp; exact hK
  try walk_nrm
  co_applyP OF.pu rfl (by rfl) (fun _ => run_eq_of ?run) (fun _ => by simp [go_sem, *])
  case run => intro K hK; go_simp; exact hK
  try walk_nrm
  co_applyP OF.al rfl (by rfl) H hq (fun _ => run_eq_of ?run) (fun _ => by simp [go_sem, *])
  case run => intro K hK; go_simp; exact hK
  intro K w₁ y' w b7 hK1 hr1 hg1 hq1 hb1 hw1 H1
  replace hg := hg.trans hg1
  replace hr := hg1.role.trans hr
  replace hq := hq1
  replace H := H1
  replace hKs := Nat.le_trans hK1 hKs
  first | (replace hKr := Nat.le_trans hK1 hKr) | skip
  first | (replace hlt0 := Nat.lt_of_le_of_lt hK1 hlt0) | skip
  clear hb1 hw1 hr1 hK1 hg1 hq1 H1
  try walk_nrm
  co_applyP OF.str 0 rfl (by rfl) rfl H hq rfl rfl rfl (by kernel_rfl) (by rfl) (by kernel_rfl)
  intro K w₁ w hK1 hr1 hu1 H1
  replace H := H1
  replace hKs := Nat.le_trans hK1 hKs
  first | (replace hKr := Nat.le_trans hK1 hKr) | skip
  first | (replace hlt0 := Nat.lt_of_le_of_lt hK1 hlt0) | skip
  clear hr1 hK1 hu1 H1
  simp only [List.set_cons_zero] at H
  try walk_nrm
  co_apply OF.nil
  try simp only [thenF]
  co_apply WF.seqP
  co_apply WF.block
  co_apply WF.loopJ (j₀ := 2) (fun (j K : Nat) (y : Gh Role) (a : Act) (w : World) => ∃ (t20 t21 t22 t23 : Value) (code tries : Int), a = (⟨#[.pointer (some ⟨c.wd, 0, none⟩), .int .u8 1, .int .i64 0, undef, undef, undef, .int .i64 0, .pointer (some ⟨b7, 0, none⟩), .bool false, .pointer (some ⟨c.wd, 0, none⟩), .bool false, .bool false, .int .i64 0, .bool true, .bool false, .pointer (some ⟨c.wd, 0, none⟩), .int .u8 1, .int .i64 0, .agg #[.int .u8 1, .int .i64 0], .agg #[.pointer (some ⟨c.wd, 0, none⟩), .int .u8 1, .int .i64 0, .int .u64 0, .int .u64 0, .bool false, .bool false, .int .i64 0, .int .i64 0], t20, t21, t22, t23, undef, undef, undef], []⟩ : Act) ∧ K ≤ KS ∧
        ((j = 2 ∧ y.role = .work c (.busy false d) ∧ Gr ys y ∧ ∃ was nxt : Int, Ctx N T0 y K w ((b7, #[.pointer (some ⟨c.wd, 0, none⟩), .int .u8 1, .int .i64 0, .int .u64 was, .int .u64 nxt, .bool false, .bool false, .int .i64 code, .int .i64 tries], 106) :: l)) ∨
         ((j = 1 ∨ j = 3) ∧ y.role = .work c (.busy false d) ∧ Gr ys y ∧ ∃ (K₀ u : Nat) (e : Bool), (j = 1 → K = K₀) ∧ u < 16 ∧ Ctx N (Seen c K₀ u e) y K w ((b7, #[.pointer (some ⟨c.wd, 0, none⟩), .int .u8 1, .int .i64 0, .int .u64 (wdv ((u : Nat) : Int) e).num, .int .u64 (wdv (((u + 1) : Nat) : Int) true).num, .bool true, .bool false, .int .i64 code, .int .i64 tries], 106) :: l)) ∨
         (j = 0 ∧ K < KS ∧ Gr ⟨ys.own, ys.rem - 1, ys.deaf, .work c (.busy true true)⟩ y ∧ ∃ was nxt : Int, Ctx N T0 y K w ((b7, #[.pointer (some ⟨c.wd, 0, none⟩), .int .u8 1, .int .i64 0, .int .u64 was, .int .u64 nxt, .bool false, .bool true, .int .i64 code, .int .i64 tries], 106) :: l)))) rr 3
  · exact ⟨_, _, _, _, _, _, rfl, hKs, .inl ⟨rfl, hr, hg, _, _, H⟩⟩
  · rintro j K y a w ⟨_, _, _, _, _, _, _, _, h | h | h⟩
    · omega
    · rcases h.1 with h | h <;> omega
    · omega
  intro j K y a w hKl hI
  obtain ⟨t20, t21, t22, t23, code, tries, rfl, hKs, hI⟩ := hI
  rcases hI with ⟨rfl, hr, hg, was, nxt, H⟩ | ⟨hj, hr, hg, K₀, u, e, hj1, hu, H⟩ | ⟨rfl, hlt0, hg, was, nxt, H⟩
  · skip
    co_apply WF.more
    · skip
      obtain ⟨KR, hKR⟩ : ∃ KR, KR = K := ⟨K, rfl⟩
      have hKr : K ≤ KR := Nat.le_of_eq hKR.symm
      have hq : y.role.quiet = false := by rw [hr]; rfl
      try simp only [thenF, blockF, if_true, if_false, reduceIte, Nat.reduceEqDiff]
      co_apply WF.seqP
      co_apply WF.seqP
      co_apply WF.region
      try simp only [List.size_toArray, List.length_cons, List.length_nil, Nat.reduceAdd, Nat.zero_add, List.range, List.range.loop]
      co_applyP OF.pu rfl (by rfl) (fun _ => run_eq_of ?run) (fun _ => by simp [go_sem, *])
      case run => intro K hK; go_simp; exact hK
      try walk_nrm
      co_applyP OF.ld1 0 6 rfl (by rfl) rfl H hq rfl rfl rfl Try.underlying4 rfl
      intro K w hK1 hr1 H1
      replace H := H1
      replace hKs := Nat.le_trans hK1 hKs
      first | (replace hKr := Nat.le_trans hK1 hKr) | skip
      first | (replace hlt0 := Nat.lt_of_le_of_lt hK1 hlt0) | skip
      clear hr1 hK1 H1
      try walk_nrm
      co_applyP OF.pu rfl (by rfl) (fun _ => run_eq_of ?run) (fun _ => by simp [go_sem, *])
      case run => intro K hK; go_simp; exact hK
      try walk_nrm
      co_apply OF.nil
      try simp only [thenF]
      co_apply WF.cond (t := true) rfl
      simp only [↓reduceIte]
      co_apply WF.skip
      try simp only [thenF]
      co_apply WF.block
      co_apply WF.region
      try simp only [List.size_toArray, List.length_cons, List.length_nil, Nat.zero_add, List.range, List.range.loop]
      co_applyP OF.callJ rfl (by rfl) rfl
      · walk_nrm
        exact hread c d b7 _ _ _ _ hr H
      rintro _ K' y' w hK1 ⟨K₁, u, e, hk, hu, rfl, hg1, H1⟩
      try walk_nrm
      co_apply OF.nil
      simp only [blockF, thenF]
      by_cases hkk : K' = K₁
      · exact ⟨1, ⟨_, _, _, _, _, _, rfl, by omega, .inr (.inl ⟨.inl rfl, hg1.role.trans hr, hg.trans hg1, K₁, u, e, fun _ => hkk, hu, H1⟩)⟩, .inr (by omega)⟩
      · have := H1.mem.1; exact ⟨3, ⟨_, _, _, _, _, _, rfl, by omega, .inr (.inl ⟨.inr rfl, hg1.role.trans hr, hg.trans hg1, K₁, u, e, fun h => by omega, hu, H1⟩)⟩, .inl (by omega)⟩
    · first | omega | (simp only [pl_eq]; omega)
  · skip
    co_apply WF.more
    · skip
      obtain ⟨KR, hKR⟩ : ∃ KR, KR = K := ⟨K, rfl⟩
      have hKr : K ≤ KR := Nat.le_of_eq hKR.symm
      have hq : y.role.quiet = false := by rw [hr]; rfl
      try simp only [thenF, blockF, if_true, if_false, reduceIte, Nat.reduceEqDiff]
      co_apply WF.seqP
      co_apply WF.seqP
      co_apply WF.region
      try simp only [List.size_toArray, List.length_cons, List.length_nil, Nat.reduceAdd, Nat.zero_add, List.range, List.range.loop]
      co_applyP OF.pu rfl (by rfl) (fun _ => run_eq_of ?run) (fun _ => by simp [go_sem, *])
      case run => intro K hK; go_simp; exact hK
      try walk_nrm
      co_applyP OF.ld1 0 6 rfl (by rfl) rfl H hq rfl rfl rfl Try.underlying4 rfl
      intro K w hK1 hr1 H1
      replace H := H1
      replace hKs := Nat.le_trans hK1 hKs
      first | (replace hKr := Nat.le_trans hK1 hKr) | skip
      first | (replace hlt0 := Nat.lt_of_le_of_lt hK1 hlt0) | skip
      clear hr1 hK1 H1
      try walk_nrm
      co_applyP OF.pu rfl (by rfl) (fun _ => run_eq_of ?run) (fun _ => by simp [go_sem, *])
      case run => intro K hK; go_simp; exact hK
      try walk_nrm
      co_apply OF.nil
      try simp only [thenF]
      co_apply WF.cond (t := true) rfl
      simp only [↓reduceIte]
      co_apply WF.skip
      try simp only [thenF]
      co_apply WF.block
      co_apply WF.region
      try simp only [List.size_toArray, List.length_cons, List.length_nil, Nat.zero_add, List.range, List.range.loop]
      co_applyP OF.callJ rfl (by rfl) rfl
      · walk_nrm
        exact hput c d K₀ u e b7 _ _ hT hu hr (by rw [hg.rem]; exact hrem) H
      rintro _ K' y' w hK1 ⟨rfl, tries', hd⟩
      try walk_nrm
      co_apply OF.nil
      simp only [blockF, thenF]
      rcases hd with ⟨hlt, hg1, H1⟩ | ⟨hlt, hg1, H1⟩
      · exact ⟨0, ⟨_, _, _, _, _, _, rfl, by omega, .inr (.inr ⟨rfl, by omega, ⟨hg1.role, by rw [hg1.rem]; simp only [hg.rem], hg1.deaf.trans hg.deaf, fun b hb => hg1.own b (hg.own b hb)⟩, _, _, H1⟩)⟩, .inl (by omega)⟩
      · have hmm := H.mem.1; refine ⟨2, ⟨_, _, _, _, _, _, rfl, by omega, .inl ⟨rfl, hg1.role.trans hr, hg.trans hg1, _, _, H1⟩⟩, ?_⟩
        rcases hj with rfl | rfl
        · have := hj1 rfl; exact .inl (by omega)
        · exact .inr (by omega)
    · first | omega | (simp only [pl_eq]; omega)
  · skip
    co_apply WF.more
    · skip
      obtain ⟨KR, hKR⟩ : ∃ KR, KR = K := ⟨K, rfl⟩
      have hKr : K ≤ KR := Nat.le_of_eq hKR.symm
      have hq : y.role.quiet = false := by rw [hg.role]; rfl
      have hr : y.role = .work c (.busy true true) := hg.role
      try simp only [thenF, blockF, if_true, if_false, reduceIte, Nat.reduceEqDiff]
      co_apply WF.seqP (n₂ := 0)
      co_apply WF.seqP
      co_apply WF.region
      try simp only [List.size_toArray, List.length_cons, List.length_nil, Nat.reduceAdd, Nat.zero_add, List.range, List.range.loop]
      co_applyP OF.pu rfl (by rfl) (fun _ => run_eq_of ?run) (fun _ => by simp [go_sem, *])
      case run => intro K hK; go_simp; exact hK
      try walk_nrm
      co_applyP OF.ld1 0 6 rfl (by rfl) rfl H hq rfl rfl rfl Try.underlying4 rfl
      intro K w hK1 hr1 H1
      replace H := H1
      replace hKs := Nat.le_trans hK1 hKs
      first | (replace hKr := Nat.le_trans hK1 hKr) | skip
      first | (replace hlt0 := Nat.lt_of_le_of_lt hK1 hlt0) | skip
      clear hr1 hK1 H1
      try walk_nrm
      co_applyP OF.pu rfl (by rfl) (fun _ => run_eq_of ?run) (fun _ => by simp [go_sem, *])
      case run => intro K hK; go_simp; exact hK
      try walk_nrm
      co_apply OF.nil
      try simp only [thenF]
      co_apply WF.cond (t := false) rfl
      simp only [Bool.false_eq_true, ↓reduceIte]
      co_apply WF.exit
      try simp only [thenF]
      simp only [blockF, thenF, if_true]
      try simp only [thenF]
      co_apply WF.seqP
      co_apply WF.region
      try simp only [List.size_toArray, List.length_cons, List.length_nil, Nat.reduceAdd, Nat.zero_add, List.range, List.range.loop]
      co_applyP OF.pu rfl (by rfl) (fun _ => run_eq_of ?run) (fun _ => by simp [go_sem, *])
      case run => intro K hK; go_simp; exact hK
      try walk_nrm
      co_applyP OF.pu rfl (by rfl) (fun _ => run_eq_of ?run) (fun _ => by simp [go_sem, *])
      case run => intro K hK; go_simp; exact hK
      try walk_nrm
      co_applyP OF.ld1 0 7 rfl (by rfl) rfl H hq rfl rfl rfl Try.underlying24 rfl
      intro K w hK1 hr1 H1
      replace H := H1
      replace hKs := Nat.le_trans hK1 hKs
      first | (replace hKr := Nat.le_trans hK1 hKr) | skip
      first | (replace hlt0 := Nat.lt_of_le_of_lt hK1 hlt0) | skip
      clear hr1 hK1 H1
      try walk_nrm
      co_applyP OF.pu rfl (by rfl) (fun _ => run_eq_of ?run) (fun _ => by simp [go_sem, *])
      case run => intro K hK; go_simp; exact hK
      try walk_nrm
      co_apply OF.nil
      try simp only [thenF]
      co_apply WF.ret
      exact retG_of rfl (resultsC_tmp (by rfl) _) (fun K₂ hK₂ w₂ r₂ => ⟨by omega, by subst hys; exact hg, (H.rely r₂).tail⟩)
    · first | omega | (simp only [pl_eq]; omega)

set_option maxHeartbeats 8000000 in
set_option maxRecDepth 100000 in
theorem does_put : ∃ nf, ∀ {N : Nat} {m : Bool} {y : Gh Role} {K : Nat} {w : World} {l : List Row} (c : Cfg) (d : Bool) (_ : 0 < c.T) (_ : y.role = .work c (.busy true d)) (_ : 0 < y.rem) (_ : Ctx N T0 y K w l),
    CJ (S N) m 42 #[.pointer (some ⟨c.wd, 0, none⟩), .int .u8 2, .int .i64 0] nf (fun _ K' y' w' => K' < K ∧ Gr ⟨y.own, y.rem - 1, y.deaf, .work c (.busy false d)⟩ y' ∧ Ctx N T0 y' K' w' l) K y w := by
  obtain ⟨nt, htick⟩ := tick_0
  obtain ⟨nr, hread⟩ := read_put
  obtain ⟨np, hput⟩ := put_put
  obtain ⟨rr, hrr⟩ : ∃ rr, 60 + nr + np ≤ rr := ⟨_, Nat.le_refl _⟩
  co_apply Exists.intro
  intro N m y K w l c d hT hr hrem H
  obtain ⟨ys, hys⟩ : ∃ ys, ys = y := ⟨y, rfl⟩
  have hg : Gr ys y := by rw [hys]; exact Gr.refl y
  replace hrem : 0 < ys.rem := by rw [hys]; exact hrem
  have hq : y.role.quiet = false := by rw [hr]; rfl
  obtain ⟨KS, hKS⟩ : ∃ KS, KS = K := ⟨K, rfl⟩
  have hKs : K ≤ KS := Nat.le_of_eq hKS.symm
  co_apply CJ.of_WF Try.func42 (by kernel_rfl) (by rfl)
  simp only [show Try.f42.ntmps = 27 from rfl]
  try walk_nrm
  co_apply WF.seqP
  co_apply WF.region
  try simp only [List.size_toArray, List.length_cons, List.length_nil, Nat.zero_add, List.range, List.range.loop]
  co_applyP OF.pu rfl (by rfl) (fun _ => run_eq_of ?run) (fun _ => by simp [go_sem, *])
  case run => intro K hK; go_simp; exact hK
  try walk_nrm
  co_apply OF.nil
  try simp only [thenF]
  co_apply WF.seqP
  co_apply WF.block
  co_apply WF.seqP
  co_apply WF.region
  try simp only [List.size_toArray, List.length_cons, List.length_nil, Nat.reduceAdd, Nat.zero_add, List.range, List.range.loop]
  co_applyP OF.pu rfl (by rfl) (fun _ => run_eq_of ?run) (fun _ => by simp [go_sem, *])
  case run => intro K hK; go_simp; exact hK
  try walk_nrm
  co_applyP OF.pu (v := .bool false) rfl (by rfl) (fun _ => by kernel_rfl) (fun _ => by kernel_rfl)
  try walk_nrm
  co_applyP OF.pu rfl (by rfl) (fun _ => run_eq_of ?run) (fun _ => by simp [go_sem, *])
  case run => intro K hK; go_simp; exact hK
  try walk_nrm
  co_apply OF.nil
  try simp only [thenF]
  co_apply WF.cond (t := false) rfl
  simp only [Bool.false_eq_true, ↓reduceIte]
  co_apply WF.seqP
  co_apply WF.region
  try simp only [List.size_toArray, List.length_cons, List.length_nil, Nat.reduceAdd, Nat.zero_add, List.range, List.range.loop]
  co_applyP OF.pu rfl (by rfl) (fun _ => run_eq_of ?run) (fun _ => by simp [go_sem, *])
  case run => intro K hK; go_simp; exact hK
  try walk_nrm
  co_applyP OF.callJ rfl (by rfl) rfl
  · walk_nrm
    exact htick 0 (by omega) (by omega) H hq
  rintro _ K y' w hK1 ⟨rfl, hg1, H1⟩
  replace hg := hg.trans hg1
  replace hr := hg1.role.trans hr
  have hq1 : y'.role.quiet = false := by rw [hr]; rfl
  replace hq := hq1
  replace H := H1
  replace hKs := Nat.le_trans hK1 hKs
  first | (replace hKr := Nat.le_trans hK1 hKr) | skip
  first | (replace hlt0 := Nat.lt_of_le_of_lt hK1 hlt0) | skip
  clear hg1 H1 hq1 hK1
  try walk_nrm
  co_applyP OF.pu rfl (by rfl) (fun _ => run_eq_of ?run) (fun _ => by simp [go_sem, *])
  case run => intro K hK; go_simp; exact hK
  try walk_nrm
  co_applyP OF.pu rfl (by rfl) (fun _ => run_eq_of ?run) (fun _ => by simp [go_sem, *])
  case run => intro K hK; go_simp; exact hK
  try walk_nrm
  co_apply OF.nil
  try simp only [thenF]
  co_apply WF.cond (t := false) rfl
  simp only [Bool.false_eq_true, ↓reduceIte]
  co_apply WF.skip
  simp only [blockF, thenF]
  try simp only [thenF]
  co_apply WF.seqP
  co_apply WF.region
  try simp only [List.size_toArray, List.length_cons, List.length_nil, Nat.reduceAdd, Nat.zero_add, List.range, List.range.loop]
  co_applyP OF.pu rfl (by rfl) (fun _ => run_eq_of ?run) (fun _ => by simp [go_sem, *])
  case run => intro K hK; go_simp; exact hK
  try walk_nrm
  co_applyP OF.pu rfl (by rfl) (fun _ => run_eq_of ?run) (fun _ => by simp [go_sem, *])
  case run => intro K hK; go_simp; exact hK
  try walk_nrm
  co_applyP OF.pu rfl (by rfl) (fun _ => run_eq_of ?run) (fun _ => by simp [go_sem, *])
  case run => intro K hK; go_simp; exact hK
  try walk_nrm
  co_applyP OF.pu rfl (by rfl) (fun _ => run_eq_of ?run) (fun _ => by simp [go_sem, *])
  case run => intro K hK; go_simp; exact hK
  try walk_nrm
  co_applyP OF.pu rfl (by rfl) (fun _ => run_eq_of ?run) (fun _ => by simp [go_sem, *])
  case run => intro K hK; go_simp; exact hK
  try walk_nrm
  co_applyP OF.al rfl (by rfl) H hq (fun _ => run_eq_of ?run) (fun _ => by simp [go_sem, *])
  case run => intro K hK; go_simp; exact hK
  intro K w₁ y' w b7 hK1 hr1 hg1 hq1 hb1 hw1 H1
  replace hg := hg.trans hg1
  replace hr := hg1.role.trans hr
  replace hq := hq1
  replace H := H1
  replace hKs := Nat.le_trans hK1 hKs
  first | (replace hKr := Nat.le_trans hK1 hKr) | skip
  first | (replace hlt0 := Nat.lt_of_le_of_lt hK1 hlt0) | skip
  clear hb1 hw1 hr1 hK1 hg1 hq1 H1
  try walk_nrm
  co_applyP OF.str 0 rfl (by rfl) rfl H hq rfl rfl rfl (by kernel_rfl) (by rfl) (by kernel_rfl)
  intro K w₁ w hK1 hr1 hu1 H1
  replace H := H1
  replace hKs := Nat.le_trans hK1 hKs
  first | (replace hKr := Nat.le_trans hK1 hKr) | skip
  first | (replace hlt0 := Nat.lt_of_le_of_lt hK1 hlt0) | skip
  clear hr1 hK1 hu1 H1
  simp only [List.set_cons_zero] at H
  try walk_nrm
  co_apply OF.nil
  try simp only [thenF]
  co_apply WF.seqP
  co_apply WF.block
  co_apply WF.loopJ (j₀ := 2) (fun (j K : Nat) (y : Gh Role) (a : Act) (w : World) => ∃ (t20 t21 t22 t23 : Value) (code tries : Int), a = (⟨#[.pointer (some ⟨c.wd, 0, none⟩), .int .u8 2, .int .i64 0, undef, undef, undef, .int .i64 0, .pointer (some ⟨b7, 0, none⟩), .bool false, .pointer (some ⟨c.wd, 0, none⟩), .bool false, .bool false, .int .i64 0, .bool true, .bool false, .pointer (some ⟨c.wd, 0, none⟩), .int .u8 2, .int .i64 0, .agg #[.int .u8 2, .int .i64 0], .agg #[.pointer (some ⟨c.wd, 0, none⟩), .int .u8 2, .int .i64 0, .int .u64 0, .int .u64 0, .bool false, .bool false, .int .i64 0, .int .i64 0], t20, t21, t22, t23, undef, undef, undef], []⟩ : Act) ∧ K ≤ KS ∧
        ((j = 2 ∧ y.role = .work c (.busy true d) ∧ Gr ys y ∧ ∃ was nxt : Int, Ctx N T0 y K w ((b7, #[.pointer (some ⟨c.wd, 0, none⟩), .int .u8 2, .int .i64 0, .int .u64 was, .int .u64 nxt, .bool false, .bool false, .int .i64 code, .int .i64 tries], 106) :: l)) ∨
         ((j = 1 ∨ j = 3) ∧ y.role = .work c (.busy true d) ∧ Gr ys y ∧ ∃ (K₀ u : Nat), (j = 1 → K = K₀) ∧ u < 16 ∧ Ctx N (Seen c K₀ (u + 1) true) y K w ((b7, #[.pointer (some ⟨c.wd, 0, none⟩), .int .u8 2, .int .i64 0, .int .u64 (wdv (((u + 1) : Nat) : Int) true).num, .int .u64 (wdv ((u : Nat) : Int) true).num, .bool true, .bool false, .int .i64 code, .int .i64 tries], 106) :: l)) ∨
         (j = 0 ∧ K < KS ∧ Gr ⟨ys.own, ys.rem - 1, ys.deaf, .work c (.busy false d)⟩ y ∧ ∃ was nxt : Int, Ctx N T0 y K w ((b7, #[.pointer (some ⟨c.wd, 0, none⟩), .int .u8 2, .int .i64 0, .int .u64 was, .int .u64 nxt, .bool false, .bool true, .int .i64 code, .int .i64 tries], 106) :: l)))) rr 3
  · exact ⟨_, _, _, _, _, _, rfl, hKs, .inl ⟨rfl, hr, hg, _, _, H⟩⟩
  · rintro j K y a w ⟨_, _, _, _, _, _, _, _, h | h | h⟩
    · omega
    · rcases h.1 with h | h <;> omega
    · omega
  intro j K y a w hKl hI
  obtain ⟨t20, t21, t22, t23, code, tries, rfl, hKs, hI⟩ := hI
  rcases hI with ⟨rfl, hr, hg, was, nxt, H⟩ | ⟨hj, hr, hg, K₀, u, hj1, hu, H⟩ | ⟨rfl, hlt0, hg, was, nxt, H⟩
  · skip
    co_apply WF.more
    · skip
      obtain ⟨KR, hKR⟩ : ∃ KR, KR = K := ⟨K, rfl⟩
      have hKr : K ≤ KR := Nat.le_of_eq hKR.symm
      have hq : y.role.quiet = false := by rw [hr]; rfl
      try simp only [thenF, blockF, if_true, if_false, reduceIte, Nat.reduceEqDiff]
      co_apply WF.seqP
      co_apply WF.seqP
      co_apply WF.region
      try simp only [List.size_toArray, List.length_cons, List.length_nil, Nat.reduceAdd, Nat.zero_add, List.range, List.range.loop]
      co_applyP OF.pu rfl (by rfl) (fun _ => run_eq_of ?run) (fun _ => by simp [go_sem, *])
      case run => intro K hK; go_simp; exact hK
      try walk_nrm
      co_applyP OF.ld1 0 6 rfl (by rfl) rfl H hq rfl rfl rfl Try.underlying4 rfl
      intro K w hK1 hr1 H1
      replace H := H1
      replace hKs := Nat.le_trans hK1 hKs
      first | (replace hKr := Nat.le_trans hK1 hKr) | skip
      first | (replace hlt0 := Nat.lt_of_le_of_lt hK1 hlt0) | skip
      clear hr1 hK1 H1
      try walk_nrm
      co_applyP OF.pu rfl (by rfl) (fun _ => run_eq_of ?run) (fun _ => by simp [go_sem, *])
      case run => intro K hK; go_simp; exact hK
      try walk_nrm
      co_apply OF.nil
      try simp only [thenF]
      co_apply WF.cond (t := true) rfl
      simp only [↓reduceIte]
      co_apply WF.skip
      try simp only [thenF]
      co_apply WF.block
      co_apply WF.region
      try simp only [List.size_toArray, List.length_cons, List.length_nil, Nat.zero_add, List.range, List.range.loop]
      co_applyP OF.callJ rfl (by rfl) rfl
      · walk_nrm
        exact hread c d b7 _ _ _ _ hr H
      rintro _ K' y' w hK1 ⟨K₁, u, hk, hu, rfl, hg1, H1⟩
      try walk_nrm
      co_apply OF.nil
      simp only [blockF, thenF]
      by_cases hkk : K' = K₁
      · exact ⟨1, ⟨_, _, _, _, _, _, rfl, by omega, .inr (.inl ⟨.inl rfl, hg1.role.trans hr, hg.trans hg1, K₁, u, fun _ => hkk, hu, H1⟩)⟩, .inr (by omega)⟩
      · have := H1.mem.1; exact ⟨3, ⟨_, _, _, _, _, _, rfl, by omega, .inr (.inl ⟨.inr rfl, hg1.role.trans hr, hg.trans hg1, K₁, u, fun h => by omega, hu, H1⟩)⟩, .inl (by omega)⟩
    · first | omega | (simp only [pl_eq]; omega)
  · skip
    co_apply WF.more
    · skip
      obtain ⟨KR, hKR⟩ : ∃ KR, KR = K := ⟨K, rfl⟩
      have hKr : K ≤ KR := Nat.le_of_eq hKR.symm
      have hq : y.role.quiet = false := by rw [hr]; rfl
      try simp only [thenF, blockF, if_true, if_false, reduceIte, Nat.reduceEqDiff]
      co_apply WF.seqP
      co_apply WF.seqP
      co_apply WF.region
      try simp only [List.size_toArray, List.length_cons, List.length_nil, Nat.reduceAdd, Nat.zero_add, List.range, List.range.loop]
      co_applyP OF.pu rfl (by rfl) (fun _ => run_eq_of ?run) (fun _ => by simp [go_sem, *])
      case run => intro K hK; go_simp; exact hK
      try walk_nrm
      co_applyP OF.ld1 0 6 rfl (by rfl) rfl H hq rfl rfl rfl Try.underlying4 rfl
      intro K w hK1 hr1 H1
      replace H := H1
      replace hKs := Nat.le_trans hK1 hKs
      first | (replace hKr := Nat.le_trans hK1 hKr) | skip
      first | (replace hlt0 := Nat.lt_of_le_of_lt hK1 hlt0) | skip
      clear hr1 hK1 H1
      try walk_nrm
      co_applyP OF.pu rfl (by rfl) (fun _ => run_eq_of ?run) (fun _ => by simp [go_sem, *])
      case run => intro K hK; go_simp; exact hK
      try walk_nrm
      co_apply OF.nil
      try simp only [thenF]
      co_apply WF.cond (t := true) rfl
      simp only [↓reduceIte]
      co_apply WF.skip
      try simp only [thenF]
      co_apply WF.block
      co_apply WF.region
      try simp only [List.size_toArray, List.length_cons, List.length_nil, Nat.zero_add, List.range, List.range.loop]
      co_applyP OF.callJ rfl (by rfl) rfl
      · walk_nrm
        exact hput c d K₀ u b7 _ _ hu hr (by rw [hg.rem]; exact hrem) H
      rintro _ K' y' w hK1 ⟨rfl, tries', hd⟩
      try walk_nrm
      co_apply OF.nil
      simp only [blockF, thenF]
      rcases hd with ⟨hlt, hg1, H1⟩ | ⟨hlt, hg1, H1⟩
      · exact ⟨0, ⟨_, _, _, _, _, _, rfl, by omega, .inr (.inr ⟨rfl, by omega, ⟨hg1.role, by rw [hg1.rem]; simp only [hg.rem], hg1.deaf.trans hg.deaf, fun b hb => hg1.own b (hg.own b hb)⟩, _, _, H1⟩)⟩, .inl (by omega)⟩
      · have hmm := H.mem.1; refine ⟨2, ⟨_, _, _, _, _, _, rfl, by omega, .inl ⟨rfl, hg1.role.trans hr, hg.trans hg1, _, _, H1⟩⟩, ?_⟩
        rcases hj with rfl | rfl
        · have := hj1 rfl; exact .inl (by omega)
        · exact .inr (by omega)
    · first | omega | (simp only [pl_eq]; omega)
  · skip
    co_apply WF.more
    · skip
      obtain ⟨KR, hKR⟩ : ∃ KR, KR = K := ⟨K, rfl⟩
      have hKr : K ≤ KR := Nat.le_of_eq hKR.symm
      have hq : y.role.quiet = false := by rw [hg.role]; rfl
      have hr : y.role = .work c (.busy false d) := hg.role
      try simp only [thenF, blockF, if_true, if_false, reduceIte, Nat.reduceEqDiff]
      co_apply WF.seqP (n₂ := 0)
      co_apply WF.seqP
      co_apply WF.region
      try simp only [List.size_toArray, List.length_cons, List.length_nil, Nat.reduceAdd, Nat.zero_add, List.range, List.range.loop]
      co_applyP OF.pu rfl (by rfl) (fun _ => run_eq_of ?run) (fun _ => by simp [go_sem, *])
      case run => intro K hK; go_simp; exact hK
      try walk_nrm
      co_applyP OF.ld1 0 6 rfl (by rfl) rfl H hq rfl rfl rfl Try.underlying4 rfl
      intro K w hK1 hr1 H1
      replace H := H1
      replace hKs := Nat.le_trans hK1 hKs
      first | (replace hKr := Nat.le_trans hK1 hKr) | skip
      first | (replace hlt0 := Nat.lt_of_le_of_lt hK1 hlt0) | skip
      clear hr1 hK1 H1
      try walk_nrm
      co_applyP OF.pu rfl (by rfl) (fun _ => run_eq_of ?run) (fun _ => by simp [go_sem, *])
      case run => intro K hK; go_simp; exact hK
      try walk_nrm
      co_apply OF.nil
      try simp only [thenF]
      co_apply WF.cond (t := false) rfl
      simp only [Bool.false_eq_true, ↓reduceIte]
      co_apply WF.exit
      try simp only [thenF]
      simp only [blockF, thenF, if_true]
      try simp only [thenF]
      co_apply WF.seqP
      co_apply WF.region
      try simp only [List.size_toArray, List.length_cons, List.length_nil, Nat.reduceAdd, Nat.zero_add, List.range, List.range.loop]
      co_applyP OF.pu rfl (by rfl) (fun _ => run_eq_of ?run) (fun _ => by simp [go_sem, *])
      case run => intro K hK; go_simp; exact hK
      try walk_nrm
      co_applyP OF.pu rfl (by rfl) (fun _ => run_eq_of ?run) (fun _ => by simp [go_sem, *])
      case run => intro K hK; go_simp; exact hK
      try walk_nrm
      co_applyP OF.ld1 0 7 rfl (by rfl) rfl H hq rfl rfl rfl Try.underlying24 rfl
      intro K w hK1 hr1 H1
      replace H := H1
      replace hKs := Nat.le_trans hK1 hKs
      first | (replace hKr := Nat.le_trans hK1 hKr) | skip
      first | (replace hlt0 := Nat.lt_of_le_of_lt hK1 hlt0) | skip
      clear hr1 hK1 H1
      try walk_nrm
      co_applyP OF.pu rfl (by rfl) (fun _ => run_eq_of ?run) (fun _ => by simp [go_sem, *])
      case run => intro K hK; go_simp; exact hK
      try walk_nrm
      co_apply OF.nil
      try simp only [thenF]
      co_apply WF.ret
      exact retG_of rfl (resultsC_tmp (by rfl) _) (fun K₂ hK₂ w₂ r₂ => ⟨by omega, by subst hys; exact hg, (H.rely r₂).tail⟩)
    · first | omega | (simp only [pl_eq]; omega)

end Go.Proofs.Ytgnhddnhcfmipaa.Ids
