/- IdleStorms: Get and Sweep in the owner's hand. Printed by wip/tools/gen_ids23.py. -/
import Derived.Test.YtgnhddnhcfmipaaIds22
namespace Go.Proofs.Ytgnhddnhcfmipaa.Ids
open Go Go.Conc Go.RowKit Go.Proofs.Ytgnhddnhcfmipaa.Eg Go.Proofs.Ytgnhddnhcfmipaa

set_option maxHeartbeats 8000000 in
set_option maxRecDepth 100000 in
theorem odoes_get : ∃ nf, ∀ {N : Nat} {F : Nat → World → Prop} {m : Bool} {y : Gh Role} {K : Nat} {w : World} {l : List Row} (sh : Nat → Prop) (g : Nat) (d : Int) (u : Nat) (e : Bool) (_ : u < 65535) (_ : y.role = .alone sh) (_ : Ctx N F y K w ((g, #[.int .i64 d, .int .u64 (wdv (u : Int) e).num], 100) :: l)),
    CJ (S N) m 42 #[.pointer (some ⟨g, 0, none⟩), .int .u8 1, .int .i64 0] nf (fun _ K' y' w' => Gr y y' ∧ Ctx N F y' K' w' ((g, #[.int .i64 d, .int .u64 (wdv ((u + 1 : Nat) : Int) true).num], 100) :: l)) K y w := by
  obtain ⟨nt, htick⟩ := tick_0
  obtain ⟨nr, hread⟩ := oread_get
  obtain ⟨np, hput⟩ := oput
  obtain ⟨rr, hrr⟩ : ∃ rr, 60 + nr + np ≤ rr := ⟨_, Nat.le_refl _⟩
  co_apply Exists.intro
  intro N F m y K w l sh g d u e hu hr H
  obtain ⟨ys, hys⟩ : ∃ ys, ys = y := ⟨y, rfl⟩
  have hg : Gr ys y := by rw [hys]; exact Gr.refl y
  have hq : y.role.quiet = false := by rw [hr]; rfl
  co_apply CJ.of_WF Try.func42 (by kernel_rfl) (by rfl)
  simp only [show Try.f42.ntmps = 27 from rfl]
  try walk_nrm
  co_apply WF.seqP
  co_apply WF.region
  try simp only [List.size_toArray, List.length_cons, List.length_nil, Nat.zero_add, List.range, List.range.loop]
  co_applyP OF.pu rfl (by rfl) (fun _ => run_eq_of ?run) (fun _ => by simp [go_sem, *])
  case run => intro K hK; go_simp; exact hK
  try walk_nrm
  co_apply OF.nil
  try simp only [thenF]
  co_apply WF.seqP
  co_apply WF.block
  co_apply WF.seqP
  co_apply WF.region
  try simp only [List.size_toArray, List.length_cons, List.length_nil, Nat.reduceAdd, Nat.zero_add, List.range, List.range.loop]
  co_applyP OF.pu rfl (by rfl) (fun _ => run_eq_of ?run) (fun _ => by simp [go_sem, *])
  case run => intro K hK; go_simp; exact hK
  try walk_nrm
  co_applyP OF.pu (v := .bool false) rfl (by rfl) (fun _ => by kernel_rfl) (fun _ => by kernel_rfl)
  try walk_nrm
  co_applyP OF.pu rfl (by rfl) (fun _ => run_eq_of ?run) (fun _ => by simp [go_sem, *])
  case run => intro K hK; go_simp; exact hK
  try walk_nrm
  co_apply OF.nil
  try simp only [thenF]
  co_apply WF.cond (t := false) rfl
  simp only [Bool.false_eq_true, ↓reduceIte]
  co_apply WF.seqP
  co_apply WF.region
  try simp only [List.size_toArray, List.length_cons, List.length_nil, Nat.reduceAdd, Nat.zero_add, List.range, List.range.loop]
  co_applyP OF.pu rfl (by rfl) (fun _ => run_eq_of ?run) (fun _ => by simp [go_sem, *])
  case run => intro K hK; go_simp; exact hK
  try walk_nrm
  co_applyP OF.callJ rfl (by rfl) rfl
  · walk_nrm
    exact htick 0 (by omega) (by omega) H hq
  rintro _ K y' w hK1 ⟨rfl, hg1, H1⟩
  replace hg := hg.trans hg1
  replace hr := hg1.role.trans hr
  have hq1 : y'.role.quiet = false := by rw [hr]; rfl
  replace hq := hq1
  replace H := H1
  clear hg1 H1 hq1 hK1
  try walk_nrm
  co_applyP OF.pu rfl (by rfl) (fun _ => run_eq_of ?run) (fun _ => by simp [go_sem, *])
  case run => intro K hK; go_simp; exact hK
  try walk_nrm
  co_applyP OF.pu rfl (by rfl) (fun _ => run_eq_of ?run) (fun _ => by simp [go_sem, *])
  case run => intro K hK; go_simp; exact hK
  try walk_nrm
  co_apply OF.nil
  try simp only [thenF]
  co_apply WF.cond (t := false) rfl
  simp only [Bool.false_eq_true, ↓reduceIte]
  co_apply WF.skip
  simp only [blockF, thenF]
  try simp only [thenF]
  co_apply WF.seqP
  co_apply WF.region
  try simp only [List.size_toArray, List.length_cons, List.length_nil, Nat.reduceAdd, Nat.zero_add, List.range, List.range.loop]
  co_applyP OF.pu rfl (by rfl) (fun _ => run_eq_of ?run) (fun _ => by simp [go_sem, *])
  case run => intro K hK; go_simp; exact hK
  try walk_nrm
  co_applyP OF.pu rfl (by rfl) (fun _ => run_eq_of ?run) (fun _ => by simp [go_sem, *])
  case run => intro K hK; go_simp; exact hK
  try walk_nrm
  co_applyP OF.pu rfl (by rfl) (fun _ => run_eq_of ?run) (fun _ => by simp [go_sem, *])
  case run => intro K hK; go_simp; exact hK
  try walk_nrm
  co_applyP OF.pu rfl (by rfl) (fun _ => run_eq_of ?run) (fun _ => by simp [go_sem, *])
  case run => intro K hK; go_simp; exact hK
  try walk_nrm
  co_applyP OF.pu rfl (by rfl) (fun _ => run_eq_of ?run) (fun _ => by simp [go_sem, *])
  case run => intro K hK; go_simp; exact hK
  try walk_nrm
  co_applyP OF.al rfl (by rfl) H hq (fun _ => run_eq_of ?run) (fun _ => by simp [go_sem, *])
  case run => intro K hK; go_simp; exact hK
  intro K w₁ y' w b7 hK1 hr1 hg1 hq1 hb1 hw1 H1
  replace hg := hg.trans hg1
  replace hr := hg1.role.trans hr
  replace hq := hq1
  replace H := H1
  clear hb1 hw1 hr1 hK1 hg1 hq1 H1
  try walk_nrm
  co_applyP OF.str 0 rfl (by rfl) rfl H hq rfl rfl rfl (by kernel_rfl) (by rfl) (by kernel_rfl)
  intro K w₁ w hK1 hr1 hu1 H1
  replace H := H1
  clear hr1 hK1 hu1 H1
  simp only [List.set_cons_zero] at H
  try walk_nrm
  co_apply OF.nil
  try simp only [thenF]
  co_apply WF.seqP
  co_apply WF.block
  co_apply WF.loopJ (j₀ := 2) (fun (j K : Nat) (y : Gh Role) (a : Act) (w : World) => ∃ (t20 t21 t22 t23 : Value) (code tries was nxt : Int), a = (⟨#[.pointer (some ⟨g, 0, none⟩), .int .u8 1, .int .i64 0, undef, undef, undef, .int .i64 0, .pointer (some ⟨b7, 0, none⟩), .bool false, .pointer (some ⟨g, 0, none⟩), .bool false, .bool false, .int .i64 0, .bool true, .bool false, .pointer (some ⟨g, 0, none⟩), .int .u8 1, .int .i64 0, .agg #[.int .u8 1, .int .i64 0], .agg #[.pointer (some ⟨g, 0, none⟩), .int .u8 1, .int .i64 0, .int .u64 0, .int .u64 0, .bool false, .bool false, .int .i64 0, .int .i64 0], t20, t21, t22, t23, undef, undef, undef], []⟩ : Act) ∧ y.role = .alone sh ∧ Gr ys y ∧
        ((j = 2 ∧ Ctx N F y K w ((b7, #[.pointer (some ⟨g, 0, none⟩), .int .u8 1, .int .i64 0, .int .u64 was, .int .u64 nxt, .bool false, .bool false, .int .i64 code, .int .i64 tries], 106) :: (g, #[.int .i64 d, .int .u64 (wdv (u : Int) e).num], 100) :: l)) ∨
         (j = 1 ∧ Ctx N F y K w ((b7, #[.pointer (some ⟨g, 0, none⟩), .int .u8 1, .int .i64 0, .int .u64 (wdv (u : Int) e).num, .int .u64 (wdv ((u + 1 : Nat) : Int) true).num, .bool true, .bool false, .int .i64 code, .int .i64 tries], 106) :: (g, #[.int .i64 d, .int .u64 (wdv (u : Int) e).num], 100) :: l)) ∨
         (j = 0 ∧ Ctx N F y K w ((b7, #[.pointer (some ⟨g, 0, none⟩), .int .u8 1, .int .i64 0, .int .u64 was, .int .u64 nxt, .bool false, .bool true, .int .i64 code, .int .i64 tries], 106) :: (g, #[.int .i64 d, .int .u64 (wdv ((u + 1 : Nat) : Int) true).num], 100) :: l)))) rr 3
  · exact ⟨_, _, _, _, _, _, _, _, rfl, hr, hg, .inl ⟨rfl, H⟩⟩
  · rintro j K y a w ⟨_, _, _, _, _, _, _, _, _, _, _, h | h | h⟩ <;> omega
  intro j K y a w hKl hI
  obtain ⟨t20, t21, t22, t23, code, tries, was, nxt, rfl, hr, hg, hI⟩ := hI
  rcases hI with ⟨rfl, H⟩ | ⟨rfl, H⟩ | ⟨rfl, H⟩
  · skip
    co_apply WF.more
    · skip
      have hq : y.role.quiet = false := by rw [hr]; rfl
      try simp only [thenF, blockF, if_true, if_false, reduceIte, Nat.reduceEqDiff]
      co_apply WF.seqP
      co_apply WF.seqP
      co_apply WF.region
      try simp only [List.size_toArray, List.length_cons, List.length_nil, Nat.reduceAdd, Nat.zero_add, List.range, List.range.loop]
      co_applyP OF.pu rfl (by rfl) (fun _ => run_eq_of ?run) (fun _ => by simp [go_sem, *])
      case run => intro K hK; go_simp; exact hK
      try walk_nrm
      co_applyP OF.ld1 0 6 rfl (by rfl) rfl H hq rfl rfl rfl Try.underlying4 rfl
      intro K w hK1 hr1 H1
      replace H := H1
      clear hr1 hK1 H1
      try walk_nrm
      co_applyP OF.pu rfl (by rfl) (fun _ => run_eq_of ?run) (fun _ => by simp [go_sem, *])
      case run => intro K hK; go_simp; exact hK
      try walk_nrm
      co_apply OF.nil
      try simp only [thenF]
      co_apply WF.cond (t := true) rfl
      simp only [↓reduceIte]
      co_apply WF.skip
      try simp only [thenF]
      co_apply WF.block
      co_apply WF.region
      try simp only [List.size_toArray, List.length_cons, List.length_nil, Nat.zero_add, List.range, List.range.loop]
      co_applyP OF.callJ rfl (by rfl) rfl
      · walk_nrm
        exact hread sh g b7 d _ _ _ _ u e hu hr H
      rintro _ K' y' w hK1 ⟨rfl, hg1, code', H1⟩
      try walk_nrm
      co_apply OF.nil
      simp only [blockF, thenF]
      exact ⟨1, ⟨_, _, _, _, _, _, 0, 0, rfl, hg1.role.trans hr, hg.trans hg1, .inr (.inl ⟨rfl, H1⟩)⟩, .inr (by omega)⟩
    · first | omega | (simp only [pl_eq]; omega)
  · skip
    co_apply WF.more
    · skip
      have hq : y.role.quiet = false := by rw [hr]; rfl
      try simp only [thenF, blockF, if_true, if_false, reduceIte, Nat.reduceEqDiff]
      co_apply WF.seqP
      co_apply WF.seqP
      co_apply WF.region
      try simp only [List.size_toArray, List.length_cons, List.length_nil, Nat.reduceAdd, Nat.zero_add, List.range, List.range.loop]
      co_applyP OF.pu rfl (by rfl) (fun _ => run_eq_of ?run) (fun _ => by simp [go_sem, *])
      case run => intro K hK; go_simp; exact hK
      try walk_nrm
      co_applyP OF.ld1 0 6 rfl (by rfl) rfl H hq rfl rfl rfl Try.underlying4 rfl
      intro K w hK1 hr1 H1
      replace H := H1
      clear hr1 hK1 H1
      try walk_nrm
      co_applyP OF.pu rfl (by rfl) (fun _ => run_eq_of ?run) (fun _ => by simp [go_sem, *])
      case run => intro K hK; go_simp; exact hK
      try walk_nrm
      co_apply OF.nil
      try simp only [thenF]
      co_apply WF.cond (t := true) rfl
      simp only [↓reduceIte]
      co_apply WF.skip
      try simp only [thenF]
      co_apply WF.block
      co_apply WF.region
      try simp only [List.size_toArray, List.length_cons, List.length_nil, Nat.zero_add, List.range, List.range.loop]
      co_applyP OF.callJ rfl (by rfl) rfl
      · walk_nrm
        exact hput sh g b7 d _ _ _ _ _ _ hr H
      rintro _ K' y' w hK1 ⟨rfl, hg1, tries', H1⟩
      try walk_nrm
      co_apply OF.nil
      simp only [blockF, thenF]
      exact ⟨0, ⟨_, _, _, _, _, _, _, _, rfl, hg1.role.trans hr, hg.trans hg1, .inr (.inr ⟨rfl, H1⟩)⟩, .inr (by omega)⟩
    · first | omega | (simp only [pl_eq]; omega)
  · skip
    co_apply WF.more
    · skip
      have hq : y.role.quiet = false := by rw [hr]; rfl
      try simp only [thenF, blockF, if_true, if_false, reduceIte, Nat.reduceEqDiff]
      co_apply WF.seqP (n₂ := 0)
      co_apply WF.seqP
      co_apply WF.region
      try simp only [List.size_toArray, List.length_cons, List.length_nil, Nat.reduceAdd, Nat.zero_add, List.range, List.range.loop]
      co_applyP OF.pu rfl (by rfl) (fun _ => run_eq_of ?run) (fun _ => by simp [go_sem, *])
      case run => intro K hK; go_simp; exact hK
      try walk_nrm
      co_applyP OF.ld1 0 6 rfl (by rfl) rfl H hq rfl rfl rfl Try.underlying4 rfl
      intro K w hK1 hr1 H1
      replace H := H1
      clear hr1 hK1 H1
      try walk_nrm
      co_applyP OF.pu rfl (by rfl) (fun _ => run_eq_of ?run) (fun _ => by simp [go_sem, *])
      case run => intro K hK; go_simp; exact hK
      try walk_nrm
      co_apply OF.nil
      try simp only [thenF]
      co_apply WF.cond (t := false) rfl
      simp only [Bool.false_eq_true, ↓reduceIte]
      co_apply WF.exit
      try simp only [thenF]
      simp only [blockF, thenF, if_true]
      try simp only [thenF]
      co_apply WF.seqP
      co_apply WF.region
      try simp only [List.size_toArray, List.length_cons, List.length_nil, Nat.reduceAdd, Nat.zero_add, List.range, List.range.loop]
      co_applyP OF.pu rfl (by rfl) (fun _ => run_eq_of ?run) (fun _ => by simp [go_sem, *])
      case run => intro K hK; go_simp; exact hK
      try walk_nrm
      co_applyP OF.pu rfl (by rfl) (fun _ => run_eq_of ?run) (fun _ => by simp [go_sem, *])
      case run => intro K hK; go_simp; exact hK
      try walk_nrm
      co_applyP OF.ld1 0 7 rfl (by rfl) rfl H hq rfl rfl rfl Try.underlying24 rfl
      intro K w hK1 hr1 H1
      replace H := H1
      clear hr1 hK1 H1
      try walk_nrm
      co_applyP OF.pu rfl (by rfl) (fun _ => run_eq_of ?run) (fun _ => by simp [go_sem, *])
      case run => intro K hK; go_simp; exact hK
      try walk_nrm
      co_apply OF.nil
      try simp only [thenF]
      co_apply WF.ret
      exact retG_of rfl (resultsC_tmp (by rfl) _) (fun K₂ hK₂ w₂ r₂ => ⟨by subst hys; exact hg, (H.rely r₂).tail⟩)
    · first | omega | (simp only [pl_eq]; omega)

set_option maxRecDepth 100000 in
theorem o_get : ∃ nf, ∀ {N : Nat} {F : Nat → World → Prop} {m : Bool} {y : Gh Role} {K : Nat} {w : World} {l : List Row} (sh : Nat → Prop) (g : Nat) (d : Int) (u : Nat) (e : Bool) (_ : u < 65535) (_ : y.role = .alone sh) (_ : Ctx N F y K w ((g, #[.int .i64 d, .int .u64 (wdv (u : Int) e).num], 100) :: l)),
    CJ (S N) m 14 #[.pointer (some ⟨g, 0, none⟩), .int .i64 0] nf (fun _ K' y' w' => Gr y y' ∧ Ctx N F y' K' w' ((g, #[.int .i64 d, .int .u64 (wdv ((u + 1 : Nat) : Int) true).num], 100) :: l)) K y w := by
  obtain ⟨nd, hdoes⟩ := odoes_get
  co_apply Exists.intro
  intro N F m y K w l sh g d u e hu hr H
  have hg := Gr.refl y
  have hq : y.role.quiet = false := by rw [hr]; rfl
  co_apply CJ.of_WF Try.func14 (by kernel_rfl) (by rfl)
  simp only [show Try.f14.ntmps = 8 from rfl]
  try walk_nrm
  co_apply WF.seqP
  co_apply WF.region
  try simp only [List.size_toArray, List.length_cons, List.length_nil, Nat.zero_add, List.range, List.range.loop]
  co_applyP OF.pu rfl (by rfl) (fun _ => run_eq_of ?run) (fun _ => by simp [go_sem, *])
  case run => intro K hK; go_simp; exact hK
  try walk_nrm
  co_apply OF.nil
  try simp only [thenF]
  co_apply WF.seqP
  co_apply WF.region
  try simp only [List.size_toArray, List.length_cons, List.length_nil, Nat.reduceAdd, Nat.zero_add, List.range, List.range.loop]
  co_applyP OF.pu rfl (by rfl) (fun _ => run_eq_of ?run) (fun _ => by simp [go_sem, *])
  case run => intro K hK; go_simp; exact hK
  try walk_nrm
  co_applyP OF.pu rfl (by rfl) (fun _ => run_eq_of ?run) (fun _ => by simp [go_sem, *])
  case run => intro K hK; go_simp; exact hK
  try walk_nrm
  co_applyP OF.callJ rfl (by rfl) rfl
  · walk_nrm
    exact hdoes sh g d u e hu hr H
  rintro v K y' w hK1 ⟨hg1, H1⟩
  replace H := H1
  clear H1
  try walk_nrm
  co_applyP OF.pu rfl (by rfl) (fun _ => run_eq_of ?run) (fun _ => by simp [go_sem, *])
  case run => intro K hK; go_simp; exact hK
  try walk_nrm
  co_apply OF.nil
  try simp only [thenF]
  co_apply WF.ret
  exact retG_of rfl (resultsC_tmp (by rfl) _) (fun K₂ hK₂ w₂ r₂ => ⟨hg1, H.rely r₂⟩)

set_option maxHeartbeats 8000000 in
set_option maxRecDepth 100000 in
theorem odoes_sweep_same : ∃ nf, ∀ {N : Nat} {F : Nat → World → Prop} {m : Bool} {y : Gh Role} {K : Nat} {w : World} {l : List Row} (sh : Nat → Prop) (g : Nat) (d : Int) (u : Nat) (e : Bool) (_ : u < 65535) (_ : 0 < u ∨ e = false) (_ : y.role = .alone sh) (_ : Ctx N F y K w ((g, #[.int .i64 d, .int .u64 (wdv (u : Int) e).num], 100) :: l)),
    CJ (S N) m 42 #[.pointer (some ⟨g, 0, none⟩), .int .u8 3, .int .i64 2147483647] nf (fun _ K' y' w' => Gr y y' ∧ Ctx N F y' K' w' ((g, #[.int .i64 d, .int .u64 (wdv (u : Int) e).num], 100) :: l)) K y w := by
  obtain ⟨nt, htick⟩ := tick_0
  obtain ⟨nr, hread⟩ := osweep_same
  obtain ⟨np, hput⟩ := oput
  obtain ⟨rr, hrr⟩ : ∃ rr, 60 + nr + np ≤ rr := ⟨_, Nat.le_refl _⟩
  co_apply Exists.intro
  intro N F m y K w l sh g d u e hu hu2 hr H
  obtain ⟨ys, hys⟩ : ∃ ys, ys = y := ⟨y, rfl⟩
  have hg : Gr ys y := by rw [hys]; exact Gr.refl y
  have hq : y.role.quiet = false := by rw [hr]; rfl
  co_apply CJ.of_WF Try.func42 (by kernel_rfl) (by rfl)
  simp only [show Try.f42.ntmps = 27 from rfl]
  try walk_nrm
  co_apply WF.seqP
  co_apply WF.region
  try simp only [List.size_toArray, List.length_cons, List.length_nil, Nat.zero_add, List.range, List.range.loop]
  co_applyP OF.pu rfl (by rfl) (fun _ => run_eq_of ?run) (fun _ => by simp [go_sem, *])
  case run => intro K hK; go_simp; exact hK
  try walk_nrm
  co_apply OF.nil
  try simp only [thenF]
  co_apply WF.seqP
  co_apply WF.block
  co_apply WF.seqP
  co_apply WF.region
  try simp only [List.size_toArray, List.length_cons, List.length_nil, Nat.reduceAdd, Nat.zero_add, List.range, List.range.loop]
  co_applyP OF.pu rfl (by rfl) (fun _ => run_eq_of ?run) (fun _ => by simp [go_sem, *])
  case run => intro K hK; go_simp; exact hK
  try walk_nrm
  co_applyP OF.pu (v := .bool false) rfl (by rfl) (fun _ => by kernel_rfl) (fun _ => by kernel_rfl)
  try walk_nrm
  co_applyP OF.pu rfl (by rfl) (fun _ => run_eq_of ?run) (fun _ => by simp [go_sem, *])
  case run => intro K hK; go_simp; exact hK
  try walk_nrm
  co_apply OF.nil
  try simp only [thenF]
  co_apply WF.cond (t := false) rfl
  simp only [Bool.false_eq_true, ↓reduceIte]
  co_apply WF.seqP
  co_apply WF.region
  try simp only [List.size_toArray, List.length_cons, List.length_nil, Nat.reduceAdd, Nat.zero_add, List.range, List.range.loop]
  co_applyP OF.pu rfl (by rfl) (fun _ => run_eq_of ?run) (fun _ => by simp [go_sem, *])
  case run => intro K hK; go_simp; exact hK
  try walk_nrm
  co_applyP OF.callJ rfl (by rfl) rfl
  · walk_nrm
    exact htick 2147483647 (by omega) (by omega) H hq
  rintro _ K y' w hK1 ⟨rfl, hg1, H1⟩
  replace hg := hg.trans hg1
  replace hr := hg1.role.trans hr
  have hq1 : y'.role.quiet = false := by rw [hr]; rfl
  replace hq := hq1
  replace H := H1
  clear hg1 H1 hq1 hK1
  try walk_nrm
  co_applyP OF.pu rfl (by rfl) (fun _ => run_eq_of ?run) (fun _ => by simp [go_sem, *])
  case run => intro K hK; go_simp; exact hK
  try walk_nrm
  co_applyP OF.pu rfl (by rfl) (fun _ => run_eq_of ?run) (fun _ => by simp [go_sem, *])
  case run => intro K hK; go_simp; exact hK
  try walk_nrm
  co_apply OF.nil
  try simp only [thenF]
  co_apply WF.cond (t := false) rfl
  simp only [Bool.false_eq_true, ↓reduceIte]
  co_apply WF.skip
  simp only [blockF, thenF]
  try simp only [thenF]
  co_apply WF.seqP
  co_apply WF.region
  try simp only [List.size_toArray, List.length_cons, List.length_nil, Nat.reduceAdd, Nat.zero_add, List.range, List.range.loop]
  co_applyP OF.pu rfl (by rfl) (fun _ => run_eq_of ?run) (fun _ => by simp [go_sem, *])
  case run => intro K hK; go_simp; exact hK
  try walk_nrm
  co_applyP OF.pu rfl (by rfl) (fun _ => run_eq_of ?run) (fun _ => by simp [go_sem, *])
  case run => intro K hK; go_simp; exact hK
  try walk_nrm
  co_applyP OF.pu rfl (by rfl) (fun _ => run_eq_of ?run) (fun _ => by simp [go_sem, *])
  case run => intro K hK; go_simp; exact hK
  try walk_nrm
  co_applyP OF.pu rfl (by rfl) (fun _ => run_eq_of ?run) (fun _ => by simp [go_sem, *])
  case run => intro K hK; go_simp; exact hK
  try walk_nrm
  co_applyP OF.pu rfl (by rfl) (fun _ => run_eq_of ?run) (fun _ => by simp [go_sem, *])
  case run => intro K hK; go_simp; exact hK
  try walk_nrm
  co_applyP OF.al rfl (by rfl) H hq (fun _ => run_eq_of ?run) (fun _ => by simp [go_sem, *])
  case run => intro K hK; go_simp; exact hK
  intro K w₁ y' w b7 hK1 hr1 hg1 hq1 hb1 hw1 H1
  replace hg := hg.trans hg1
  replace hr := hg1.role.trans hr
  replace hq := hq1
  replace H := H1
  clear hb1 hw1 hr1 hK1 hg1 hq1 H1
  try walk_nrm
  co_applyP OF.str 0 rfl (by rfl) rfl H hq rfl rfl rfl (by kernel_rfl) (by rfl) (by kernel_rfl)
  intro K w₁ w hK1 hr1 hu1 H1
  replace H := H1
  clear hr1 hK1 hu1 H1
  simp only [List.set_cons_zero] at H
  try walk_nrm
  co_apply OF.nil
  try simp only [thenF]
  co_apply WF.seqP
  co_apply WF.block
  co_apply WF.loopJ (j₀ := 2) (fun (j K : Nat) (y : Gh Role) (a : Act) (w : World) => ∃ (t20 t21 t22 t23 : Value) (code tries was nxt : Int), a = (⟨#[.pointer (some ⟨g, 0, none⟩), .int .u8 3, .int .i64 2147483647, undef, undef, undef, .int .i64 0, .pointer (some ⟨b7, 0, none⟩), .bool false, .pointer (some ⟨g, 0, none⟩), .bool false, .bool false, .int .i64 2147483647, .bool true, .bool false, .pointer (some ⟨g, 0, none⟩), .int .u8 3, .int .i64 2147483647, .agg #[.int .u8 3, .int .i64 2147483647], .agg #[.pointer (some ⟨g, 0, none⟩), .int .u8 3, .int .i64 2147483647, .int .u64 0, .int .u64 0, .bool false, .bool false, .int .i64 0, .int .i64 0], t20, t21, t22, t23, undef, undef, undef], []⟩ : Act) ∧ y.role = .alone sh ∧ Gr ys y ∧
        ((j = 2 ∧ Ctx N F y K w ((b7, #[.pointer (some ⟨g, 0, none⟩), .int .u8 3, .int .i64 2147483647, .int .u64 was, .int .u64 nxt, .bool false, .bool false, .int .i64 code, .int .i64 tries], 106) :: (g, #[.int .i64 d, .int .u64 (wdv (u : Int) e).num], 100) :: l)) ∨
         (j = 1 ∧ Ctx N F y K w ((b7, #[.pointer (some ⟨g, 0, none⟩), .int .u8 3, .int .i64 2147483647, .int .u64 (wdv (u : Int) e).num, .int .u64 (wdv (u : Int) e).num, .bool true, .bool false, .int .i64 code, .int .i64 tries], 106) :: (g, #[.int .i64 d, .int .u64 (wdv (u : Int) e).num], 100) :: l)) ∨
         (j = 0 ∧ Ctx N F y K w ((b7, #[.pointer (some ⟨g, 0, none⟩), .int .u8 3, .int .i64 2147483647, .int .u64 was, .int .u64 nxt, .bool false, .bool true, .int .i64 code, .int .i64 tries], 106) :: (g, #[.int .i64 d, .int .u64 (wdv (u : Int) e).num], 100) :: l)))) rr 3
  · exact ⟨_, _, _, _, _, _, _, _, rfl, hr, hg, .inl ⟨rfl, H⟩⟩
  · rintro j K y a w ⟨_, _, _, _, _, _, _, _, _, _, _, h | h | h⟩ <;> omega
  intro j K y a w hKl hI
  obtain ⟨t20, t21, t22, t23, code, tries, was, nxt, rfl, hr, hg, hI⟩ := hI
  rcases hI with ⟨rfl, H⟩ | ⟨rfl, H⟩ | ⟨rfl, H⟩
  · skip
    co_apply WF.more
    · skip
      have hq : y.role.quiet = false := by rw [hr]; rfl
      try simp only [thenF, blockF, if_true, if_false, reduceIte, Nat.reduceEqDiff]
      co_apply WF.seqP
      co_apply WF.seqP
      co_apply WF.region
      try simp only [List.size_toArray, List.length_cons, List.length_nil, Nat.reduceAdd, Nat.zero_add, List.range, List.range.loop]
      co_applyP OF.pu rfl (by rfl) (fun _ => run_eq_of ?run) (fun _ => by simp [go_sem, *])
      case run => intro K hK; go_simp; exact hK
      try walk_nrm
      co_applyP OF.ld1 0 6 rfl (by rfl) rfl H hq rfl rfl rfl Try.underlying4 rfl
      intro K w hK1 hr1 H1
      replace H := H1
      clear hr1 hK1 H1
      try walk_nrm
      co_applyP OF.pu rfl (by rfl) (fun _ => run_eq_of ?run) (fun _ => by simp [go_sem, *])
      case run => intro K hK; go_simp; exact hK
      try walk_nrm
      co_apply OF.nil
      try simp only [thenF]
      co_apply WF.cond (t := true) rfl
      simp only [↓reduceIte]
      co_apply WF.skip
      try simp only [thenF]
      co_apply WF.block
      co_apply WF.region
      try simp only [List.size_toArray, List.length_cons, List.length_nil, Nat.zero_add, List.range, List.range.loop]
      co_applyP OF.callJ rfl (by rfl) rfl
      · walk_nrm
        exact hread sh g b7 d _ _ _ _ u e hu hu2 hr H
      rintro _ K' y' w hK1 ⟨rfl, hg1, code', H1⟩
      try walk_nrm
      co_apply OF.nil
      simp only [blockF, thenF]
      exact ⟨0, ⟨_, _, _, _, _, _, _, _, rfl, hg1.role.trans hr, hg.trans hg1, .inr (.inr ⟨rfl, H1⟩)⟩, .inr (by omega)⟩
    · first | omega | (simp only [pl_eq]; omega)
  · skip
    co_apply WF.more
    · skip
      have hq : y.role.quiet = false := by rw [hr]; rfl
      try simp only [thenF, blockF, if_true, if_false, reduceIte, Nat.reduceEqDiff]
      co_apply WF.seqP
      co_apply WF.seqP
      co_apply WF.region
      try simp only [List.size_toArray, List.length_cons, List.length_nil, Nat.reduceAdd, Nat.zero_add, List.range, List.range.loop]
      co_applyP OF.pu rfl (by rfl) (fun _ => run_eq_of ?run) (fun _ => by simp [go_sem, *])
      case run => intro K hK; go_simp; exact hK
      try walk_nrm
      co_applyP OF.ld1 0 6 rfl (by rfl) rfl H hq rfl rfl rfl Try.underlying4 rfl
      intro K w hK1 hr1 H1
      replace H := H1
      clear hr1 hK1 H1
      try walk_nrm
      co_applyP OF.pu rfl (by rfl) (fun _ => run_eq_of ?run) (fun _ => by simp [go_sem, *])
      case run => intro K hK; go_simp; exact hK
      try walk_nrm
      co_apply OF.nil
      try simp only [thenF]
      co_apply WF.cond (t := true) rfl
      simp only [↓reduceIte]
      co_apply WF.skip
      try simp only [thenF]
      co_apply WF.block
      co_apply WF.region
      try simp only [List.size_toArray, List.length_cons, List.length_nil, Nat.zero_add, List.range, List.range.loop]
      co_applyP OF.callJ rfl (by rfl) rfl
      · walk_nrm
        exact hput sh g b7 d _ _ _ _ _ _ hr H
      rintro _ K' y' w hK1 ⟨rfl, hg1, tries', H1⟩
      try walk_nrm
      co_apply OF.nil
      simp only [blockF, thenF]
      exact ⟨0, ⟨_, _, _, _, _, _, _, _, rfl, hg1.role.trans hr, hg.trans hg1, .inr (.inr ⟨rfl, H1⟩)⟩, .inr (by omega)⟩
    · first | omega | (simp only [pl_eq]; omega)
  · skip
    co_apply WF.more
    · skip
      have hq : y.role.quiet = false := by rw [hr]; rfl
      try simp only [thenF, blockF, if_true, if_false, reduceIte, Nat.reduceEqDiff]
      co_apply WF.seqP (n₂ := 0)
      co_apply WF.seqP
      co_apply WF.region
      try simp only [List.size_toArray, List.length_cons, List.length_nil, Nat.reduceAdd, Nat.zero_add, List.range, List.range.loop]
      co_applyP OF.pu rfl (by rfl) (fun _ => run_eq_of ?run) (fun _ => by simp [go_sem, *])
      case run => intro K hK; go_simp; exact hK
      try walk_nrm
      co_applyP OF.ld1 0 6 rfl (by rfl) rfl H hq rfl rfl rfl Try.underlying4 rfl
      intro K w hK1 hr1 H1
      replace H := H1
      clear hr1 hK1 H1
      try walk_nrm
      co_applyP OF.pu rfl (by rfl) (fun _ => run_eq_of ?run) (fun _ => by simp [go_sem, *])
      case run => intro K hK; go_simp; exact hK
      try walk_nrm
      co_apply OF.nil
      try simp only [thenF]
      co_apply WF.cond (t := false) rfl
      simp only [Bool.false_eq_true, ↓reduceIte]
      co_apply WF.exit
      try simp only [thenF]
      simp only [blockF, thenF, if_true]
      try simp only [thenF]
      co_apply WF.seqP
      co_apply WF.region
      try simp only [List.size_toArray, List.length_cons, List.length_nil, Nat.reduceAdd, Nat.zero_add, List.range, List.range.loop]
      co_applyP OF.pu rfl (by rfl) (fun _ => run_eq_of ?run) (fun _ => by simp [go_sem, *])
      case run => intro K hK; go_simp; exact hK
      try walk_nrm
      co_applyP OF.pu rfl (by rfl) (fun _ => run_eq_of ?run) (fun _ => by simp [go_sem, *])
      case run => intro K hK; go_simp; exact hK
      try walk_nrm
      co_applyP OF.ld1 0 7 rfl (by rfl) rfl H hq rfl rfl rfl Try.underlying24 rfl
      intro K w hK1 hr1 H1
      replace H := H1
      clear hr1 hK1 H1
      try walk_nrm
      co_applyP OF.pu rfl (by rfl) (fun _ => run_eq_of ?run) (fun _ => by simp [go_sem, *])
      case run => intro K hK; go_simp; exact hK
      try walk_nrm
      co_apply OF.nil
      try simp only [thenF]
      co_apply WF.ret
      exact retG_of rfl (resultsC_tmp (by rfl) _) (fun K₂ hK₂ w₂ r₂ => ⟨by subst hys; exact hg, (H.rely r₂).tail⟩)
    · first | omega | (simp only [pl_eq]; omega)

set_option maxRecDepth 100000 in
theorem o_sweep_same : ∃ nf, ∀ {N : Nat} {F : Nat → World → Prop} {m : Bool} {y : Gh Role} {K : Nat} {w : World} {l : List Row} (sh : Nat → Prop) (g : Nat) (d : Int) (u : Nat) (e : Bool) (_ : u < 65535) (_ : 0 < u ∨ e = false) (_ : y.role = .alone sh) (_ : Ctx N F y K w ((g, #[.int .i64 d, .int .u64 (wdv (u : Int) e).num], 100) :: l)),
    CJ (S N) m 16 #[.pointer (some ⟨g, 0, none⟩), .int .i64 2147483647] nf (fun _ K' y' w' => Gr y y' ∧ Ctx N F y' K' w' ((g, #[.int .i64 d, .int .u64 (wdv (u : Int) e).num], 100) :: l)) K y w := by
  obtain ⟨nd, hdoes⟩ := odoes_sweep_same
  co_apply Exists.intro
  intro N F m y K w l sh g d u e hu hu2 hr H
  have hg := Gr.refl y
  have hq : y.role.quiet = false := by rw [hr]; rfl
  co_apply CJ.of_WF Try.func16 (by kernel_rfl) (by rfl)
  simp only [show Try.f16.ntmps = 8 from rfl]
  try walk_nrm
  co_apply WF.seqP
  co_apply WF.region
  try simp only [List.size_toArray, List.length_cons, List.length_nil, Nat.zero_add, List.range, List.range.loop]
  co_applyP OF.pu rfl (by rfl) (fun _ => run_eq_of ?run) (fun _ => by simp [go_sem, *])
  case run => intro K hK; go_simp; exact hK
  try walk_nrm
  co_apply OF.nil
  try simp only [thenF]
  co_apply WF.seqP
  co_apply WF.region
  try simp only [List.size_toArray, List.length_cons, List.length_nil, Nat.reduceAdd, Nat.zero_add, List.range, List.range.loop]
  co_applyP OF.pu rfl (by rfl) (fun _ => run_eq_of ?run) (fun _ => by simp [go_sem, *])
  case run => intro K hK; go_simp; exact hK
  try walk_nrm
  co_applyP OF.pu rfl (by rfl) (fun _ => run_eq_of ?run) (fun _ => by simp [go_sem, *])
  case run => intro K hK; go_simp; exact hK
  try walk_nrm
  co_applyP OF.callJ rfl (by rfl) rfl
  · walk_nrm
    exact hdoes sh g d u e hu hu2 hr H
  rintro v K y' w hK1 ⟨hg1, H1⟩
  replace H := H1
  clear H1
  try walk_nrm
  co_applyP OF.pu rfl (by rfl) (fun _ => run_eq_of ?run) (fun _ => by simp [go_sem, *])
  case run => intro K hK; go_simp; exact hK
  try walk_nrm
  co_apply OF.nil
  try simp only [thenF]
  co_apply WF.ret
  exact retG_of rfl (resultsC_tmp (by rfl) _) (fun K₂ hK₂ w₂ r₂ => ⟨hg1, H.rely r₂⟩)

set_option maxHeartbeats 8000000 in
set_option maxRecDepth 100000 in
theorem odoes_sweep_0 : ∃ nf, ∀ {N : Nat} {F : Nat → World → Prop} {m : Bool} {y : Gh Role} {K : Nat} {w : World} {l : List Row} (sh : Nat → Prop) (g : Nat) (d : Int) (_ : 0 ≤ d ∧ d ≤ 2147483647) (_ : y.role = .alone sh) (_ : Ctx N F y K w ((g, #[.int .i64 d, .int .u64 (wdv ((0 : Nat) : Int) true).num], 100) :: l)),
    CJ (S N) m 42 #[.pointer (some ⟨g, 0, none⟩), .int .u8 3, .int .i64 2147483647] nf (fun _ K' y' w' => Gr y y' ∧ Ctx N F y' K' w' ((g, #[.int .i64 d, .int .u64 slept.num], 100) :: l)) K y w := by
  obtain ⟨nt, htick⟩ := tick_0
  obtain ⟨nr, hread⟩ := osweep_0
  obtain ⟨np, hput⟩ := oput
  obtain ⟨rr, hrr⟩ : ∃ rr, 60 + nr + np ≤ rr := ⟨_, Nat.le_refl _⟩
  co_apply Exists.intro
  intro N F m y K w l sh g d hd hr H
  obtain ⟨ys, hys⟩ : ∃ ys, ys = y := ⟨y, rfl⟩
  have hg : Gr ys y := by rw [hys]; exact Gr.refl y
  have hq : y.role.quiet = false := by rw [hr]; rfl
  co_apply CJ.of_WF Try.func42 (by kernel_rfl) (by rfl)
  simp only [show Try.f42.ntmps = 27 from rfl]
  try walk_nrm
  co_apply WF.seqP
  co_apply WF.region
  try simp only [List.size_toArray, List.length_cons, List.length_nil, Nat.zero_add, List.range, List.range.loop]
  co_applyP OF.pu rfl (by rfl) (fun _ => run_eq_of ?run) (fun _ => by simp [go_sem, *])
  case run => intro K hK; go_simp; exact hK
  try walk_nrm
  co_apply OF.nil
  try simp only [thenF]
  co_apply WF.seqP
  co_apply WF.block
  co_apply WF.seqP
  co_apply WF.region
  try simp only [List.size_toArray, List.length_cons, List.length_nil, Nat.reduceAdd, Nat.zero_add, List.range, List.range.loop]
  co_applyP OF.pu rfl (by rfl) (fun _ => run_eq_of ?run) (fun _ => by simp [go_sem, *])
  case run => intro K hK; go_simp; exact hK
  try walk_nrm
  co_applyP OF.pu (v := .bool false) rfl (by rfl) (fun _ => by kernel_rfl) (fun _ => by kernel_rfl)
  try walk_nrm
  co_applyP OF.pu rfl (by rfl) (fun _ => run_eq_of ?run) (fun _ => by simp [go_sem, *])
  case run => intro K hK; go_simp; exact hK
  try walk_nrm
  co_apply OF.nil
  try simp only [thenF]
  co_apply WF.cond (t := false) rfl
  simp only [Bool.false_eq_true, ↓reduceIte]
  co_apply WF.seqP
  co_apply WF.region
  try simp only [List.size_toArray, List.length_cons, List.length_nil, Nat.reduceAdd, Nat.zero_add, List.range, List.range.loop]
  co_applyP OF.pu rfl (by rfl) (fun _ => run_eq_of ?run) (fun _ => by simp [go_sem, *])
  case run => intro K hK; go_simp; exact hK
  try walk_nrm
  co_applyP OF.callJ rfl (by rfl) rfl
  · walk_nrm
    exact htick 2147483647 (by omega) (by omega) H hq
  rintro _ K y' w hK1 ⟨rfl, hg1, H1⟩
  replace hg := hg.trans hg1
  replace hr := hg1.role.trans hr
  have hq1 : y'.role.quiet = false := by rw [hr]; rfl
  replace hq := hq1
  replace H := H1
  clear hg1 H1 hq1 hK1
  try walk_nrm
  co_applyP OF.pu rfl (by rfl) (fun _ => run_eq_of ?run) (fun _ => by simp [go_sem, *])
  case run => intro K hK; go_simp; exact hK
  try walk_nrm
  co_applyP OF.pu rfl (by rfl) (fun _ => run_eq_of ?run) (fun _ => by simp [go_sem, *])
  case run => intro K hK; go_simp; exact hK
  try walk_nrm
  co_apply OF.nil
  try simp only [thenF]
  co_apply WF.cond (t := false) rfl
  simp only [Bool.false_eq_true, ↓reduceIte]
  co_apply WF.skip
  simp only [blockF, thenF]
  try simp only [thenF]
  co_apply WF.seqP
  co_apply WF.region
  try simp only [List.size_toArray, List.length_cons, List.length_nil, Nat.reduceAdd, Nat.zero_add, List.range, List.range.loop]
  co_applyP OF.pu rfl (by rfl) (fun _ => run_eq_of ?run) (fun _ => by simp [go_sem, *])
  case run => intro K hK; go_simp; exact hK
  try walk_nrm
  co_applyP OF.pu rfl (by rfl) (fun _ => run_eq_of ?run) (fun _ => by simp [go_sem, *])
  case run => intro K hK; go_simp; exact hK
  try walk_nrm
  co_applyP OF.pu rfl (by rfl) (fun _ => run_eq_of ?run) (fun _ => by simp [go_sem, *])
  case run => intro K hK; go_simp; exact hK
  try walk_nrm
  co_applyP OF.pu rfl (by rfl) (fun _ => run_eq_of ?run) (fun _ => by simp [go_sem, *])
  case run => intro K hK; go_simp; exact hK
  try walk_nrm
  co_applyP OF.pu rfl (by rfl) (fun _ => run_eq_of ?run) (fun _ => by simp [go_sem, *])
  case run => intro K hK; go_simp; exact hK
  try walk_nrm
  co_applyP OF.al rfl (by rfl) H hq (fun _ => run_eq_of ?run) (fun _ => by simp [go_sem, *])
  case run => intro K hK; go_simp; exact hK
  intro K w₁ y' w b7 hK1 hr1 hg1 hq1 hb1 hw1 H1
  replace hg := hg.trans hg1
  replace hr := hg1.role.trans hr
  replace hq := hq1
  replace H := H1
  clear hb1 hw1 hr1 hK1 hg1 hq1 H1
  try walk_nrm
  co_applyP OF.str 0 rfl (by rfl) rfl H hq rfl rfl rfl (by kernel_rfl) (by rfl) (by kernel_rfl)
  intro K w₁ w hK1 hr1 hu1 H1
  replace H := H1
  clear hr1 hK1 hu1 H1
  simp only [List.set_cons_zero] at H
  try walk_nrm
  co_apply OF.nil
  try simp only [thenF]
  co_apply WF.seqP
  co_apply WF.block
  co_apply WF.loopJ (j₀ := 2) (fun (j K : Nat) (y : Gh Role) (a : Act) (w : World) => ∃ (t20 t21 t22 t23 : Value) (code tries was nxt : Int), a = (⟨#[.pointer (some ⟨g, 0, none⟩), .int .u8 3, .int .i64 2147483647, undef, undef, undef, .int .i64 0, .pointer (some ⟨b7, 0, none⟩), .bool false, .pointer (some ⟨g, 0, none⟩), .bool false, .bool false, .int .i64 2147483647, .bool true, .bool false, .pointer (some ⟨g, 0, none⟩), .int .u8 3, .int .i64 2147483647, .agg #[.int .u8 3, .int .i64 2147483647], .agg #[.pointer (some ⟨g, 0, none⟩), .int .u8 3, .int .i64 2147483647, .int .u64 0, .int .u64 0, .bool false, .bool false, .int .i64 0, .int .i64 0], t20, t21, t22, t23, undef, undef, undef], []⟩ : Act) ∧ y.role = .alone sh ∧ Gr ys y ∧
        ((j = 2 ∧ Ctx N F y K w ((b7, #[.pointer (some ⟨g, 0, none⟩), .int .u8 3, .int .i64 2147483647, .int .u64 was, .int .u64 nxt, .bool false, .bool false, .int .i64 code, .int .i64 tries], 106) :: (g, #[.int .i64 d, .int .u64 (wdv ((0 : Nat) : Int) true).num], 100) :: l)) ∨
         (j = 1 ∧ Ctx N F y K w ((b7, #[.pointer (some ⟨g, 0, none⟩), .int .u8 3, .int .i64 2147483647, .int .u64 (wdv ((0 : Nat) : Int) true).num, .int .u64 slept.num, .bool true, .bool false, .int .i64 code, .int .i64 tries], 106) :: (g, #[.int .i64 d, .int .u64 (wdv ((0 : Nat) : Int) true).num], 100) :: l)) ∨
         (j = 0 ∧ Ctx N F y K w ((b7, #[.pointer (some ⟨g, 0, none⟩), .int .u8 3, .int .i64 2147483647, .int .u64 was, .int .u64 nxt, .bool false, .bool true, .int .i64 code, .int .i64 tries], 106) :: (g, #[.int .i64 d, .int .u64 slept.num], 100) :: l)))) rr 3
  · exact ⟨_, _, _, _, _, _, _, _, rfl, hr, hg, .inl ⟨rfl, H⟩⟩
  · rintro j K y a w ⟨_, _, _, _, _, _, _, _, _, _, _, h | h | h⟩ <;> omega
  intro j K y a w hKl hI
  obtain ⟨t20, t21, t22, t23, code, tries, was, nxt, rfl, hr, hg, hI⟩ := hI
  rcases hI with ⟨rfl, H⟩ | ⟨rfl, H⟩ | ⟨rfl, H⟩
  · skip
    co_apply WF.more
    · skip
      have hq : y.role.quiet = false := by rw [hr]; rfl
      try simp only [thenF, blockF, if_true, if_false, reduceIte, Nat.reduceEqDiff]
      co_apply WF.seqP
      co_apply WF.seqP
      co_apply WF.region
      try simp only [List.size_toArray, List.length_cons, List.length_nil, Nat.reduceAdd, Nat.zero_add, List.range, List.range.loop]
      co_applyP OF.pu rfl (by rfl) (fun _ => run_eq_of ?run) (fun _ => by simp [go_sem, *])
      case run => intro K hK; go_simp; exact hK
      try walk_nrm
      co_applyP OF.ld1 0 6 rfl (by rfl) rfl H hq rfl rfl rfl Try.underlying4 rfl
      intro K w hK1 hr1 H1
      replace H := H1
      clear hr1 hK1 H1
      try walk_nrm
      co_applyP OF.pu rfl (by rfl) (fun _ => run_eq_of ?run) (fun _ => by simp [go_sem, *])
      case run => intro K hK; go_simp; exact hK
      try walk_nrm
      co_apply OF.nil
      try simp only [thenF]
      co_apply WF.cond (t := true) rfl
      simp only [↓reduceIte]
      co_apply WF.skip
      try simp only [thenF]
      co_apply WF.block
      co_apply WF.region
      try simp only [List.size_toArray, List.length_cons, List.length_nil, Nat.zero_add, List.range, List.range.loop]
      co_applyP OF.callJ rfl (by rfl) rfl
      · walk_nrm
        exact hread sh g b7 d _ _ _ _ hd hr H
      rintro _ K' y' w hK1 ⟨rfl, hg1, code', H1⟩
      try walk_nrm
      co_apply OF.nil
      simp only [blockF, thenF]
      exact ⟨1, ⟨_, _, _, _, _, _, 0, 0, rfl, hg1.role.trans hr, hg.trans hg1, .inr (.inl ⟨rfl, H1⟩)⟩, .inr (by omega)⟩
    · first | omega | (simp only [pl_eq]; omega)
  · skip
    co_apply WF.more
    · skip
      have hq : y.role.quiet = false := by rw [hr]; rfl
      try simp only [thenF, blockF, if_true, if_false, reduceIte, Nat.reduceEqDiff]
      co_apply WF.seqP
      co_apply WF.seqP
      co_apply WF.region
      try simp only [List.size_toArray, List.length_cons, List.length_nil, Nat.reduceAdd, Nat.zero_add, List.range, List.range.loop]
      co_applyP OF.pu rfl (by rfl) (fun _ => run_eq_of ?run) (fun _ => by simp [go_sem, *])
      case run => intro K hK; go_simp; exact hK
      try walk_nrm
      co_applyP OF.ld1 0 6 rfl (by rfl) rfl H hq rfl rfl rfl Try.underlying4 rfl
      intro K w hK1 hr1 H1
      replace H := H1
      clear hr1 hK1 H1
      try walk_nrm
      co_applyP OF.pu rfl (by rfl) (fun _ => run_eq_of ?run) (fun _ => by simp [go_sem, *])
      case run => intro K hK; go_simp; exact hK
      try walk_nrm
      co_apply OF.nil
      try simp only [thenF]
      co_apply WF.cond (t := true) rfl
      simp only [↓reduceIte]
      co_apply WF.skip
      try simp only [thenF]
      co_apply WF.block
      co_apply WF.region
      try simp only [List.size_toArray, List.length_cons, List.length_nil, Nat.zero_add, List.range, List.range.loop]
      co_applyP OF.callJ rfl (by rfl) rfl
      · walk_nrm
        exact hput sh g b7 d _ _ _ _ _ _ hr H
      rintro _ K' y' w hK1 ⟨rfl, hg1, tries', H1⟩
      try walk_nrm
      co_apply OF.nil
      simp only [blockF, thenF]
      exact ⟨0, ⟨_, _, _, _, _, _, _, _, rfl, hg1.role.trans hr, hg.trans hg1, .inr (.inr ⟨rfl, H1⟩)⟩, .inr (by omega)⟩
    · first | omega | (simp only [pl_eq]; omega)
  · skip
    co_apply WF.more
    · skip
      have hq : y.role.quiet = false := by rw [hr]; rfl
      try simp only [thenF, blockF, if_true, if_false, reduceIte, Nat.reduceEqDiff]
      co_apply WF.seqP (n₂ := 0)
      co_apply WF.seqP
      co_apply WF.region
      try simp only [List.size_toArray, List.length_cons, List.length_nil, Nat.reduceAdd, Nat.zero_add, List.range, List.range.loop]
      co_applyP OF.pu rfl (by rfl) (fun _ => run_eq_of ?run) (fun _ => by simp [go_sem, *])
      case run => intro K hK; go_simp; exact hK
      try walk_nrm
      co_applyP OF.ld1 0 6 rfl (by rfl) rfl H hq rfl rfl rfl Try.underlying4 rfl
      intro K w hK1 hr1 H1
      replace H := H1
      clear hr1 hK1 H1
      try walk_nrm
      co_applyP OF.pu rfl (by rfl) (fun _ => run_eq_of ?run) (fun _ => by simp [go_sem, *])
      case run => intro K hK; go_simp; exact hK
      try walk_nrm
      co_apply OF.nil
      try simp only [thenF]
      co_apply WF.cond (t := false) rfl
      simp only [Bool.false_eq_true, ↓reduceIte]
      co_apply WF.exit
      try simp only [thenF]
      simp only [blockF, thenF, if_true]
      try simp only [thenF]
      co_apply WF.seqP
      co_apply WF.region
      try simp only [List.size_toArray, List.length_cons, List.length_nil, Nat.reduceAdd, Nat.zero_add, List.range, List.range.loop]
      co_applyP OF.pu rfl (by rfl) (fun _ => run_eq_of ?run) (fun _ => by simp [go_sem, *])
      case run => intro K hK; go_simp; exact hK
      try walk_nrm
      co_applyP OF.pu rfl (by rfl) (fun _ => run_eq_of ?run) (fun _ => by simp [go_sem, *])
      case run => intro K hK; go_simp; exact hK
      try walk_nrm
      co_applyP OF.ld1 0 7 rfl (by rfl) rfl H hq rfl rfl rfl Try.underlying24 rfl
      intro K w hK1 hr1 H1
      replace H := H1
      clear hr1 hK1 H1
      try walk_nrm
      co_applyP OF.pu rfl (by rfl) (fun _ => run_eq_of ?run) (fun _ => by simp [go_sem, *])
      case run => intro K hK; go_simp; exact hK
      try walk_nrm
      co_apply OF.nil
      try simp only [thenF]
      co_apply WF.ret
      exact retG_of rfl (resultsC_tmp (by rfl) _) (fun K₂ hK₂ w₂ r₂ => ⟨by subst hys; exact hg, (H.rely r₂).tail⟩)
    · first | omega | (simp only [pl_eq]; omega)

set_option maxRecDepth 100000 in
theorem o_sweep_0 : ∃ nf, ∀ {N : Nat} {F : Nat → World → Prop} {m : Bool} {y : Gh Role} {K : Nat} {w : World} {l : List Row} (sh : Nat → Prop) (g : Nat) (d : Int) (_ : 0 ≤ d ∧ d ≤ 2147483647) (_ : y.role = .alone sh) (_ : Ctx N F y K w ((g, #[.int .i64 d, .int .u64 (wdv ((0 : Nat) : Int) true).num], 100) :: l)),
    CJ (S N) m 16 #[.pointer (some ⟨g, 0, none⟩), .int .i64 2147483647] nf (fun _ K' y' w' => Gr y y' ∧ Ctx N F y' K' w' ((g, #[.int .i64 d, .int .u64 slept.num], 100) :: l)) K y w := by
  obtain ⟨nd, hdoes⟩ := odoes_sweep_0
  co_apply Exists.intro
  intro N F m y K w l sh g d hd hr H
  have hg := Gr.refl y
  have hq : y.role.quiet = false := by rw [hr]; rfl
  co_apply CJ.of_WF Try.func16 (by kernel_rfl) (by rfl)
  simp only [show Try.f16.ntmps = 8 from rfl]
  try walk_nrm
  co_apply WF.seqP
  co_apply WF.region
  try simp only [List.size_toArray, List.length_cons, List.length_nil, Nat.zero_add, List.range, List.range.loop]
  co_applyP OF.pu rfl (by rfl) (fun _ => run_eq_of ?run) (fun _ => by simp [go_sem, *])
  case run => intro K hK; go_simp; exact hK
  try walk_nrm
  co_apply OF.nil
  try simp only [thenF]
  co_apply WF.seqP
  co_apply WF.region
  try simp only [List.size_toArray, List.length_cons, List.length_nil, Nat.reduceAdd, Nat.zero_add, List.range, List.range.loop]
  co_applyP OF.pu rfl (by rfl) (fun _ => run_eq_of ?run) (fun _ => by simp [go_sem, *])
  case run => intro K hK; go_simp; exact hK
  try walk_nrm
  co_applyP OF.pu rfl (by rfl) (fun _ => run_eq_of ?run) (fun _ => by simp [go_sem, *])
  case run => intro K hK; go_simp; exact hK
  try walk_nrm
  co_applyP OF.callJ rfl (by rfl) rfl
  · walk_nrm
    exact hdoes sh g d hd hr H
  rintro v K y' w hK1 ⟨hg1, H1⟩
  replace H := H1
  clear H1
  try walk_nrm
  co_applyP OF.pu rfl (by rfl) (fun _ => run_eq_of ?run) (fun _ => by simp [go_sem, *])
  case run => intro K hK; go_simp; exact hK
  try walk_nrm
  co_apply OF.nil
  try simp only [thenF]
  co_apply WF.ret
  exact retG_of rfl (resultsC_tmp (by rfl) _) (fun K₂ hK₂ w₂ r₂ => ⟨hg1, H.rely r₂⟩)

end Go.Proofs.Ytgnhddnhcfmipaa.Ids
