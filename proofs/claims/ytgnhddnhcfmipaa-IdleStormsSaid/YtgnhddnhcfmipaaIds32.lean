/- IdleStorms: the law, walked. Printed by wip/tools/gen_ids32.py. -/
import Derived.Test.YtgnhddnhcfmipaaIds31
import Derived.Test.YtgnhddnhcfmipaaEg13
namespace Go.Proofs.Ytgnhddnhcfmipaa.Ids
open Go Go.Conc Go.RowKit Go.Proofs.Ytgnhddnhcfmipaa.Eg Go.Proofs.Ytgnhddnhcfmipaa

/-- A STORM, whatever is asked. -/
theorem storm_any : ∃ nf, ∀ {N : Nat} {y : Gh Role} {K : Nat} {w : World} {l : List Row} (sh : Nat → Prop) (d wn tn kn : Int) (_ : tn ≤ 300 ∨ 10000 < tn) (_ : y.role = .alone sh) (_ : y.deaf = 0) (_ : 9633 ≤ y.rem) (_ : Ctx N T0 y K w l),
    CJ (S N) true 40 #[.int .i64 d, .int .i64 wn, .int .i64 tn, .int .i64 kn] nf (fun r K' y' w' => ∃ sh', r = outv d wn tn kn ∧ y'.role = .alone sh' ∧ y'.deaf = 0 ∧ y.rem ≤ y'.rem + 9633 ∧ Ctx N T0 y' K' w' l) K y w := by
  obtain ⟨n0, b0⟩ := storm_no
  obtain ⟨n1, b1⟩ := storm_yes
  refine ⟨n0 + n1, fun {N y K w l} sh d wn tn kn ht3 hr hdf hrem H => ?_⟩
  by_cases hv : valid d wn tn kn
  · exact (b1 sh d wn tn kn hv (by have := hv.2.2.2.2.1; omega) hr hdf hrem H).more (by omega)
  · exact ((b0 sh d wn tn kn hv hr H).mono fun v K' y' w' hK ⟨h1, h2, h3⟩ => ⟨sh, h1, h2.role.trans hr, h2.deaf.trans hdf, by rw [h2.rem]; omega, h3⟩).more (by omega)

set_option maxHeartbeats 8000000 in
set_option maxRecDepth 100000 in
theorem law10_0 : ∃ n, ∀ {N : Nat} {y : Gh Role} {K : Nat} {w : World} (sh : Nat → Prop) (d wn tn kn : Int) (_ : ¬ 300 < tn) (_ : y.role = .alone sh) (_ : y.deaf = 0) (_ : 19266 ≤ y.rem) (_ : Ctx N T0 y K w []),
    J (S N) true K n y (Conc.G (Frame.enter Try.prog 10 #[.int .i64 d, .int .i64 wn, .int .i64 tn, .int .i64 kn] .normal) []) w := by
  obtain ⟨n1, hrst⟩ := rstorm_any
  obtain ⟨n2, hstorm⟩ := storm_any
  obtain ⟨n3, halike⟩ := alike_any
  obtain ⟨rr, hrr⟩ : ∃ rr, 300 + n1 + n2 + n3 ≤ rr := ⟨_, Nat.le_refl _⟩
  co_apply Exists.intro
  intro N y K w sh d wn tn kn q hr hdf hrem H
  obtain ⟨ys, hys⟩ : ∃ ys, ys = y := ⟨y, rfl⟩
  have hrems : 19266 ≤ ys.rem := by rw [hys]; exact hrem
  have hg := Gr.refl y
  have hq : y.role.quiet = false := by rw [hr]; rfl
  have r15 : decide (tn > 300) = false := by simp <;> omega
  obtain ⟨V, hV⟩ : ∃ V, V = outw d wn tn kn := ⟨_, rfl⟩
  obtain ⟨CC, hC⟩ : ∃ CC, CC = outc d wn tn kn := ⟨_, rfl⟩
  have hov : outv d wn tn kn = .tuple #[.agg #[.int .i64 V.u, .bool V.a, .int .i64 V.s, .int .i64 V.k], .int .i64 CC] := by rw [hV, hC]; rfl
  clear hV hC
  have hcc : (CC == CC) = true := by simp
  have hcn : (CC != CC) = false := by simp
  co_apply J.main Try.func10 rfl (by kernel_rfl)
  simp only [show Try.f10.ntmps = 49 from rfl]
  try walk_nrm
  co_apply WF.seqP
  co_apply WF.region
  try simp only [List.size_toArray, List.length_cons, List.length_nil, Nat.zero_add, List.range, List.range.loop]
  co_applyP OF.pu rfl (by rfl) (fun _ => run_eq_of ?run) (fun _ => by simp [go_sem, *])
  case run => intro K hK; go_simp; exact hK
  try walk_nrm
  co_apply OF.nil
  try simp only [thenF]
  co_apply WF.seqP
  co_apply WF.seqP
  co_apply WF.region
  try simp only [List.size_toArray, List.length_cons, List.length_nil, Nat.reduceAdd, Nat.zero_add, List.range, List.range.loop]
  co_applyP OF.pu rfl (by rfl) (fun _ => run_eq_of ?run) (fun _ => by simp [go_sem, *])
  case run => intro K hK; go_simp; exact hK
  try walk_nrm
  co_applyP OF.pu rfl (by rfl) (fun _ => run_eq_of ?run) (fun _ => by simp [go_sem, *])
  case run => intro K hK; go_simp; exact hK
  try walk_nrm
  co_applyP OF.pu rfl (by rfl) (fun _ => run_eq_of ?run) (fun _ => by simp [go_sem, *])
  case run => intro K hK; go_simp; exact hK
  try walk_nrm
  first
  | (co_applyP OF.pu rfl (by rfl) (fun _ => run_eq_of ?run) (fun _ => by simp [go_sem, *]); case run => intro K hK; go_simp; exact hK)
  | co_apply OF.unwanted rfl (by rfl)
  try walk_nrm
  first
  | (co_applyP OF.pu rfl (by rfl) (fun _ => run_eq_of ?run) (fun _ => by simp [go_sem, *]); case run => intro K hK; go_simp; exact hK)
  | co_apply OF.unwanted rfl (by rfl)
  try walk_nrm
  co_applyP OF.pu rfl (by rfl) (fun _ => run_eq_of ?run) (fun _ => by simp [go_sem, *])
  case run => intro K hK; go_simp; exact hK
  try walk_nrm
  co_apply OF.nil
  try simp only [thenF]
  co_apply WF.cond (t := false) rfl
  simp only [Bool.false_eq_true, ↓reduceIte]
  co_apply WF.skip
  try simp only [thenF]
  co_apply WF.seqP
  co_apply WF.region
  try simp only [List.size_toArray, List.length_cons, List.length_nil, Nat.reduceAdd, Nat.zero_add, List.range, List.range.loop]
  co_applyP OF.pu rfl (by rfl) (fun _ => run_eq_of ?run) (fun _ => by simp [go_sem, *])
  case run => intro K hK; go_simp; exact hK
  try walk_nrm
  co_applyP OF.pu rfl (by rfl) (fun _ => run_eq_of ?run) (fun _ => by simp [go_sem, *])
  case run => intro K hK; go_simp; exact hK
  try walk_nrm
  co_applyP OF.pu rfl (by rfl) (fun _ => run_eq_of ?run) (fun _ => by simp [go_sem, *])
  case run => intro K hK; go_simp; exact hK
  try walk_nrm
  co_applyP OF.pu rfl (by rfl) (fun _ => run_eq_of ?run) (fun _ => by simp [go_sem, *])
  case run => intro K hK; go_simp; exact hK
  try walk_nrm
  co_applyP OF.callJ rfl (by rfl) rfl
  · walk_nrm
    exact hrst sh d wn tn kn hr H
  rintro rv K y' w hK1 ⟨hre, hg1, H1⟩
  rw [hov] at hre
  subst hre
  replace hg := hg.trans hg1
  replace hr := hg1.role.trans hr
  have hq1 : y'.role.quiet = false := by rw [hr]; rfl
  replace hq := hq1
  replace H := H1
  clear hg1 H1 hq1 hK1
  try walk_nrm
  co_applyP OF.pu rfl (by rfl) (fun _ => run_eq_of ?run) (fun _ => by simp [go_sem, *])
  case run => intro K hK; go_simp; exact hK
  try walk_nrm
  co_applyP OF.pu rfl (by rfl) (fun _ => run_eq_of ?run) (fun _ => by simp [go_sem, *])
  case run => intro K hK; go_simp; exact hK
  try walk_nrm
  co_applyP OF.pu rfl (by rfl) (fun _ => run_eq_of ?run) (fun _ => by simp [go_sem, *])
  case run => intro K hK; go_simp; exact hK
  try walk_nrm
  co_applyP OF.al rfl (by rfl) H hq (fun _ => run_eq_of ?run) (fun _ => by simp [go_sem, *])
  case run => intro K hK; go_simp; exact hK
  intro K w₁ y' w b9 hK1 hr1 hg1 hq1 hb1 hw1 H1
  replace hg := hg.trans hg1
  replace hr := hg1.role.trans hr
  replace hq := hq1
  replace H := H1
  clear hb1 hw1 hr1 hK1 hg1 hq1 H1
  try walk_nrm
  co_applyP OF.str 0 rfl (by rfl) rfl H hq rfl rfl rfl (by kernel_rfl) (by rfl) (by kernel_rfl)
  intro K w₁ w hK1 hr1 hu1 H1
  replace H := H1
  clear hr1 hK1 hu1 H1
  simp only [List.set_cons_zero] at H
  try walk_nrm
  co_applyP OF.pu rfl (by rfl) (fun _ => run_eq_of ?run) (fun _ => by simp [go_sem, *])
  case run => intro K hK; go_simp; exact hK
  try walk_nrm
  co_apply OF.nil
  try simp only [thenF]
  co_apply WF.seqP
  co_apply WF.seqP
  co_apply WF.region
  try simp only [List.size_toArray, List.length_cons, List.length_nil, Nat.zero_add, List.range, List.range.loop]
  co_applyP OF.pu rfl (by rfl) (fun _ => run_eq_of ?run) (fun _ => by simp [go_sem, *])
  case run => intro K hK; go_simp; exact hK
  try walk_nrm
  co_apply OF.nil
  try simp only [thenF]
  co_apply WF.block
  have hdf0 := hg.deaf.trans hdf
  have hm0 := hg.rem
  co_apply WF.loopJ (j₀ := 2) (fun (j K : Nat) (y : Gh Role) (a : Act) (w : World) => ∃ (k : Nat) (sh : Nat → Prop) (t12 t13 t14 t15 t16 t17 t18 t19 t20 t21 t22 t23 t24 t25 t26 t27 t28 t29 t30 t31 t32 t33 t34 t35 t36 t37 t38 t39 t40 t41 t42 t43 t44 t45 t46 t47 t48 : Value), k ≤ 2 ∧ j = 2 - k ∧ a = (⟨#[.int .i64 d, .int .i64 wn, .int .i64 tn, .int .i64 kn, undef, undef, undef, undef, .bool false, .pointer (some ⟨b9, 0, none⟩), .int .i64 CC, .int .i64 (k : Int), t12, t13, t14, t15, t16, t17, t18, t19, t20, t21, t22, t23, t24, t25, t26, t27, t28, t29, t30, t31, t32, t33, t34, t35, t36, t37, t38, t39, t40, t41, t42, t43, t44, t45, t46, t47, t48], []⟩ : Act) ∧ y.role = .alone sh ∧ y.deaf = 0 ∧ ys.rem ≤ y.rem + k * 9633 ∧ Ctx N T0 y K w [(b9, #[.int .i64 V.u, .bool V.a, .int .i64 V.s, .int .i64 V.k], 29)]) rr 2
  · exact ⟨0, sh, _, _, _, _, _, _, _, _, _, _, _, _, _, _, _, _, _, _, _, _, _, _, _, _, _, _, _, _, _, _, _, _, _, _, _, _, _, by omega, rfl, rfl, hr, hdf0, by rw [hm0, hys]; omega, H⟩
  · rintro j K y a w ⟨k, sh, _, _, _, _, _, _, _, _, _, _, _, _, _, _, _, _, _, _, _, _, _, _, _, _, _, _, _, _, _, _, _, _, _, _, _, _, _, h, rfl, _⟩
    omega
  clear hq hr H hg hdf0 hm0 hdf
  intro j K y a w hKl hI
  obtain ⟨k, sh, t12, t13, t14, t15, t16, t17, t18, t19, t20, t21, t22, t23, t24, t25, t26, t27, t28, t29, t30, t31, t32, t33, t34, t35, t36, t37, t38, t39, t40, t41, t42, t43, t44, t45, t46, t47, t48, hk, rfl, rfl, hr, hdf, hm, H⟩ := hI
  have hq : y.role.quiet = false := by rw [hr]; rfl
  by_cases hlt : k < 2
  · skip
    co_apply WF.more
    · skip
      have hb : decide (((k : Nat) : Int) < 2) = true := by simp; omega
      try simp only []
      have hw1 : IntKind.i64.wrap (((k : Nat) : Int) + 1) = ((k + 1 : Nat) : Int) := by rw [IntKind.wrap_i64]; omega
      co_apply WF.seqP
      co_apply WF.seqP
      co_apply WF.region
      try simp only [List.size_toArray, List.length_cons, List.length_nil, Nat.reduceAdd, Nat.zero_add, List.range, List.range.loop]
      co_applyP OF.pu rfl (by rfl) (fun _ => run_eq_of ?run) (fun _ => by simp [go_sem, *])
      case run => intro K hK; go_simp; exact hK
      try walk_nrm
      co_applyP OF.pu rfl (by rfl) (fun _ => run_eq_of ?run) (fun _ => by simp [go_sem, *])
      case run => intro K hK; go_simp; exact hK
      try walk_nrm
      co_apply OF.nil
      try simp only [thenF]
      co_apply WF.cond (t := true) rfl
      simp only [↓reduceIte]
      co_apply WF.skip
      try simp only [thenF]
      co_apply WF.seqP
      co_apply WF.block
      co_apply WF.seqP
      co_apply WF.region
      try simp only [List.size_toArray, List.length_cons, List.length_nil, Nat.reduceAdd, Nat.zero_add, List.range, List.range.loop]
      co_applyP OF.pu rfl (by rfl) (fun _ => run_eq_of ?run) (fun _ => by simp [go_sem, *])
      case run => intro K hK; go_simp; exact hK
      try walk_nrm
      co_applyP OF.pu rfl (by rfl) (fun _ => run_eq_of ?run) (fun _ => by simp [go_sem, *])
      case run => intro K hK; go_simp; exact hK
      try walk_nrm
      co_applyP OF.pu rfl (by rfl) (fun _ => run_eq_of ?run) (fun _ => by simp [go_sem, *])
      case run => intro K hK; go_simp; exact hK
      try walk_nrm
      co_applyP OF.pu rfl (by rfl) (fun _ => run_eq_of ?run) (fun _ => by simp [go_sem, *])
      case run => intro K hK; go_simp; exact hK
      try walk_nrm
      co_applyP OF.callJ rfl (by rfl) rfl
      · walk_nrm
        exact hstorm sh d wn tn kn (by omega) hr hdf (by omega) H
      rintro rv K y2 w hK1 ⟨sh2, hre, hr1, hdf1, hm1, H1⟩
      rw [hov] at hre
      subst hre
      replace hr := hr1
      replace hdf := hdf1
      have hm2 : ys.rem ≤ y2.rem + (k + 1) * 9633 := by omega
      replace hm := hm2
      replace H := H1
      have hq : y2.role.quiet = false := by rw [hr]; rfl
      have hg := Gr.refl y2
      clear hr1 hdf1 hm1 hm2 H1 hK1
      try walk_nrm
      co_applyP OF.pu rfl (by rfl) (fun _ => run_eq_of ?run) (fun _ => by simp [go_sem, *])
      case run => intro K hK; go_simp; exact hK
      try walk_nrm
      co_applyP OF.pu rfl (by rfl) (fun _ => run_eq_of ?run) (fun _ => by simp [go_sem, *])
      case run => intro K hK; go_simp; exact hK
      try walk_nrm
      co_applyP OF.pu rfl (by rfl) (fun _ => run_eq_of ?run) (fun _ => by simp [go_sem, *])
      case run => intro K hK; go_simp; exact hK
      try walk_nrm
      co_applyP OF.al rfl (by rfl) H hq (fun _ => run_eq_of ?run) (fun _ => by simp [go_sem, *])
      case run => intro K hK; go_simp; exact hK
      intro K w₁ y' w b12 hK1 hr1 hg1 hq1 hb1 hw1 H1
      replace hg := hg.trans hg1
      replace hr := hg1.role.trans hr
      replace hq := hq1
      replace H := H1
      clear hb1 hw1 hr1 hK1 hg1 hq1 H1
      try walk_nrm
      co_applyP OF.str 0 rfl (by rfl) rfl H hq rfl rfl rfl (by kernel_rfl) (by rfl) (by kernel_rfl)
      intro K w₁ w hK1 hr1 hu1 H1
      replace H := H1
      clear hr1 hK1 hu1 H1
      simp only [List.set_cons_zero] at H
      try walk_nrm
      co_applyP OF.pu rfl (by rfl) (fun _ => run_eq_of ?run) (fun _ => by simp [go_sem, *])
      case run => intro K hK; go_simp; exact hK
      try walk_nrm
      co_apply OF.nil
      try simp only [thenF]
      co_apply WF.seqP
      co_apply WF.region
      try simp only [List.size_toArray, List.length_cons, List.length_nil, Nat.reduceAdd, Nat.zero_add, List.range, List.range.loop]
      co_applyP OF.pu rfl (by rfl) (fun _ => run_eq_of ?run) (fun _ => by simp [go_sem, *])
      case run => intro K hK; go_simp; exact hK
      try walk_nrm
      co_applyP OF.pu rfl (by rfl) (fun _ => run_eq_of ?run) (fun _ => by simp [go_sem, *])
      case run => intro K hK; go_simp; exact hK
      try walk_nrm
      co_applyP OF.pu rfl (by rfl) (fun _ => run_eq_of ?run) (fun _ => by simp [go_sem, *])
      case run => intro K hK; go_simp; exact hK
      try walk_nrm
      co_applyP OF.pu rfl (by rfl) (fun _ => run_eq_of ?run) (fun _ => by simp [go_sem, *])
      case run => intro K hK; go_simp; exact hK
      try walk_nrm
      first
      | (co_applyP OF.ldr 0 rfl (by rfl) rfl H hq rfl rfl Try.underlying38 rfl (by kernel_rfl); intro K w hK1 hr1 H1; replace H := H1; skip; clear hr1 hK1 H1)
      | co_apply OF.unwanted rfl (by rfl)
      try walk_nrm
      first
      | (co_applyP OF.ldr 1 rfl (by rfl) rfl H hq rfl rfl Try.underlying29 rfl (by kernel_rfl); intro K w hK1 hr1 H1; replace H := H1; skip; clear hr1 hK1 H1)
      | co_apply OF.unwanted rfl (by rfl)
      try walk_nrm
      co_applyP OF.callJ rfl (by rfl) rfl
      · walk_nrm
        exact halike _ V hr H
      rintro _ K y' w hK1 ⟨rfl, hg1, H1⟩
      replace hg := hg.trans hg1
      replace hr := hg1.role.trans hr
      have hq1 : y'.role.quiet = false := by rw [hr]; rfl
      replace hq := hq1
      replace H := H1
      clear hg1 H1 hq1 hK1
      try walk_nrm
      first
      | (co_applyP OF.pu rfl (by rfl) (fun _ => run_eq_of ?run) (fun _ => by simp [go_sem, *]); case run => intro K hK; go_simp; exact hK)
      | co_apply OF.unwanted rfl (by rfl)
      try walk_nrm
      co_applyP OF.pu rfl (by rfl) (fun _ => run_eq_of ?run) (fun _ => by simp [go_sem, *])
      case run => intro K hK; go_simp; exact hK
      try walk_nrm
      co_apply OF.nil
      try simp only [thenF]
      co_apply WF.cond (t := false) rfl
      simp only [Bool.false_eq_true, ↓reduceIte]
      co_apply WF.skip
      try simp only [blockF, thenF]
      try simp only [thenF]
      co_apply WF.region
      try simp only [List.size_toArray, List.length_cons, List.length_nil, Nat.reduceAdd, Nat.zero_add, List.range, List.range.loop]
      co_applyP OF.pu rfl (by rfl) (fun _ => run_eq_of ?run) (fun _ => by simp [go_sem, *])
      case run => intro K hK; go_simp; exact hK
      try walk_nrm
      co_applyP OF.pu rfl (by rfl) (fun _ => run_eq_of ?run) (fun _ => by simp [go_sem, *])
      case run => intro K hK; go_simp; exact hK
      try walk_nrm
      co_applyP OF.pu rfl (by rfl) (fun _ => run_eq_of ?run) (fun _ => by simp [go_sem, *])
      case run => intro K hK; go_simp; exact hK
      try walk_nrm
      co_apply OF.nil
      exact ⟨2 - (k + 1), ⟨k + 1, _, _, _, _, _, _, _, _, _, _, _, _, _, _, _, _, _, _, _, _, _, _, _, _, _, _, _, _, _, _, _, _, _, _, _, _, _, _, by omega, rfl, rfl, hr, hg.deaf.trans hdf, by rw [hg.rem]; exact hm, H.tail⟩, .inr (by omega)⟩
    · first | omega | (simp only [pl_eq]; omega)
  · skip
    co_apply WF.more
    · skip
      have hb : decide (((k : Nat) : Int) < 2) = false := by simp; omega
      try simp only []
      obtain rfl : 2 = k := by omega
      co_apply WF.seqP (n₂ := 0)
      co_apply WF.seqP
      co_apply WF.region
      try simp only [List.size_toArray, List.length_cons, List.length_nil, Nat.reduceAdd, Nat.zero_add, List.range, List.range.loop]
      co_applyP OF.pu rfl (by rfl) (fun _ => run_eq_of ?run) (fun _ => by simp [go_sem, *])
      case run => intro K hK; go_simp; exact hK
      try walk_nrm
      co_applyP OF.pu rfl (by rfl) (fun _ => run_eq_of ?run) (fun _ => by simp [go_sem, *])
      case run => intro K hK; go_simp; exact hK
      try walk_nrm
      co_apply OF.nil
      try simp only [thenF]
      co_apply WF.cond (t := false) rfl
      simp only [Bool.false_eq_true, ↓reduceIte]
      co_apply WF.exit
      try simp only [thenF]
      try simp only [blockF, thenF, if_true]
      try simp only [thenF]
      co_apply WF.seqP
      co_apply WF.region
      try simp only [List.size_toArray, List.length_cons, List.length_nil, Nat.zero_add, List.range, List.range.loop]
      co_applyP OF.pu rfl (by rfl) (fun _ => run_eq_of ?run) (fun _ => by simp [go_sem, *])
      case run => intro K hK; go_simp; exact hK
      try walk_nrm
      co_apply OF.nil
      try simp only [thenF]
      co_apply WF.ret
      exact ⟨.inl rfl, rfl, _, resultsC_tmp (by rfl) _, fun K₁ hK₁ w₁ r => ⟨⟨_, hr⟩, rfl, rfl⟩⟩
    · first | omega | (simp only [pl_eq]; omega)

set_option maxHeartbeats 8000000 in
set_option maxRecDepth 100000 in
theorem law10_1 : ∃ n, ∀ {N : Nat} {y : Gh Role} {K : Nat} {w : World} (sh : Nat → Prop) (d wn tn kn : Int) (_ : 300 < tn ∧ tn ≤ 10000) (_ : y.role = .alone sh) (_ : y.deaf = 0) (_ : 19266 ≤ y.rem) (_ : Ctx N T0 y K w []),
    J (S N) true K n y (Conc.G (Frame.enter Try.prog 10 #[.int .i64 d, .int .i64 wn, .int .i64 tn, .int .i64 kn] .normal) []) w := by
  obtain ⟨n1, hrst⟩ := rstorm_any
  obtain ⟨n2, hstorm⟩ := storm_any
  obtain ⟨n3, halike⟩ := alike_any
  obtain ⟨rr, hrr⟩ : ∃ rr, 300 + n1 + n2 + n3 ≤ rr := ⟨_, Nat.le_refl _⟩
  co_apply Exists.intro
  intro N y K w sh d wn tn kn q hr hdf hrem H
  obtain ⟨ys, hys⟩ : ∃ ys, ys = y := ⟨y, rfl⟩
  have hrems : 19266 ≤ ys.rem := by rw [hys]; exact hrem
  have hg := Gr.refl y
  have hq : y.role.quiet = false := by rw [hr]; rfl
  have r15 : decide (tn > 300) = true := by simp <;> omega
  have r18 : decide (tn ≤ 10000) = true := by simp <;> omega
  obtain ⟨V, hV⟩ : ∃ V, V = outw d wn 300 kn := ⟨_, rfl⟩
  obtain ⟨CC, hC⟩ : ∃ CC, CC = outc d wn 300 kn := ⟨_, rfl⟩
  have hov : outv d wn 300 kn = .tuple #[.agg #[.int .i64 V.u, .bool V.a, .int .i64 V.s, .int .i64 V.k], .int .i64 CC] := by rw [hV, hC]; rfl
  clear hV hC
  have hcc : (CC == CC) = true := by simp
  have hcn : (CC != CC) = false := by simp
  co_apply J.main Try.func10 rfl (by kernel_rfl)
  simp only [show Try.f10.ntmps = 49 from rfl]
  try walk_nrm
  co_apply WF.seqP
  co_apply WF.region
  try simp only [List.size_toArray, List.length_cons, List.length_nil, Nat.zero_add, List.range, List.range.loop]
  co_applyP OF.pu rfl (by rfl) (fun _ => run_eq_of ?run) (fun _ => by simp [go_sem, *])
  case run => intro K hK; go_simp; exact hK
  try walk_nrm
  co_apply OF.nil
  try simp only [thenF]
  co_apply WF.seqP
  co_apply WF.seqP
  co_apply WF.region
  try simp only [List.size_toArray, List.length_cons, List.length_nil, Nat.reduceAdd, Nat.zero_add, List.range, List.range.loop]
  co_applyP OF.pu rfl (by rfl) (fun _ => run_eq_of ?run) (fun _ => by simp [go_sem, *])
  case run => intro K hK; go_simp; exact hK
  try walk_nrm
  co_applyP OF.pu rfl (by rfl) (fun _ => run_eq_of ?run) (fun _ => by simp [go_sem, *])
  case run => intro K hK; go_simp; exact hK
  try walk_nrm
  co_applyP OF.pu rfl (by rfl) (fun _ => run_eq_of ?run) (fun _ => by simp [go_sem, *])
  case run => intro K hK; go_simp; exact hK
  try walk_nrm
  first
  | (co_applyP OF.pu rfl (by rfl) (fun _ => run_eq_of ?run) (fun _ => by simp [go_sem, *]); case run => intro K hK; go_simp; exact hK)
  | co_apply OF.unwanted rfl (by rfl)
  try walk_nrm
  first
  | (co_applyP OF.pu rfl (by rfl) (fun _ => run_eq_of ?run) (fun _ => by simp [go_sem, *]); case run => intro K hK; go_simp; exact hK)
  | co_apply OF.unwanted rfl (by rfl)
  try walk_nrm
  co_applyP OF.pu rfl (by rfl) (fun _ => run_eq_of ?run) (fun _ => by simp [go_sem, *])
  case run => intro K hK; go_simp; exact hK
  try walk_nrm
  co_apply OF.nil
  try simp only [thenF]
  co_apply WF.cond (t := true) rfl
  simp only [↓reduceIte]
  co_apply WF.region
  try simp only [List.size_toArray, List.length_cons, List.length_nil, Nat.zero_add, List.range, List.range.loop]
  co_applyP OF.pu rfl (by rfl) (fun _ => run_eq_of ?run) (fun _ => by simp [go_sem, *])
  case run => intro K hK; go_simp; exact hK
  try walk_nrm
  co_apply OF.nil
  try simp only [thenF]
  co_apply WF.seqP
  co_apply WF.region
  try simp only [List.size_toArray, List.length_cons, List.length_nil, Nat.reduceAdd, Nat.zero_add, List.range, List.range.loop]
  co_applyP OF.pu rfl (by rfl) (fun _ => run_eq_of ?run) (fun _ => by simp [go_sem, *])
  case run => intro K hK; go_simp; exact hK
  try walk_nrm
  co_applyP OF.pu rfl (by rfl) (fun _ => run_eq_of ?run) (fun _ => by simp [go_sem, *])
  case run => intro K hK; go_simp; exact hK
  try walk_nrm
  co_applyP OF.pu rfl (by rfl) (fun _ => run_eq_of ?run) (fun _ => by simp [go_sem, *])
  case run => intro K hK; go_simp; exact hK
  try walk_nrm
  co_applyP OF.pu rfl (by rfl) (fun _ => run_eq_of ?run) (fun _ => by simp [go_sem, *])
  case run => intro K hK; go_simp; exact hK
  try walk_nrm
  co_applyP OF.callJ rfl (by rfl) rfl
  · walk_nrm
    exact hrst sh d wn 300 kn hr H
  rintro rv K y' w hK1 ⟨hre, hg1, H1⟩
  rw [hov] at hre
  subst hre
  replace hg := hg.trans hg1
  replace hr := hg1.role.trans hr
  have hq1 : y'.role.quiet = false := by rw [hr]; rfl
  replace hq := hq1
  replace H := H1
  clear hg1 H1 hq1 hK1
  try walk_nrm
  co_applyP OF.pu rfl (by rfl) (fun _ => run_eq_of ?run) (fun _ => by simp [go_sem, *])
  case run => intro K hK; go_simp; exact hK
  try walk_nrm
  co_applyP OF.pu rfl (by rfl) (fun _ => run_eq_of ?run) (fun _ => by simp [go_sem, *])
  case run => intro K hK; go_simp; exact hK
  try walk_nrm
  co_applyP OF.pu rfl (by rfl) (fun _ => run_eq_of ?run) (fun _ => by simp [go_sem, *])
  case run => intro K hK; go_simp; exact hK
  try walk_nrm
  co_applyP OF.al rfl (by rfl) H hq (fun _ => run_eq_of ?run) (fun _ => by simp [go_sem, *])
  case run => intro K hK; go_simp; exact hK
  intro K w₁ y' w b9 hK1 hr1 hg1 hq1 hb1 hw1 H1
  replace hg := hg.trans hg1
  replace hr := hg1.role.trans hr
  replace hq := hq1
  replace H := H1
  clear hb1 hw1 hr1 hK1 hg1 hq1 H1
  try walk_nrm
  co_applyP OF.str 0 rfl (by rfl) rfl H hq rfl rfl rfl (by kernel_rfl) (by rfl) (by kernel_rfl)
  intro K w₁ w hK1 hr1 hu1 H1
  replace H := H1
  clear hr1 hK1 hu1 H1
  simp only [List.set_cons_zero] at H
  try walk_nrm
  co_applyP OF.pu rfl (by rfl) (fun _ => run_eq_of ?run) (fun _ => by simp [go_sem, *])
  case run => intro K hK; go_simp; exact hK
  try walk_nrm
  co_apply OF.nil
  try simp only [thenF]
  co_apply WF.seqP
  co_apply WF.seqP
  co_apply WF.region
  try simp only [List.size_toArray, List.length_cons, List.length_nil, Nat.zero_add, List.range, List.range.loop]
  co_applyP OF.pu rfl (by rfl) (fun _ => run_eq_of ?run) (fun _ => by simp [go_sem, *])
  case run => intro K hK; go_simp; exact hK
  try walk_nrm
  co_apply OF.nil
  try simp only [thenF]
  co_apply WF.block
  have hdf0 := hg.deaf.trans hdf
  have hm0 := hg.rem
  co_apply WF.loopJ (j₀ := 2) (fun (j K : Nat) (y : Gh Role) (a : Act) (w : World) => ∃ (k : Nat) (sh : Nat → Prop) (t12 t13 t14 t15 t16 t17 t18 t19 t20 t21 t22 t23 t24 t25 t26 t27 t28 t29 t30 t31 t32 t33 t34 t35 t36 t37 t38 t39 t40 t41 t42 t43 t44 t45 t46 t47 t48 : Value), k ≤ 2 ∧ j = 2 - k ∧ a = (⟨#[.int .i64 d, .int .i64 wn, .int .i64 300, .int .i64 kn, undef, undef, undef, undef, .bool false, .pointer (some ⟨b9, 0, none⟩), .int .i64 CC, .int .i64 (k : Int), t12, t13, t14, t15, t16, t17, t18, t19, t20, t21, t22, t23, t24, t25, t26, t27, t28, t29, t30, t31, t32, t33, t34, t35, t36, t37, t38, t39, t40, t41, t42, t43, t44, t45, t46, t47, t48], []⟩ : Act) ∧ y.role = .alone sh ∧ y.deaf = 0 ∧ ys.rem ≤ y.rem + k * 9633 ∧ Ctx N T0 y K w [(b9, #[.int .i64 V.u, .bool V.a, .int .i64 V.s, .int .i64 V.k], 29)]) rr 2
  · exact ⟨0, sh, _, _, _, _, _, _, _, _, _, _, _, _, _, _, _, _, _, _, _, _, _, _, _, _, _, _, _, _, _, _, _, _, _, _, _, _, _, by omega, rfl, rfl, hr, hdf0, by rw [hm0, hys]; omega, H⟩
  · rintro j K y a w ⟨k, sh, _, _, _, _, _, _, _, _, _, _, _, _, _, _, _, _, _, _, _, _, _, _, _, _, _, _, _, _, _, _, _, _, _, _, _, _, _, h, rfl, _⟩
    omega
  clear hq hr H hg hdf0 hm0 hdf
  intro j K y a w hKl hI
  obtain ⟨k, sh, t12, t13, t14, t15, t16, t17, t18, t19, t20, t21, t22, t23, t24, t25, t26, t27, t28, t29, t30, t31, t32, t33, t34, t35, t36, t37, t38, t39, t40, t41, t42, t43, t44, t45, t46, t47, t48, hk, rfl, rfl, hr, hdf, hm, H⟩ := hI
  have hq : y.role.quiet = false := by rw [hr]; rfl
  by_cases hlt : k < 2
  · skip
    co_apply WF.more
    · skip
      have hb : decide (((k : Nat) : Int) < 2) = true := by simp; omega
      try simp only []
      have hw1 : IntKind.i64.wrap (((k : Nat) : Int) + 1) = ((k + 1 : Nat) : Int) := by rw [IntKind.wrap_i64]; omega
      co_apply WF.seqP
      co_apply WF.seqP
      co_apply WF.region
      try simp only [List.size_toArray, List.length_cons, List.length_nil, Nat.reduceAdd, Nat.zero_add, List.range, List.range.loop]
      co_applyP OF.pu rfl (by rfl) (fun _ => run_eq_of ?run) (fun _ => by simp [go_sem, *])
      case run => intro K hK; go_simp; exact hK
      try walk_nrm
      co_applyP OF.pu rfl (by rfl) (fun _ => run_eq_of ?run) (fun _ => by simp [go_sem, *])
      case run => intro K hK; go_simp; exact hK
      try walk_nrm
      co_apply OF.nil
      try simp only [thenF]
      co_apply WF.cond (t := true) rfl
      simp only [↓reduceIte]
      co_apply WF.skip
      try simp only [thenF]
      co_apply WF.seqP
      co_apply WF.block
      co_apply WF.seqP
      co_apply WF.region
      try simp only [List.size_toArray, List.length_cons, List.length_nil, Nat.reduceAdd, Nat.zero_add, List.range, List.range.loop]
      co_applyP OF.pu rfl (by rfl) (fun _ => run_eq_of ?run) (fun _ => by simp [go_sem, *])
      case run => intro K hK; go_simp; exact hK
      try walk_nrm
      co_applyP OF.pu rfl (by rfl) (fun _ => run_eq_of ?run) (fun _ => by simp [go_sem, *])
      case run => intro K hK; go_simp; exact hK
      try walk_nrm
      co_applyP OF.pu rfl (by rfl) (fun _ => run_eq_of ?run) (fun _ => by simp [go_sem, *])
      case run => intro K hK; go_simp; exact hK
      try walk_nrm
      co_applyP OF.pu rfl (by rfl) (fun _ => run_eq_of ?run) (fun _ => by simp [go_sem, *])
      case run => intro K hK; go_simp; exact hK
      try walk_nrm
      co_applyP OF.callJ rfl (by rfl) rfl
      · walk_nrm
        exact hstorm sh d wn 300 kn (by omega) hr hdf (by omega) H
      rintro rv K y2 w hK1 ⟨sh2, hre, hr1, hdf1, hm1, H1⟩
      rw [hov] at hre
      subst hre
      replace hr := hr1
      replace hdf := hdf1
      have hm2 : ys.rem ≤ y2.rem + (k + 1) * 9633 := by omega
      replace hm := hm2
      replace H := H1
      have hq : y2.role.quiet = false := by rw [hr]; rfl
      have hg := Gr.refl y2
      clear hr1 hdf1 hm1 hm2 H1 hK1
      try walk_nrm
      co_applyP OF.pu rfl (by rfl) (fun _ => run_eq_of ?run) (fun _ => by simp [go_sem, *])
      case run => intro K hK; go_simp; exact hK
      try walk_nrm
      co_applyP OF.pu rfl (by rfl) (fun _ => run_eq_of ?run) (fun _ => by simp [go_sem, *])
      case run => intro K hK; go_simp; exact hK
      try walk_nrm
      co_applyP OF.pu rfl (by rfl) (fun _ => run_eq_of ?run) (fun _ => by simp [go_sem, *])
      case run => intro K hK; go_simp; exact hK
      try walk_nrm
      co_applyP OF.al rfl (by rfl) H hq (fun _ => run_eq_of ?run) (fun _ => by simp [go_sem, *])
      case run => intro K hK; go_simp; exact hK
      intro K w₁ y' w b12 hK1 hr1 hg1 hq1 hb1 hw1 H1
      replace hg := hg.trans hg1
      replace hr := hg1.role.trans hr
      replace hq := hq1
      replace H := H1
      clear hb1 hw1 hr1 hK1 hg1 hq1 H1
      try walk_nrm
      co_applyP OF.str 0 rfl (by rfl) rfl H hq rfl rfl rfl (by kernel_rfl) (by rfl) (by kernel_rfl)
      intro K w₁ w hK1 hr1 hu1 H1
      replace H := H1
      clear hr1 hK1 hu1 H1
      simp only [List.set_cons_zero] at H
      try walk_nrm
      co_applyP OF.pu rfl (by rfl) (fun _ => run_eq_of ?run) (fun _ => by simp [go_sem, *])
      case run => intro K hK; go_simp; exact hK
      try walk_nrm
      co_apply OF.nil
      try simp only [thenF]
      co_apply WF.seqP
      co_apply WF.region
      try simp only [List.size_toArray, List.length_cons, List.length_nil, Nat.reduceAdd, Nat.zero_add, List.range, List.range.loop]
      co_applyP OF.pu rfl (by rfl) (fun _ => run_eq_of ?run) (fun _ => by simp [go_sem, *])
      case run => intro K hK; go_simp; exact hK
      try walk_nrm
      co_applyP OF.pu rfl (by rfl) (fun _ => run_eq_of ?run) (fun _ => by simp [go_sem, *])
      case run => intro K hK; go_simp; exact hK
      try walk_nrm
      co_applyP OF.pu rfl (by rfl) (fun _ => run_eq_of ?run) (fun _ => by simp [go_sem, *])
      case run => intro K hK; go_simp; exact hK
      try walk_nrm
      co_applyP OF.pu rfl (by rfl) (fun _ => run_eq_of ?run) (fun _ => by simp [go_sem, *])
      case run => intro K hK; go_simp; exact hK
      try walk_nrm
      first
      | (co_applyP OF.ldr 0 rfl (by rfl) rfl H hq rfl rfl Try.underlying38 rfl (by kernel_rfl); intro K w hK1 hr1 H1; replace H := H1; skip; clear hr1 hK1 H1)
      | co_apply OF.unwanted rfl (by rfl)
      try walk_nrm
      first
      | (co_applyP OF.ldr 1 rfl (by rfl) rfl H hq rfl rfl Try.underlying29 rfl (by kernel_rfl); intro K w hK1 hr1 H1; replace H := H1; skip; clear hr1 hK1 H1)
      | co_apply OF.unwanted rfl (by rfl)
      try walk_nrm
      co_applyP OF.callJ rfl (by rfl) rfl
      · walk_nrm
        exact halike _ V hr H
      rintro _ K y' w hK1 ⟨rfl, hg1, H1⟩
      replace hg := hg.trans hg1
      replace hr := hg1.role.trans hr
      have hq1 : y'.role.quiet = false := by rw [hr]; rfl
      replace hq := hq1
      replace H := H1
      clear hg1 H1 hq1 hK1
      try walk_nrm
      first
      | (co_applyP OF.pu rfl (by rfl) (fun _ => run_eq_of ?run) (fun _ => by simp [go_sem, *]); case run => intro K hK; go_simp; exact hK)
      | co_apply OF.unwanted rfl (by rfl)
      try walk_nrm
      co_applyP OF.pu rfl (by rfl) (fun _ => run_eq_of ?run) (fun _ => by simp [go_sem, *])
      case run => intro K hK; go_simp; exact hK
      try walk_nrm
      co_apply OF.nil
      try simp only [thenF]
      co_apply WF.cond (t := false) rfl
      simp only [Bool.false_eq_true, ↓reduceIte]
      co_apply WF.skip
      try simp only [blockF, thenF]
      try simp only [thenF]
      co_apply WF.region
      try simp only [List.size_toArray, List.length_cons, List.length_nil, Nat.reduceAdd, Nat.zero_add, List.range, List.range.loop]
      co_applyP OF.pu rfl (by rfl) (fun _ => run_eq_of ?run) (fun _ => by simp [go_sem, *])
      case run => intro K hK; go_simp; exact hK
      try walk_nrm
      co_applyP OF.pu rfl (by rfl) (fun _ => run_eq_of ?run) (fun _ => by simp [go_sem, *])
      case run => intro K hK; go_simp; exact hK
      try walk_nrm
      co_applyP OF.pu rfl (by rfl) (fun _ => run_eq_of ?run) (fun _ => by simp [go_sem, *])
      case run => intro K hK; go_simp; exact hK
      try walk_nrm
      co_apply OF.nil
      exact ⟨2 - (k + 1), ⟨k + 1, _, _, _, _, _, _, _, _, _, _, _, _, _, _, _, _, _, _, _, _, _, _, _, _, _, _, _, _, _, _, _, _, _, _, _, _, _, _, by omega, rfl, rfl, hr, hg.deaf.trans hdf, by rw [hg.rem]; exact hm, H.tail⟩, .inr (by omega)⟩
    · first | omega | (simp only [pl_eq]; omega)
  · skip
    co_apply WF.more
    · skip
      have hb : decide (((k : Nat) : Int) < 2) = false := by simp; omega
      try simp only []
      obtain rfl : 2 = k := by omega
      co_apply WF.seqP (n₂ := 0)
      co_apply WF.seqP
      co_apply WF.region
      try simp only [List.size_toArray, List.length_cons, List.length_nil, Nat.reduceAdd, Nat.zero_add, List.range, List.range.loop]
      co_applyP OF.pu rfl (by rfl) (fun _ => run_eq_of ?run) (fun _ => by simp [go_sem, *])
      case run => intro K hK; go_simp; exact hK
      try walk_nrm
      co_applyP OF.pu rfl (by rfl) (fun _ => run_eq_of ?run) (fun _ => by simp [go_sem, *])
      case run => intro K hK; go_simp; exact hK
      try walk_nrm
      co_apply OF.nil
      try simp only [thenF]
      co_apply WF.cond (t := false) rfl
      simp only [Bool.false_eq_true, ↓reduceIte]
      co_apply WF.exit
      try simp only [thenF]
      try simp only [blockF, thenF, if_true]
      try simp only [thenF]
      co_apply WF.seqP
      co_apply WF.region
      try simp only [List.size_toArray, List.length_cons, List.length_nil, Nat.zero_add, List.range, List.range.loop]
      co_applyP OF.pu rfl (by rfl) (fun _ => run_eq_of ?run) (fun _ => by simp [go_sem, *])
      case run => intro K hK; go_simp; exact hK
      try walk_nrm
      co_apply OF.nil
      try simp only [thenF]
      co_apply WF.ret
      exact ⟨.inl rfl, rfl, _, resultsC_tmp (by rfl) _, fun K₁ hK₁ w₁ r => ⟨⟨_, hr⟩, rfl, rfl⟩⟩
    · first | omega | (simp only [pl_eq]; omega)

set_option maxHeartbeats 8000000 in
set_option maxRecDepth 100000 in
theorem law10_2 : ∃ n, ∀ {N : Nat} {y : Gh Role} {K : Nat} {w : World} (sh : Nat → Prop) (d wn tn kn : Int) (_ : 10000 < tn) (_ : y.role = .alone sh) (_ : y.deaf = 0) (_ : 19266 ≤ y.rem) (_ : Ctx N T0 y K w []),
    J (S N) true K n y (Conc.G (Frame.enter Try.prog 10 #[.int .i64 d, .int .i64 wn, .int .i64 tn, .int .i64 kn] .normal) []) w := by
  obtain ⟨n1, hrst⟩ := rstorm_any
  obtain ⟨n2, hstorm⟩ := storm_any
  obtain ⟨n3, halike⟩ := alike_any
  obtain ⟨rr, hrr⟩ : ∃ rr, 300 + n1 + n2 + n3 ≤ rr := ⟨_, Nat.le_refl _⟩
  co_apply Exists.intro
  intro N y K w sh d wn tn kn q hr hdf hrem H
  obtain ⟨ys, hys⟩ : ∃ ys, ys = y := ⟨y, rfl⟩
  have hrems : 19266 ≤ ys.rem := by rw [hys]; exact hrem
  have hg := Gr.refl y
  have hq : y.role.quiet = false := by rw [hr]; rfl
  have r15 : decide (tn > 300) = true := by simp <;> omega
  have r18 : decide (tn ≤ 10000) = false := by simp <;> omega
  obtain ⟨V, hV⟩ : ∃ V, V = outw d wn tn kn := ⟨_, rfl⟩
  obtain ⟨CC, hC⟩ : ∃ CC, CC = outc d wn tn kn := ⟨_, rfl⟩
  have hov : outv d wn tn kn = .tuple #[.agg #[.int .i64 V.u, .bool V.a, .int .i64 V.s, .int .i64 V.k], .int .i64 CC] := by rw [hV, hC]; rfl
  clear hV hC
  have hcc : (CC == CC) = true := by simp
  have hcn : (CC != CC) = false := by simp
  co_apply J.main Try.func10 rfl (by kernel_rfl)
  simp only [show Try.f10.ntmps = 49 from rfl]
  try walk_nrm
  co_apply WF.seqP
  co_apply WF.region
  try simp only [List.size_toArray, List.length_cons, List.length_nil, Nat.zero_add, List.range, List.range.loop]
  co_applyP OF.pu rfl (by rfl) (fun _ => run_eq_of ?run) (fun _ => by simp [go_sem, *])
  case run => intro K hK; go_simp; exact hK
  try walk_nrm
  co_apply OF.nil
  try simp only [thenF]
  co_apply WF.seqP
  co_apply WF.seqP
  co_apply WF.region
  try simp only [List.size_toArray, List.length_cons, List.length_nil, Nat.reduceAdd, Nat.zero_add, List.range, List.range.loop]
  co_applyP OF.pu rfl (by rfl) (fun _ => run_eq_of ?run) (fun _ => by simp [go_sem, *])
  case run => intro K hK; go_simp; exact hK
  try walk_nrm
  co_applyP OF.pu rfl (by rfl) (fun _ => run_eq_of ?run) (fun _ => by simp [go_sem, *])
  case run => intro K hK; go_simp; exact hK
  try walk_nrm
  co_applyP OF.pu rfl (by rfl) (fun _ => run_eq_of ?run) (fun _ => by simp [go_sem, *])
  case run => intro K hK; go_simp; exact hK
  try walk_nrm
  first
  | (co_applyP OF.pu rfl (by rfl) (fun _ => run_eq_of ?run) (fun _ => by simp [go_sem, *]); case run => intro K hK; go_simp; exact hK)
  | co_apply OF.unwanted rfl (by rfl)
  try walk_nrm
  first
  | (co_applyP OF.pu rfl (by rfl) (fun _ => run_eq_of ?run) (fun _ => by simp [go_sem, *]); case run => intro K hK; go_simp; exact hK)
  | co_apply OF.unwanted rfl (by rfl)
  try walk_nrm
  co_applyP OF.pu rfl (by rfl) (fun _ => run_eq_of ?run) (fun _ => by simp [go_sem, *])
  case run => intro K hK; go_simp; exact hK
  try walk_nrm
  co_apply OF.nil
  try simp only [thenF]
  co_apply WF.cond (t := false) rfl
  simp only [Bool.false_eq_true, ↓reduceIte]
  co_apply WF.skip
  try simp only [thenF]
  co_apply WF.seqP
  co_apply WF.region
  try simp only [List.size_toArray, List.length_cons, List.length_nil, Nat.reduceAdd, Nat.zero_add, List.range, List.range.loop]
  co_applyP OF.pu rfl (by rfl) (fun _ => run_eq_of ?run) (fun _ => by simp [go_sem, *])
  case run => intro K hK; go_simp; exact hK
  try walk_nrm
  co_applyP OF.pu rfl (by rfl) (fun _ => run_eq_of ?run) (fun _ => by simp [go_sem, *])
  case run => intro K hK; go_simp; exact hK
  try walk_nrm
  co_applyP OF.pu rfl (by rfl) (fun _ => run_eq_of ?run) (fun _ => by simp [go_sem, *])
  case run => intro K hK; go_simp; exact hK
  try walk_nrm
  co_applyP OF.pu rfl (by rfl) (fun _ => run_eq_of ?run) (fun _ => by simp [go_sem, *])
  case run => intro K hK; go_simp; exact hK
  try walk_nrm
  co_applyP OF.callJ rfl (by rfl) rfl
  · walk_nrm
    exact hrst sh d wn tn kn hr H
  rintro rv K y' w hK1 ⟨hre, hg1, H1⟩
  rw [hov] at hre
  subst hre
  replace hg := hg.trans hg1
  replace hr := hg1.role.trans hr
  have hq1 : y'.role.quiet = false := by rw [hr]; rfl
  replace hq := hq1
  replace H := H1
  clear hg1 H1 hq1 hK1
  try walk_nrm
  co_applyP OF.pu rfl (by rfl) (fun _ => run_eq_of ?run) (fun _ => by simp [go_sem, *])
  case run => intro K hK; go_simp; exact hK
  try walk_nrm
  co_applyP OF.pu rfl (by rfl) (fun _ => run_eq_of ?run) (fun _ => by simp [go_sem, *])
  case run => intro K hK; go_simp; exact hK
  try walk_nrm
  co_applyP OF.pu rfl (by rfl) (fun _ => run_eq_of ?run) (fun _ => by simp [go_sem, *])
  case run => intro K hK; go_simp; exact hK
  try walk_nrm
  co_applyP OF.al rfl (by rfl) H hq (fun _ => run_eq_of ?run) (fun _ => by simp [go_sem, *])
  case run => intro K hK; go_simp; exact hK
  intro K w₁ y' w b9 hK1 hr1 hg1 hq1 hb1 hw1 H1
  replace hg := hg.trans hg1
  replace hr := hg1.role.trans hr
  replace hq := hq1
  replace H := H1
  clear hb1 hw1 hr1 hK1 hg1 hq1 H1
  try walk_nrm
  co_applyP OF.str 0 rfl (by rfl) rfl H hq rfl rfl rfl (by kernel_rfl) (by rfl) (by kernel_rfl)
  intro K w₁ w hK1 hr1 hu1 H1
  replace H := H1
  clear hr1 hK1 hu1 H1
  simp only [List.set_cons_zero] at H
  try walk_nrm
  co_applyP OF.pu rfl (by rfl) (fun _ => run_eq_of ?run) (fun _ => by simp [go_sem, *])
  case run => intro K hK; go_simp; exact hK
  try walk_nrm
  co_apply OF.nil
  try simp only [thenF]
  co_apply WF.seqP
  co_apply WF.seqP
  co_apply WF.region
  try simp only [List.size_toArray, List.length_cons, List.length_nil, Nat.zero_add, List.range, List.range.loop]
  co_applyP OF.pu rfl (by rfl) (fun _ => run_eq_of ?run) (fun _ => by simp [go_sem, *])
  case run => intro K hK; go_simp; exact hK
  try walk_nrm
  co_apply OF.nil
  try simp only [thenF]
  co_apply WF.block
  have hdf0 := hg.deaf.trans hdf
  have hm0 := hg.rem
  co_apply WF.loopJ (j₀ := 2) (fun (j K : Nat) (y : Gh Role) (a : Act) (w : World) => ∃ (k : Nat) (sh : Nat → Prop) (t12 t13 t14 t15 t16 t17 t18 t19 t20 t21 t22 t23 t24 t25 t26 t27 t28 t29 t30 t31 t32 t33 t34 t35 t36 t37 t38 t39 t40 t41 t42 t43 t44 t45 t46 t47 t48 : Value), k ≤ 2 ∧ j = 2 - k ∧ a = (⟨#[.int .i64 d, .int .i64 wn, .int .i64 tn, .int .i64 kn, undef, undef, undef, undef, .bool false, .pointer (some ⟨b9, 0, none⟩), .int .i64 CC, .int .i64 (k : Int), t12, t13, t14, t15, t16, t17, t18, t19, t20, t21, t22, t23, t24, t25, t26, t27, t28, t29, t30, t31, t32, t33, t34, t35, t36, t37, t38, t39, t40, t41, t42, t43, t44, t45, t46, t47, t48], []⟩ : Act) ∧ y.role = .alone sh ∧ y.deaf = 0 ∧ ys.rem ≤ y.rem + k * 9633 ∧ Ctx N T0 y K w [(b9, #[.int .i64 V.u, .bool V.a, .int .i64 V.s, .int .i64 V.k], 29)]) rr 2
  · exact ⟨0, sh, _, _, _, _, _, _, _, _, _, _, _, _, _, _, _, _, _, _, _, _, _, _, _, _, _, _, _, _, _, _, _, _, _, _, _, _, _, by omega, rfl, rfl, hr, hdf0, by rw [hm0, hys]; omega, H⟩
  · rintro j K y a w ⟨k, sh, _, _, _, _, _, _, _, _, _, _, _, _, _, _, _, _, _, _, _, _, _, _, _, _, _, _, _, _, _, _, _, _, _, _, _, _, _, h, rfl, _⟩
    omega
  clear hq hr H hg hdf0 hm0 hdf
  intro j K y a w hKl hI
  obtain ⟨k, sh, t12, t13, t14, t15, t16, t17, t18, t19, t20, t21, t22, t23, t24, t25, t26, t27, t28, t29, t30, t31, t32, t33, t34, t35, t36, t37, t38, t39, t40, t41, t42, t43, t44, t45, t46, t47, t48, hk, rfl, rfl, hr, hdf, hm, H⟩ := hI
  have hq : y.role.quiet = false := by rw [hr]; rfl
  by_cases hlt : k < 2
  · skip
    co_apply WF.more
    · skip
      have hb : decide (((k : Nat) : Int) < 2) = true := by simp; omega
      try simp only []
      have hw1 : IntKind.i64.wrap (((k : Nat) : Int) + 1) = ((k + 1 : Nat) : Int) := by rw [IntKind.wrap_i64]; omega
      co_apply WF.seqP
      co_apply WF.seqP
      co_apply WF.region
      try simp only [List.size_toArray, List.length_cons, List.length_nil, Nat.reduceAdd, Nat.zero_add, List.range, List.range.loop]
      co_applyP OF.pu rfl (by rfl) (fun _ => run_eq_of ?run) (fun _ => by simp [go_sem, *])
      case run => intro K hK; go_simp; exact hK
      try walk_nrm
      co_applyP OF.pu rfl (by rfl) (fun _ => run_eq_of ?run) (fun _ => by simp [go_sem, *])
      case run => intro K hK; go_simp; exact hK
      try walk_nrm
      co_apply OF.nil
      try simp only [thenF]
      co_apply WF.cond (t := true) rfl
      simp only [↓reduceIte]
      co_apply WF.skip
      try simp only [thenF]
      co_apply WF.seqP
      co_apply WF.block
      co_apply WF.seqP
      co_apply WF.region
      try simp only [List.size_toArray, List.length_cons, List.length_nil, Nat.reduceAdd, Nat.zero_add, List.range, List.range.loop]
      co_applyP OF.pu rfl (by rfl) (fun _ => run_eq_of ?run) (fun _ => by simp [go_sem, *])
      case run => intro K hK; go_simp; exact hK
      try walk_nrm
      co_applyP OF.pu rfl (by rfl) (fun _ => run_eq_of ?run) (fun _ => by simp [go_sem, *])
      case run => intro K hK; go_simp; exact hK
      try walk_nrm
      co_applyP OF.pu rfl (by rfl) (fun _ => run_eq_of ?run) (fun _ => by simp [go_sem, *])
      case run => intro K hK; go_simp; exact hK
      try walk_nrm
      co_applyP OF.pu rfl (by rfl) (fun _ => run_eq_of ?run) (fun _ => by simp [go_sem, *])
      case run => intro K hK; go_simp; exact hK
      try walk_nrm
      co_applyP OF.callJ rfl (by rfl) rfl
      · walk_nrm
        exact hstorm sh d wn tn kn (by omega) hr hdf (by omega) H
      rintro rv K y2 w hK1 ⟨sh2, hre, hr1, hdf1, hm1, H1⟩
      rw [hov] at hre
      subst hre
      replace hr := hr1
      replace hdf := hdf1
      have hm2 : ys.rem ≤ y2.rem + (k + 1) * 9633 := by omega
      replace hm := hm2
      replace H := H1
      have hq : y2.role.quiet = false := by rw [hr]; rfl
      have hg := Gr.refl y2
      clear hr1 hdf1 hm1 hm2 H1 hK1
      try walk_nrm
      co_applyP OF.pu rfl (by rfl) (fun _ => run_eq_of ?run) (fun _ => by simp [go_sem, *])
      case run => intro K hK; go_simp; exact hK
      try walk_nrm
      co_applyP OF.pu rfl (by rfl) (fun _ => run_eq_of ?run) (fun _ => by simp [go_sem, *])
      case run => intro K hK; go_simp; exact hK
      try walk_nrm
      co_applyP OF.pu rfl (by rfl) (fun _ => run_eq_of ?run) (fun _ => by simp [go_sem, *])
      case run => intro K hK; go_simp; exact hK
      try walk_nrm
      co_applyP OF.al rfl (by rfl) H hq (fun _ => run_eq_of ?run) (fun _ => by simp [go_sem, *])
      case run => intro K hK; go_simp; exact hK
      intro K w₁ y' w b12 hK1 hr1 hg1 hq1 hb1 hw1 H1
      replace hg := hg.trans hg1
      replace hr := hg1.role.trans hr
      replace hq := hq1
      replace H := H1
      clear hb1 hw1 hr1 hK1 hg1 hq1 H1
      try walk_nrm
      co_applyP OF.str 0 rfl (by rfl) rfl H hq rfl rfl rfl (by kernel_rfl) (by rfl) (by kernel_rfl)
      intro K w₁ w hK1 hr1 hu1 H1
      replace H := H1
      clear hr1 hK1 hu1 H1
      simp only [List.set_cons_zero] at H
      try walk_nrm
      co_applyP OF.pu rfl (by rfl) (fun _ => run_eq_of ?run) (fun _ => by simp [go_sem, *])
      case run => intro K hK; go_simp; exact hK
      try walk_nrm
      co_apply OF.nil
      try simp only [thenF]
      co_apply WF.seqP
      co_apply WF.region
      try simp only [List.size_toArray, List.length_cons, List.length_nil, Nat.reduceAdd, Nat.zero_add, List.range, List.range.loop]
      co_applyP OF.pu rfl (by rfl) (fun _ => run_eq_of ?run) (fun _ => by simp [go_sem, *])
      case run => intro K hK; go_simp; exact hK
      try walk_nrm
      co_applyP OF.pu rfl (by rfl) (fun _ => run_eq_of ?run) (fun _ => by simp [go_sem, *])
      case run => intro K hK; go_simp; exact hK
      try walk_nrm
      co_applyP OF.pu rfl (by rfl) (fun _ => run_eq_of ?run) (fun _ => by simp [go_sem, *])
      case run => intro K hK; go_simp; exact hK
      try walk_nrm
      co_applyP OF.pu rfl (by rfl) (fun _ => run_eq_of ?run) (fun _ => by simp [go_sem, *])
      case run => intro K hK; go_simp; exact hK
      try walk_nrm
      first
      | (co_applyP OF.ldr 0 rfl (by rfl) rfl H hq rfl rfl Try.underlying38 rfl (by kernel_rfl); intro K w hK1 hr1 H1; replace H := H1; skip; clear hr1 hK1 H1)
      | co_apply OF.unwanted rfl (by rfl)
      try walk_nrm
      first
      | (co_applyP OF.ldr 1 rfl (by rfl) rfl H hq rfl rfl Try.underlying29 rfl (by kernel_rfl); intro K w hK1 hr1 H1; replace H := H1; skip; clear hr1 hK1 H1)
      | co_apply OF.unwanted rfl (by rfl)
      try walk_nrm
      co_applyP OF.callJ rfl (by rfl) rfl
      · walk_nrm
        exact halike _ V hr H
      rintro _ K y' w hK1 ⟨rfl, hg1, H1⟩
      replace hg := hg.trans hg1
      replace hr := hg1.role.trans hr
      have hq1 : y'.role.quiet = false := by rw [hr]; rfl
      replace hq := hq1
      replace H := H1
      clear hg1 H1 hq1 hK1
      try walk_nrm
      first
      | (co_applyP OF.pu rfl (by rfl) (fun _ => run_eq_of ?run) (fun _ => by simp [go_sem, *]); case run => intro K hK; go_simp; exact hK)
      | co_apply OF.unwanted rfl (by rfl)
      try walk_nrm
      co_applyP OF.pu rfl (by rfl) (fun _ => run_eq_of ?run) (fun _ => by simp [go_sem, *])
      case run => intro K hK; go_simp; exact hK
      try walk_nrm
      co_apply OF.nil
      try simp only [thenF]
      co_apply WF.cond (t := false) rfl
      simp only [Bool.false_eq_true, ↓reduceIte]
      co_apply WF.skip
      try simp only [blockF, thenF]
      try simp only [thenF]
      co_apply WF.region
      try simp only [List.size_toArray, List.length_cons, List.length_nil, Nat.reduceAdd, Nat.zero_add, List.range, List.range.loop]
      co_applyP OF.pu rfl (by rfl) (fun _ => run_eq_of ?run) (fun _ => by simp [go_sem, *])
      case run => intro K hK; go_simp; exact hK
      try walk_nrm
      co_applyP OF.pu rfl (by rfl) (fun _ => run_eq_of ?run) (fun _ => by simp [go_sem, *])
      case run => intro K hK; go_simp; exact hK
      try walk_nrm
      co_applyP OF.pu rfl (by rfl) (fun _ => run_eq_of ?run) (fun _ => by simp [go_sem, *])
      case run => intro K hK; go_simp; exact hK
      try walk_nrm
      co_apply OF.nil
      exact ⟨2 - (k + 1), ⟨k + 1, _, _, _, _, _, _, _, _, _, _, _, _, _, _, _, _, _, _, _, _, _, _, _, _, _, _, _, _, _, _, _, _, _, _, _, _, _, _, by omega, rfl, rfl, hr, hg.deaf.trans hdf, by rw [hg.rem]; exact hm, H.tail⟩, .inr (by omega)⟩
    · first | omega | (simp only [pl_eq]; omega)
  · skip
    co_apply WF.more
    · skip
      have hb : decide (((k : Nat) : Int) < 2) = false := by simp; omega
      try simp only []
      obtain rfl : 2 = k := by omega
      co_apply WF.seqP (n₂ := 0)
      co_apply WF.seqP
      co_apply WF.region
      try simp only [List.size_toArray, List.length_cons, List.length_nil, Nat.reduceAdd, Nat.zero_add, List.range, List.range.loop]
      co_applyP OF.pu rfl (by rfl) (fun _ => run_eq_of ?run) (fun _ => by simp [go_sem, *])
      case run => intro K hK; go_simp; exact hK
      try walk_nrm
      co_applyP OF.pu rfl (by rfl) (fun _ => run_eq_of ?run) (fun _ => by simp [go_sem, *])
      case run => intro K hK; go_simp; exact hK
      try walk_nrm
      co_apply OF.nil
      try simp only [thenF]
      co_apply WF.cond (t := false) rfl
      simp only [Bool.false_eq_true, ↓reduceIte]
      co_apply WF.exit
      try simp only [thenF]
      try simp only [blockF, thenF, if_true]
      try simp only [thenF]
      co_apply WF.seqP
      co_apply WF.region
      try simp only [List.size_toArray, List.length_cons, List.length_nil, Nat.zero_add, List.range, List.range.loop]
      co_applyP OF.pu rfl (by rfl) (fun _ => run_eq_of ?run) (fun _ => by simp [go_sem, *])
      case run => intro K hK; go_simp; exact hK
      try walk_nrm
      co_apply OF.nil
      try simp only [thenF]
      co_apply WF.ret
      exact ⟨.inl rfl, rfl, _, resultsC_tmp (by rfl) _, fun K₁ hK₁ w₁ r => ⟨⟨_, hr⟩, rfl, rfl⟩⟩
    · first | omega | (simp only [pl_eq]; omega)


theorem law10 : ∃ n, ∀ {N : Nat} {y : Gh Role} {K : Nat} {w : World} (sh : Nat → Prop) (d wn tn kn : Int) (_ : y.role = .alone sh) (_ : y.deaf = 0) (_ : 19266 ≤ y.rem) (_ : Ctx N T0 y K w []),
    J (S N) true K n y (Conc.G (Frame.enter Try.prog 10 #[.int .i64 d, .int .i64 wn, .int .i64 tn, .int .i64 kn] .normal) []) w := by
  obtain ⟨n0, b0⟩ := law10_0
  obtain ⟨n1, b1⟩ := law10_1
  obtain ⟨n2, b2⟩ := law10_2
  refine ⟨n0 + n1 + n2, fun {N y K w} sh d wn tn kn hr hdf hrem H => ?_⟩
  by_cases q : 300 < tn
  · by_cases q2 : tn ≤ 10000
    · exact (b1 sh d wn tn kn ⟨q, q2⟩ hr hdf hrem H).more (by omega)
    · exact (b2 sh d wn tn kn (by omega) hr hdf hrem H).more (by omega)
  · exact (b0 sh d wn tn kn q hr hdf hrem H).more (by omega)

end Go.Proofs.Ytgnhddnhcfmipaa.Ids
