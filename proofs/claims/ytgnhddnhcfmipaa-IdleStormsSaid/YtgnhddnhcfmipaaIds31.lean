/- IdleStorms: a storm, whole. Printed by wip/tools/gen_ids31.py. -/
import Derived.Test.YtgnhddnhcfmipaaIds30
namespace Go.Proofs.Ytgnhddnhcfmipaa.Ids
open Go Go.Conc Go.RowKit Go.Proofs.Ytgnhddnhcfmipaa.Eg Go.Proofs.Ytgnhddnhcfmipaa

section
variable {N : Nat} {F : Nat → World → Prop} {y : Gh Role} {K : Nat} {w : World} {p q r : Row} {l l' : List Row}
theorem Ctx.perm (H : Ctx N F y K w l) (h : l'.Perm l) : Ctx N F y K w l' :=
  ⟨⟨(h.map (·.1)).nodup_iff.2 H.rows.nd, fun x hx => H.rows.at_ x (h.mem_iff.1 hx)⟩, H.st, H.hi, H.lo, H.big, H.keeps, H.mem⟩
theorem Ctx.rot3 (H : Ctx N F y K w (p :: q :: r :: l)) : Ctx N F y K w (r :: p :: q :: l) :=
  H.perm (((List.Perm.swap p r (q :: l))).trans ((List.Perm.swap q r l).cons p))
theorem Ctx.unrot3 (H : Ctx N F y K w (r :: p :: q :: l)) : Ctx N F y K w (p :: q :: r :: l) :=
  H.perm (((List.Perm.swap q r l).cons p).symm.trans (List.Perm.swap p r (q :: l)).symm)
end

set_option maxHeartbeats 16000000 in
set_option maxRecDepth 100000 in
theorem storm_yes : ∃ nf, ∀ {N : Nat} {y : Gh Role} {K : Nat} {w : World} {l : List Row} (sh : Nat → Prop) (d wn tn kn : Int) (_ : valid d wn tn kn) (_ : tn ≤ 300) (_ : y.role = .alone sh) (_ : y.deaf = 0) (_ : 9633 ≤ y.rem) (_ : Ctx N T0 y K w l),
    CJ (S N) true 40 #[.int .i64 d, .int .i64 wn, .int .i64 tn, .int .i64 kn] nf (fun r K' y' w' => ∃ sh', r = outv d wn tn kn ∧ y'.role = .alone sh' ∧ y'.deaf = 0 ∧ y.rem ≤ y'.rem + 9633 ∧ Ctx N T0 y' K' w' l) K y w := by
  obtain ⟨n1, hnew⟩ := new_ok
  obtain ⟨n2, hadd⟩ := add_b
  obtain ⟨n3, hwait⟩ := wait_b
  obtain ⟨n4, hget⟩ := o_get
  obtain ⟨n5, hsweep⟩ := o_sweep
  obtain ⟨n6, hview⟩ := view_o
  obtain ⟨rr, hrr⟩ : ∃ rr, 300 + n1 + n2 + n3 + n4 + n5 + n6 ≤ rr := ⟨_, Nat.le_refl _⟩
  co_apply Exists.intro
  intro N y K w l sh d wn tn kn hv ht3 hr hdf hrem H
  obtain ⟨hd0, hd1⟩ : 0 ≤ d ∧ d ≤ 2147483647 := by have := hv.1; unfold isTick at this; simpa using this
  obtain ⟨W, rfl⟩ : ∃ W : Nat, wn = W := ⟨wn.toNat, by have := hv.2.1; omega⟩
  obtain ⟨T, rfl⟩ : ∃ T : Nat, tn = T := ⟨tn.toNat, by have := hv.2.2.2.1; omega⟩
  obtain ⟨KN, rfl⟩ : ∃ KN : Nat, kn = KN := ⟨kn.toNat, by have := hv.2.2.2.2.2.1; omega⟩
  have hb4 : 1 ≤ W ∧ W ≤ 16 ∧ T ≤ 300 ∧ KN ≤ 1000 := by obtain ⟨_, _, _, _, _, _, _⟩ := hv; omega
  obtain ⟨hb5, hb6, hb7, hb8⟩ := hb4
  obtain ⟨ys, hys⟩ : ∃ ys, ys = y := ⟨y, rfl⟩
  have hrems : 9633 ≤ ys.rem := by rw [hys]; exact hrem
  have hg := Gr.refl y
  have hq : y.role.quiet = false := by rw [hr]; rfl
  have r0 : decide ((W : Int) < 1) = false := by simp <;> omega
  have r1 : decide ((W : Int) > 16) = false := by simp <;> omega
  have r2 : decide ((T : Int) < 0) = false := by simp <;> omega
  have r3 : decide ((T : Int) > 10000) = false := by simp <;> omega
  have r4 : decide ((KN : Int) < 0) = false := by simp <;> omega
  have r5 : decide ((KN : Int) > 1000) = false := by simp <;> omega
  co_apply CJ.of_WF Try.func40 (by kernel_rfl) (by rfl)
  simp only [show Try.f40.ntmps = 62 from rfl]
  try walk_nrm
  co_apply WF.seqP
  co_apply WF.region
  try simp only [List.size_toArray, List.length_cons, List.length_nil, Nat.reduceAdd, Nat.zero_add, List.range, List.range.loop]
  co_applyP OF.al rfl (by rfl) H hq (fun _ => run_eq_of ?run) (fun _ => by simp [go_sem, *])
  case run => intro K hK; go_simp; exact hK
  intro K w₁ y' w b6 hK1 hr1 hg1 hq1 hb1 hw1 H1
  replace hg := hg.trans hg1
  replace hr := hg1.role.trans hr
  replace hq := hq1
  replace H := H1
  clear hb1 hw1 hr1 hK1 hg1 hq1 H1
  try walk_nrm
  co_applyP OF.al rfl (by rfl) H hq (fun _ => run_eq_of ?run) (fun _ => by simp [go_sem, *])
  case run => intro K hK; go_simp; exact hK
  intro K w₁ y' w b8 hK1 hr1 hg1 hq1 hb1 hw1 H1
  replace hg := hg.trans hg1
  replace hr := hg1.role.trans hr
  replace hq := hq1
  replace H := H1
  clear hb1 hw1 hr1 hK1 hg1 hq1 H1
  try walk_nrm
  co_applyP OF.pu rfl (by rfl) (fun _ => run_eq_of ?run) (fun _ => by simp [go_sem, *])
  case run => intro K hK; go_simp; exact hK
  try walk_nrm
  co_apply OF.nil
  try simp only [thenF]
  co_apply WF.seqP
  co_apply WF.region
  try simp only [List.size_toArray, List.length_cons, List.length_nil, Nat.reduceAdd, Nat.zero_add, List.range, List.range.loop]
  co_applyP OF.pu rfl (by rfl) (fun _ => run_eq_of ?run) (fun _ => by simp [go_sem, *])
  case run => intro K hK; go_simp; exact hK
  try walk_nrm
  co_applyP OF.callJ rfl (by rfl) rfl
  · walk_nrm
    exact hnew sh d hd0 hd1 hr H
  rintro _ K y' w hK1 ⟨g, rfl, hg1, H1⟩
  replace hg := hg.trans hg1
  replace hr := hg1.role.trans hr
  have hq1 : y'.role.quiet = false := by rw [hr]; rfl
  replace hq := hq1
  replace H := H1
  clear hg1 H1 hq1 hK1
  try walk_nrm
  co_applyP OF.pu rfl (by rfl) (fun _ => run_eq_of ?run) (fun _ => by simp [go_sem, *])
  case run => intro K hK; go_simp; exact hK
  try walk_nrm
  co_applyP OF.pu rfl (by rfl) (fun _ => run_eq_of ?run) (fun _ => by simp [go_sem, *])
  case run => intro K hK; go_simp; exact hK
  try walk_nrm
  co_applyP OF.pu rfl (by rfl) (fun _ => run_eq_of ?run) (fun _ => by simp [go_sem, *])
  case run => intro K hK; go_simp; exact hK
  try walk_nrm
  co_applyP OF.al rfl (by rfl) H hq (fun _ => run_eq_of ?run) (fun _ => by simp [go_sem, *])
  case run => intro K hK; go_simp; exact hK
  intro K w₁ y' w b10 hK1 hr1 hg1 hq1 hb1 hw1 H1
  replace hg := hg.trans hg1
  replace hr := hg1.role.trans hr
  replace hq := hq1
  replace H := H1
  clear hb1 hw1 hr1 hK1 hg1 hq1 H1
  try walk_nrm
  co_applyP OF.st1 0 0 rfl (by rfl) rfl H hq rfl rfl rfl rfl rfl (by kernel_rfl)
  intro K w₁ w hK1 hr1 hu1 H1
  replace H := H1
  clear hr1 hK1 hu1 H1
  simp only [List.set_cons_zero, List.setIfInBounds_toArray] at H
  try walk_nrm
  co_applyP OF.pu rfl (by rfl) (fun _ => run_eq_of ?run) (fun _ => by simp [go_sem, *])
  case run => intro K hK; go_simp; exact hK
  try walk_nrm
  co_apply OF.nil
  try simp only [thenF]
  co_apply WF.seqP
  co_apply WF.seqP
  co_apply WF.region
  try simp only [List.size_toArray, List.length_cons, List.length_nil, Nat.reduceAdd, Nat.zero_add, List.range, List.range.loop]
  co_applyP OF.pu rfl (by rfl) (fun _ => run_eq_of ?run) (fun _ => by simp [go_sem, *])
  case run => intro K hK; go_simp; exact hK
  try walk_nrm
  co_applyP OF.pu rfl (by rfl) (fun _ => run_eq_of ?run) (fun _ => by simp [go_sem, *])
  case run => intro K hK; go_simp; exact hK
  try walk_nrm
  co_applyP OF.pu rfl (by rfl) (fun _ => run_eq_of ?run) (fun _ => by simp [go_sem, *])
  case run => intro K hK; go_simp; exact hK
  try walk_nrm
  first
  | (co_applyP OF.pu rfl (by rfl) (fun _ => run_eq_of ?run) (fun _ => by simp [go_sem, *]); case run => intro K hK; go_simp; exact hK)
  | co_apply OF.unwanted rfl (by rfl)
  try walk_nrm
  first
  | (co_applyP OF.pu rfl (by rfl) (fun _ => run_eq_of ?run) (fun _ => by simp [go_sem, *]); case run => intro K hK; go_simp; exact hK)
  | co_apply OF.unwanted rfl (by rfl)
  try walk_nrm
  co_applyP OF.pu rfl (by rfl) (fun _ => run_eq_of ?run) (fun _ => by simp [go_sem, *])
  case run => intro K hK; go_simp; exact hK
  try walk_nrm
  co_applyP OF.pu rfl (by rfl) (fun _ => run_eq_of ?run) (fun _ => by simp [go_sem, *])
  case run => intro K hK; go_simp; exact hK
  try walk_nrm
  first
  | (co_applyP OF.pu rfl (by rfl) (fun _ => run_eq_of ?run) (fun _ => by simp [go_sem, *]); case run => intro K hK; go_simp; exact hK)
  | co_apply OF.unwanted rfl (by rfl)
  try walk_nrm
  first
  | (co_applyP OF.pu rfl (by rfl) (fun _ => run_eq_of ?run) (fun _ => by simp [go_sem, *]); case run => intro K hK; go_simp; exact hK)
  | co_apply OF.unwanted rfl (by rfl)
  try walk_nrm
  co_applyP OF.pu rfl (by rfl) (fun _ => run_eq_of ?run) (fun _ => by simp [go_sem, *])
  case run => intro K hK; go_simp; exact hK
  try walk_nrm
  co_applyP OF.pu rfl (by rfl) (fun _ => run_eq_of ?run) (fun _ => by simp [go_sem, *])
  case run => intro K hK; go_simp; exact hK
  try walk_nrm
  first
  | (co_applyP OF.ld1 3 0 rfl (by rfl) rfl H hq rfl rfl rfl Try.underlying3 rfl; intro K w hK1 hr1 H1; replace H := H1; skip; clear hr1 hK1 H1)
  | co_apply OF.unwanted rfl (by rfl)
  try walk_nrm
  first
  | (co_applyP OF.pu rfl (by rfl) (fun _ => run_eq_of ?run) (fun _ => by simp [go_sem, *]); case run => intro K hK; go_simp; exact hK)
  | co_apply OF.unwanted rfl (by rfl)
  try walk_nrm
  co_applyP OF.pu rfl (by rfl) (fun _ => run_eq_of ?run) (fun _ => by simp [go_sem, *])
  case run => intro K hK; go_simp; exact hK
  try walk_nrm
  co_applyP OF.pu rfl (by rfl) (fun _ => run_eq_of ?run) (fun _ => by simp [go_sem, *])
  case run => intro K hK; go_simp; exact hK
  try walk_nrm
  first
  | (co_applyP OF.ld1 3 0 rfl (by rfl) rfl H hq rfl rfl rfl Try.underlying3 rfl; intro K w hK1 hr1 H1; replace H := H1; skip; clear hr1 hK1 H1)
  | co_apply OF.unwanted rfl (by rfl)
  try walk_nrm
  first
  | (co_applyP OF.pu rfl (by rfl) (fun _ => run_eq_of ?run) (fun _ => by simp [go_sem, *]); case run => intro K hK; go_simp; exact hK)
  | co_apply OF.unwanted rfl (by rfl)
  try walk_nrm
  co_applyP OF.pu rfl (by rfl) (fun _ => run_eq_of ?run) (fun _ => by simp [go_sem, *])
  case run => intro K hK; go_simp; exact hK
  try walk_nrm
  co_applyP OF.pu rfl (by rfl) (fun _ => run_eq_of ?run) (fun _ => by simp [go_sem, *])
  case run => intro K hK; go_simp; exact hK
  try walk_nrm
  first
  | (co_applyP OF.pu rfl (by rfl) (fun _ => run_eq_of ?run) (fun _ => by simp [go_sem, *]); case run => intro K hK; go_simp; exact hK)
  | co_apply OF.unwanted rfl (by rfl)
  try walk_nrm
  first
  | (co_applyP OF.pu rfl (by rfl) (fun _ => run_eq_of ?run) (fun _ => by simp [go_sem, *]); case run => intro K hK; go_simp; exact hK)
  | co_apply OF.unwanted rfl (by rfl)
  try walk_nrm
  co_applyP OF.pu rfl (by rfl) (fun _ => run_eq_of ?run) (fun _ => by simp [go_sem, *])
  case run => intro K hK; go_simp; exact hK
  try walk_nrm
  co_applyP OF.pu rfl (by rfl) (fun _ => run_eq_of ?run) (fun _ => by simp [go_sem, *])
  case run => intro K hK; go_simp; exact hK
  try walk_nrm
  first
  | (co_applyP OF.pu rfl (by rfl) (fun _ => run_eq_of ?run) (fun _ => by simp [go_sem, *]); case run => intro K hK; go_simp; exact hK)
  | co_apply OF.unwanted rfl (by rfl)
  try walk_nrm
  first
  | (co_applyP OF.pu rfl (by rfl) (fun _ => run_eq_of ?run) (fun _ => by simp [go_sem, *]); case run => intro K hK; go_simp; exact hK)
  | co_apply OF.unwanted rfl (by rfl)
  try walk_nrm
  co_applyP OF.pu rfl (by rfl) (fun _ => run_eq_of ?run) (fun _ => by simp [go_sem, *])
  case run => intro K hK; go_simp; exact hK
  try walk_nrm
  co_apply OF.nil
  try simp only [thenF]
  co_apply WF.cond (t := false) rfl
  simp only [Bool.false_eq_true, ↓reduceIte]
  co_apply WF.skip
  try simp only [thenF]
  co_apply WF.seqP
  co_apply WF.region
  try simp only [List.size_toArray, List.length_cons, List.length_nil, Nat.zero_add, List.range, List.range.loop]
  co_applyP OF.al rfl (by rfl) H hq (fun _ => run_eq_of ?run) (fun _ => by simp [go_sem, *])
  case run => intro K hK; go_simp; exact hK
  intro K w₁ y' w b12 hK1 hr1 hg1 hq1 hb1 hw1 H1
  replace hg := hg.trans hg1
  replace hr := hg1.role.trans hr
  replace hq := hq1
  replace H := H1
  clear hb1 hw1 hr1 hK1 hg1 hq1 H1
  try walk_nrm
  co_apply OF.nil
  try simp only [thenF]
  co_apply WF.seqP
  co_apply WF.seqP
  co_apply WF.region
  try simp only [List.size_toArray, List.length_cons, List.length_nil, Nat.reduceAdd, Nat.zero_add, List.range, List.range.loop]
  obtain ⟨c, hcd⟩ : ∃ c : Cfg, c = ⟨b12, g, b6, b10, T, d, sh⟩ := ⟨_, rfl⟩
  have e1 : b12 = c.wg := by rw [hcd]
  have e2 : g = c.wd := by rw [hcd]
  have e3 : b6 = c.tb := by rw [hcd]
  have e4 : b10 = c.wb := by rw [hcd]
  have e5 : T = c.T := by rw [hcd]
  have e6 : d = c.d := by rw [hcd]
  have e7 : sh = c.shun := by rw [hcd]
  clear hcd
  subst e1 e2 e3 e4 e5 e6 e7
  have hcN : N ≤ c.wd ∧ N ≤ c.tb ∧ N ≤ c.wb := ⟨H.hi _ (H.rows.mine 2 rfl), H.hi _ (H.rows.mine 4 rfl), H.hi _ (H.rows.mine 1 rfl)⟩
  obtain ⟨nk, hkid⟩ := kid c
  co_applyP OF.start (c := c) rfl (by rfl) (fun _ => run_eq_of ?run) (fun _ => by simp [go_sem, *]) H hr (hg.deaf.trans hdf) ⟨hd0, hd1⟩ (by omega)
  case run => intro K hK; go_simp; exact hK
  intro K y1 w hK1 hr1 hdf1 hm1 H1
  have hm : ys.rem ≤ y1.rem + 0 * 602 := by rw [hm1, hg.rem, hys]; omega
  replace hr := hr1
  replace hdf := hdf1
  replace H := H1
  have hq : y1.role.quiet = false := by rw [hr1]; rfl
  clear hK1 hr1 hdf1 hm1 H1
  try walk_nrm
  co_applyP OF.pu rfl (by rfl) (fun _ => run_eq_of ?run) (fun _ => by simp [go_sem, *])
  case run => intro K hK; go_simp; exact hK
  try walk_nrm
  co_apply OF.nil
  try simp only [thenF]
  co_apply WF.block
  co_apply WF.loopJ (j₀ := W) (fun (j K : Nat) (y : Gh Role) (a : Act) (w : World) => ∃ (k : Nat) (t9 t11 t13 t14 t15 t16 t17 t18 t19 t20 t21 t22 t23 t24 t25 t26 t27 t28 t29 t30 t31 t32 t33 t34 t35 t36 t37 t38 t39 t40 t41 t42 t43 t44 t47 t48 t49 t50 : Value), k ≤ W ∧ j = W - k ∧ a = (⟨#[.int .i64 c.d, .int .i64 (W : Int), .int .i64 (c.T : Int), .int .i64 (KN : Int), undef, undef, .pointer (some ⟨c.tb, 0, none⟩), undef, .pointer (some ⟨b8, 0, none⟩), t9, .pointer (some ⟨c.wb, 0, none⟩), t11, .pointer (some ⟨c.wg, 0, none⟩), t13, t14, t15, t16, t17, t18, t19, t20, t21, t22, t23, t24, t25, t26, t27, t28, t29, t30, t31, t32, t33, t34, t35, t36, t37, t38, t39, t40, t41, t42, t43, t44, .int .i64 (W : Int), .int .i64 (k : Int), t47, t48, t49, t50, undef, undef, undef, undef, undef, undef, undef, undef, undef, undef, undef], []⟩ : Act) ∧ y.role = .boss c (.op k false) ∧ y.deaf = 0 ∧ ys.rem ≤ y.rem + k * 602 ∧ Ctx N T0 y K w ((b8, #[.int .i64 0, .bool false, .int .i64 0, .int .i64 0], 38) :: l)) rr 16
  · exact ⟨0, _, _, _, _, _, _, _, _, _, _, _, _, _, _, _, _, _, _, _, _, _, _, _, _, _, _, _, _, _, _, _, _, _, _, _, _, _, _, Nat.zero_le _, rfl, rfl, hr, hdf, hm, H⟩
  · rintro j K y a w ⟨k, _, _, _, _, _, _, _, _, _, _, _, _, _, _, _, _, _, _, _, _, _, _, _, _, _, _, _, _, _, _, _, _, _, _, _, _, _, _, h, rfl, _⟩
    omega
  clear hq hm hdf hr H
  intro j K y a w hKl hI
  obtain ⟨k, t9, t11, t13, t14, t15, t16, t17, t18, t19, t20, t21, t22, t23, t24, t25, t26, t27, t28, t29, t30, t31, t32, t33, t34, t35, t36, t37, t38, t39, t40, t41, t42, t43, t44, t47, t48, t49, t50, hk, rfl, rfl, hr, hdf, hm, H⟩ := hI
  have hq : y.role.quiet = false := by rw [hr]; rfl
  by_cases hlt : k < W
  · skip
    co_apply WF.more
    · skip
      have hb : decide (((k : Nat) : Int) < (W : Int)) = true := by simp; omega
      try simp only []
      have hw1 : IntKind.i64.wrap (((k : Nat) : Int) + 1) = ((k + 1 : Nat) : Int) := by rw [IntKind.wrap_i64]; omega
      co_apply WF.seqP
      co_apply WF.region
      try simp only [List.size_toArray, List.length_cons, List.length_nil, Nat.zero_add, List.range, List.range.loop]
      co_applyP OF.pu rfl (by rfl) (fun _ => run_eq_of ?run) (fun _ => by simp [go_sem, *])
      case run => intro K hK; go_simp; exact hK
      try walk_nrm
      co_apply OF.nil
      try simp only [thenF]
      co_apply WF.seqP
      co_apply WF.cond (t := true) rfl
      simp only [↓reduceIte]
      co_apply WF.skip
      try simp only [thenF]
      co_apply WF.seqP
      co_apply WF.block
      co_apply WF.seqP
      co_apply WF.region
      try simp only [List.size_toArray, List.length_cons, List.length_nil, Nat.zero_add, List.range, List.range.loop]
      co_applyP OF.callJ rfl (by rfl) rfl
      · walk_nrm
        exact hadd c k (by omega) hr hdf H
      rintro v48 K y2 w hK1 ⟨hy, H1⟩
      have hr1 : y2.role = .boss c (.op k true) := by rw [hy]
      have hdf1 : y2.deaf = 0 := by rw [hy]
      have hm1 : ys.rem ≤ y2.rem + k * 602 := by rw [hy]; exact hm
      replace hr := hr1
      replace hdf := hdf1
      replace hm := hm1
      replace H := H1
      have hq : y2.role.quiet = false := by rw [hr]; rfl
      clear hy hK1 hr1 hdf1 hm1 H1
      try walk_nrm
      co_apply OF.nil
      try simp only [thenF]
      co_apply WF.region
      try simp only [List.size_toArray, List.length_cons, List.length_nil, Nat.reduceAdd, Nat.zero_add, List.range, List.range.loop]
      co_applyP OF.pu rfl (by rfl) (fun _ => run_eq_of ?run) (fun _ => by simp [go_sem, *])
      case run => intro K hK; go_simp; exact hK
      try walk_nrm
      co_applyP OF.spawn (d := kidCall c) rfl (by rfl) H hr hdf (by omega) (fun _ => by simp [go_sem, kidCall, Deferred.ofValue]) (fun _ => by simp [go_sem]) rfl hkid
      intro K w hK1 H1
      have hr1 : (⟨y2.own, y2.rem - (2 * c.T + 2), 0, .boss c (.op (k + 1) false)⟩ : Gh Role).role = .boss c (.op (k + 1) false) := rfl
      have hdf1 : (⟨y2.own, y2.rem - (2 * c.T + 2), 0, .boss c (.op (k + 1) false)⟩ : Gh Role).deaf = 0 := rfl
      have hm1 : ys.rem ≤ (⟨y2.own, y2.rem - (2 * c.T + 2), 0, .boss c (.op (k + 1) false)⟩ : Gh Role).rem + (k + 1) * 602 := by simp only; omega
      generalize (⟨y2.own, y2.rem - (2 * c.T + 2), 0, .boss c (.op (k + 1) false)⟩ : Gh Role) = y3 at hr1 hdf1 hm1 H1 ⊢
      replace hr := hr1
      replace hdf := hdf1
      replace hm := hm1
      replace H := H1
      have hq : y3.role.quiet = false := by rw [hr]; rfl
      clear hK1 hr1 hdf1 hm1 H1
      try walk_nrm
      co_apply OF.nil
      try simp only [blockF, thenF]
      try simp only [thenF]
      co_apply WF.region
      try simp only [List.size_toArray, List.length_cons, List.length_nil, Nat.reduceAdd, Nat.zero_add, List.range, List.range.loop]
      co_applyP OF.pu rfl (by rfl) (fun _ => run_eq_of ?run) (fun _ => by simp [go_sem, *])
      case run => intro K hK; go_simp; exact hK
      try walk_nrm
      co_applyP OF.pu rfl (by rfl) (fun _ => run_eq_of ?run) (fun _ => by simp [go_sem, *])
      case run => intro K hK; go_simp; exact hK
      try walk_nrm
      co_apply OF.nil
      exact ⟨W - (k + 1), ⟨k + 1, _, _, _, _, _, _, _, _, _, _, _, _, _, _, _, _, _, _, _, _, _, _, _, _, _, _, _, _, _, _, _, _, _, _, _, _, _, _, by omega, rfl, rfl, hr, hdf, hm, H⟩, .inr (by omega)⟩
    · first | omega | (simp only [pl_eq]; omega)
  · skip
    co_apply WF.more
    · skip
      have hb : decide (((k : Nat) : Int) < (W : Int)) = false := by simp; omega
      try simp only []
      obtain rfl : W = k := by omega
      co_apply WF.seqP
      co_apply WF.region
      try simp only [List.size_toArray, List.length_cons, List.length_nil, Nat.zero_add, List.range, List.range.loop]
      co_applyP OF.pu rfl (by rfl) (fun _ => run_eq_of ?run) (fun _ => by simp [go_sem, *])
      case run => intro K hK; go_simp; exact hK
      try walk_nrm
      co_apply OF.nil
      try simp only [thenF]
      co_apply WF.seqP (n₂ := 0)
      co_apply WF.cond (t := false) rfl
      simp only [Bool.false_eq_true, ↓reduceIte]
      co_apply WF.exit
      try simp only [thenF]
      try simp only [blockF, thenF, if_true]
      try simp only [thenF]
      co_apply WF.seqP
      co_apply WF.region
      try simp only [List.size_toArray, List.length_cons, List.length_nil, Nat.zero_add, List.range, List.range.loop]
      co_applyP OF.callJ rfl (by rfl) rfl
      · walk_nrm
        exact hwait c W (by omega) hcN hr hdf (by omega) H
      rintro v51 K yw w hK1 ⟨hr1, hdf1, hm1, ho1, H1⟩
      replace hm : ys.rem ≤ yw.rem + 9633 := by omega
      replace hr := hr1
      replace hdf := hdf1
      replace H := H1
      simp only [back] at H
      have hz : decide (0 < c.T) = decide ((0 : Nat) < 0 ∨ 0 < c.T) := by simp
      rw [hz] at H
      have hq : yw.role.quiet = false := by rw [hr]; rfl
      replace hg := Gr.refl yw
      clear hK1 hr1 hdf1 hm1 ho1 H1 hz
      try walk_nrm
      co_apply OF.nil
      try simp only [thenF]
      co_apply WF.seqP
      co_apply WF.seqP
      co_apply WF.region
      try simp only [List.size_toArray, List.length_cons, List.length_nil, Nat.reduceAdd, Nat.zero_add, List.range, List.range.loop]
      co_applyP OF.pu rfl (by rfl) (fun _ => run_eq_of ?run) (fun _ => by simp [go_sem, *])
      case run => intro K hK; go_simp; exact hK
      try walk_nrm
      co_applyP OF.pu rfl (by rfl) (fun _ => run_eq_of ?run) (fun _ => by simp [go_sem, *])
      case run => intro K hK; go_simp; exact hK
      try walk_nrm
      co_apply OF.nil
      try simp only [thenF]
      co_apply WF.block
      co_apply WF.loopJ (j₀ := KN) (fun (j K : Nat) (y : Gh Role) (a : Act) (w : World) => ∃ (i : Nat) (t9 t11 t13 t14 t15 t16 t17 t18 t19 t20 t21 t22 t23 t24 t25 t26 t27 t28 t29 t30 t31 t32 t33 t34 t35 t36 t37 t38 t39 t40 t41 t42 t43 t44 t45 t46 t47 t48 t49 t50 t51 t54 t55 t56 t57 : Value), i ≤ KN ∧ j = KN - i ∧ a = (⟨#[.int .i64 c.d, .int .i64 (W : Int), .int .i64 (c.T : Int), .int .i64 (KN : Int), undef, undef, .pointer (some ⟨c.tb, 0, none⟩), undef, .pointer (some ⟨b8, 0, none⟩), t9, .pointer (some ⟨c.wb, 0, none⟩), t11, .pointer (some ⟨c.wg, 0, none⟩), t13, t14, t15, t16, t17, t18, t19, t20, t21, t22, t23, t24, t25, t26, t27, t28, t29, t30, t31, t32, t33, t34, t35, t36, t37, t38, t39, t40, t41, t42, t43, t44, t45, t46, t47, t48, t49, t50, t51, .int .i64 (KN : Int), .int .i64 (i : Int), t54, t55, t56, t57, undef, undef, undef, undef], []⟩ : Act) ∧ y.role = .alone (fun b => c.shun b ∨ b = c.wg) ∧ Gr yw y ∧ Ctx N T0 y K w ((c.tb, #[.int .i64 (c.T : Int)], 3) :: (c.wb, #[.pointer (some ⟨c.wd, 0, none⟩)], 23) :: (c.wd, #[.int .i64 c.d, .int .u64 (wdv ((i : Nat) : Int) (decide (0 < i ∨ 0 < c.T))).num], 100) :: (b8, #[.int .i64 0, .bool false, .int .i64 0, .int .i64 0], 38) :: l)) rr 1000
      · exact ⟨0, _, _, _, _, _, _, _, _, _, _, _, _, _, _, _, _, _, _, _, _, _, _, _, _, _, _, _, _, _, _, _, _, _, _, _, _, _, _, _, _, _, _, _, _, _, Nat.zero_le _, rfl, rfl, hr, hg, H⟩
      · rintro j K y a w ⟨k, _, _, _, _, _, _, _, _, _, _, _, _, _, _, _, _, _, _, _, _, _, _, _, _, _, _, _, _, _, _, _, _, _, _, _, _, _, _, _, _, _, _, _, _, _, h, rfl, _⟩
        omega
      clear hq hr H hg
      intro j K y a w hKl hI
      obtain ⟨i, t9, t11, t13, t14, t15, t16, t17, t18, t19, t20, t21, t22, t23, t24, t25, t26, t27, t28, t29, t30, t31, t32, t33, t34, t35, t36, t37, t38, t39, t40, t41, t42, t43, t44, t45, t46, t47, t48, t49, t50, t51, t54, t55, t56, t57, hi, rfl, rfl, hr, hg, H⟩ := hI
      have hq : y.role.quiet = false := by rw [hr]; rfl
      by_cases hlt : i < KN
      · skip
        co_apply WF.more
        · skip
          have hb : decide (((i : Nat) : Int) < (KN : Int)) = true := by simp; omega
          try simp only []
          have hw1 : IntKind.i64.wrap (((i : Nat) : Int) + 1) = ((i + 1 : Nat) : Int) := by rw [IntKind.wrap_i64]; omega
          co_apply WF.seqP
          co_apply WF.region
          try simp only [List.size_toArray, List.length_cons, List.length_nil, Nat.zero_add, List.range, List.range.loop]
          co_applyP OF.pu rfl (by rfl) (fun _ => run_eq_of ?run) (fun _ => by simp [go_sem, *])
          case run => intro K hK; go_simp; exact hK
          try walk_nrm
          co_apply OF.nil
          try simp only [thenF]
          co_apply WF.seqP
          co_apply WF.cond (t := true) rfl
          simp only [↓reduceIte]
          co_apply WF.skip
          try simp only [thenF]
          co_apply WF.seqP
          co_apply WF.block
          co_apply WF.region
          try simp only [List.size_toArray, List.length_cons, List.length_nil, Nat.reduceAdd, Nat.zero_add, List.range, List.range.loop]
          co_applyP OF.ld1 1 0 rfl (by rfl) rfl H hq rfl rfl rfl Try.underlying23 rfl
          intro K w hK1 hr1 H1
          replace H := H1
          clear hr1 hK1 H1
          try walk_nrm
          co_applyP OF.callJ rfl (by rfl) rfl
          · walk_nrm
            exact hget _ c.wd c.d i _ (by omega) hr H.rot3
          rintro _ K y' w hK1 ⟨hg1, H1⟩
          replace hg := hg.trans hg1
          replace hr := hg1.role.trans hr
          have hq1 : y'.role.quiet = false := by rw [hr]; rfl
          replace hq := hq1
          replace H := H1
          replace H := H.unrot3
          clear hg1 H1 hq1 hK1
          try walk_nrm
          co_apply OF.nil
          try simp only [blockF, thenF]
          try simp only [thenF]
          co_apply WF.region
          try simp only [List.size_toArray, List.length_cons, List.length_nil, Nat.reduceAdd, Nat.zero_add, List.range, List.range.loop]
          co_applyP OF.pu rfl (by rfl) (fun _ => run_eq_of ?run) (fun _ => by simp [go_sem, *])
          case run => intro K hK; go_simp; exact hK
          try walk_nrm
          co_applyP OF.pu rfl (by rfl) (fun _ => run_eq_of ?run) (fun _ => by simp [go_sem, *])
          case run => intro K hK; go_simp; exact hK
          try walk_nrm
          co_apply OF.nil
          have he1 : decide (0 < i + 1 ∨ 0 < c.T) = true := by simp
          exact ⟨KN - (i + 1), ⟨i + 1, _, _, _, _, _, _, _, _, _, _, _, _, _, _, _, _, _, _, _, _, _, _, _, _, _, _, _, _, _, _, _, _, _, _, _, _, _, _, _, _, _, _, _, _, _, by omega, rfl, rfl, hr, hg, by rw [he1]; exact H⟩, .inr (by omega)⟩
        · first | omega | (simp only [pl_eq]; omega)
      · skip
        co_apply WF.more
        · skip
          have hb : decide (((i : Nat) : Int) < (KN : Int)) = false := by simp; omega
          try simp only []
          obtain rfl : KN = i := by omega
          co_apply WF.seqP
          co_apply WF.region
          try simp only [List.size_toArray, List.length_cons, List.length_nil, Nat.zero_add, List.range, List.range.loop]
          co_applyP OF.pu rfl (by rfl) (fun _ => run_eq_of ?run) (fun _ => by simp [go_sem, *])
          case run => intro K hK; go_simp; exact hK
          try walk_nrm
          co_apply OF.nil
          try simp only [thenF]
          co_apply WF.seqP (n₂ := 0)
          co_apply WF.cond (t := false) rfl
          simp only [Bool.false_eq_true, ↓reduceIte]
          co_apply WF.exit
          try simp only [thenF]
          try simp only [blockF, thenF, if_true]
          try simp only [thenF]
          co_apply WF.seqP
          co_apply WF.region
          try simp only [List.size_toArray, List.length_cons, List.length_nil, Nat.reduceAdd, Nat.zero_add, List.range, List.range.loop]
          co_applyP OF.ld1 1 0 rfl (by rfl) rfl H hq rfl rfl rfl Try.underlying23 rfl
          intro K w hK1 hr1 H1
          replace H := H1
          clear hr1 hK1 H1
          try walk_nrm
          co_applyP OF.callJ rfl (by rfl) rfl
          · walk_nrm
            exact hsweep _ c.wd c.d c.T KN ⟨hd0, hd1⟩ (by omega) hr H.rot3
          rintro _ K y' w hK1 ⟨hg1, H1⟩
          replace hg := hg.trans hg1
          replace hr := hg1.role.trans hr
          have hq1 : y'.role.quiet = false := by rw [hr]; rfl
          replace hq := hq1
          replace H := H1
          replace H := H.unrot3
          clear hg1 H1 hq1 hK1
          try walk_nrm
          co_apply OF.nil
          try simp only [thenF]
          co_apply WF.seqP
          co_apply WF.region
          try simp only [List.size_toArray, List.length_cons, List.length_nil, Nat.reduceAdd, Nat.zero_add, List.range, List.range.loop]
          co_applyP OF.ld1 1 0 rfl (by rfl) rfl H hq rfl rfl rfl Try.underlying23 rfl
          intro K w hK1 hr1 H1
          replace H := H1
          clear hr1 hK1 H1
          try walk_nrm
          co_applyP OF.callJ rfl (by rfl) rfl
          · walk_nrm
            exact hview _ c.wd c.d (endv (c.T : Int) (KN : Int)).u (endv (c.T : Int) (KN : Int)).s (endv (c.T : Int) (KN : Int)).k (endv (c.T : Int) (KN : Int)).a (endv_ok (by omega)) hr H.rot3
          rintro _ K y' w hK1 ⟨rfl, hg1, H1⟩
          replace hg := hg.trans hg1
          replace hr := hg1.role.trans hr
          have hq1 : y'.role.quiet = false := by rw [hr]; rfl
          replace hq := hq1
          replace H := H1
          replace H := H.unrot3
          clear hg1 H1 hq1 hK1
          try walk_nrm
          co_applyP OF.str 3 rfl (by rfl) rfl H hq rfl rfl rfl (by kernel_rfl) (by rfl) (by kernel_rfl)
          intro K w₁ w hK1 hr1 hu1 H1
          replace H := H1
          clear hr1 hK1 hu1 H1
          simp only [List.set_cons_zero, List.set_cons_succ] at H
          try walk_nrm
          co_applyP OF.pu rfl (by rfl) (fun _ => run_eq_of ?run) (fun _ => by simp [go_sem, *])
          case run => intro K hK; go_simp; exact hK
          try walk_nrm
          co_apply OF.nil
          try simp only [thenF]
          co_apply WF.ret
          exact retG_cell_tmp 3 rfl H hq rfl rfl rfl Try.underlying38 rfl (by kernel_rfl) fun K₁ hK w₁ r H => ⟨_, by rw [outv_yes hv]; rfl, hr, hg.deaf.trans hdf, by rw [hg.rem, ← hys]; exact hm, H.tail.tail.tail.tail⟩
        · first | omega | (simp only [pl_eq]; omega)
    · first | omega | (simp only [pl_eq]; omega)

end Go.Proofs.Ytgnhddnhcfmipaa.Ids
