/- IdleStorms: Add(1) in a storm. Printed by wip/tools/gen_ids26.py. -/
import Derived.Test.YtgnhddnhcfmipaaIds25
namespace Go.Proofs.Ytgnhddnhcfmipaa.Ids
open Go Go.Conc Go.RowKit Go.Proofs.Ytgnhddnhcfmipaa.Eg Go.Proofs.Ytgnhddnhcfmipaa Go.ConcR.Gen

theorem flag0 (v : Nat) (hv : v < 18) : bits BinOp.and IntKind.u64 ((v : Int) * 4294967296) 2147483648 = 0 := by
  have : ∀ v : Nat, v < 18 → bits BinOp.and IntKind.u64 ((v : Int) * 4294967296) 2147483648 = 0 := by decide +kernel
  exact this v hv
theorem low0 (v : Nat) (hv : v < 18) : bits BinOp.and IntKind.u64 ((v : Int) * 4294967296) 2147483647 = 0 := by
  have : ∀ v : Nat, v < 18 → bits BinOp.and IntKind.u64 ((v : Int) * 4294967296) 2147483647 = 0 := by decide +kernel
  exact this v hv

section
variable {N : Nat} {F : Nat → World → Prop} {K K' : Nat} {y : Gh Role} {w : World} {l : List Row} {c : Cfg}
/-- A turn of the group, as goroutine 0 sees it. -/
theorem Ctx.gturn {p p' : Bp} {r' d' i : Nat} {v : Value} (H : Ctx N F y K w l) (hr : y.role = .boss c p) (hK : r' ≤ K') (hs : StB c p' (w.setCell ⟨c.wg, i, none⟩ v)) : Ctx N T0 ⟨y.own, r', d', .boss c p'⟩ K' (w.setCell ⟨c.wg, i, none⟩ v) l := by
  obtain ⟨hb, ap⟩ := H.st.boss hr
  have hcl := H.st.2.1
  rw [hr] at hcl
  exact ⟨H.rows.of (fun _ h => h) fun b hb => heap_setCell_other _ _ _ _ (ap b hb).2.2.2, ⟨hK, by rw [set_size]; exact hcl, hs, ap⟩, H.hi, fun b hb => by rw [set_size]; exact H.lo b hb, by rw [set_size]; exact H.big, Keeps.triv _, trivial⟩
/-- .. where the world stands. -/
theorem Ctx.gas {p p' : Bp} {r' d' : Nat} (H : Ctx N F y K w l) (hr : y.role = .boss c p) (hK : r' ≤ K') (hs : StB c p' w) : Ctx N T0 ⟨y.own, r', d', .boss c p'⟩ K' w l := by
  obtain ⟨hb, ap⟩ := H.st.boss hr
  have hcl := H.st.2.1
  rw [hr] at hcl
  exact ⟨H.rows, ⟨hK, hcl, hs, ap⟩, H.hi, H.lo, H.big, Keeps.triv _, trivial⟩
theorem StB.added {k : Nat} (h : StB c (.op k false) w) (hk : k < 16) : ∃ n : Nat, n ≤ k ∧ w.heap[c.wg]? = some (grO ((n : Nat) * 4294967296) 0) ∧ StB c (.op k true) (w.setCell ⟨c.wg, 0, none⟩ (.int .u64 ((n + 1 : Nat) * 4294967296))) := by
  obtain ⟨s1, u, e, hwd, n, h1, h2, h3, h4, h5⟩ := h
  simp only [b2n] at h4
  have h4' : w.heap[c.wg]? = some (grO ((n : Nat) * 4294967296) 0) := by simpa using h4
  exact ⟨n, h2, h4', s1.setg h4' _ _, u, e, (heap_setCell_other _ _ _ _ (wdg hwd h4')).trans hwd, n, h1, h2, by simp only [b2n]; simp; omega, by rw [gr_set0 h4']; simp [b2n], h5⟩
end

set_option maxRecDepth 100000 in
theorem uadd_b : ∃ nf, ∀ {N : Nat} {F : Nat → World → Prop} {m : Bool} {y : Gh Role} {K : Nat} {w : World} {l : List Row} (c : Cfg) (k : Nat) (_ : k < 16) (_ : y.role = .boss c (.op k false)) (_ : Ctx N F y K w l), CJ (S N) m 69 #[.pointer (some ⟨c.wg, 0, none⟩), .int .u64 4294967296] nf
    (fun r K' y' w' => ∃ n : Nat, n ≤ k ∧ r = .int .u64 (((n + 1 : Nat) : Int) * 4294967296) ∧ y' = ⟨y.own, y.rem, y.deaf, .boss c (.op k true)⟩ ∧ Ctx N T0 y' K' w' l) K y w := by
  co_apply Exists.intro
  intro N F m y K w l c k hk hr H
  have hq : y.role.quiet = false := by rw [hr]; rfl
  co_apply CJ.of_WF Try.func69 (by kernel_rfl) (by rfl)
  simp only [show Try.f69.ntmps = 10 from rfl]
  try walk_nrm
  co_apply WF.seqP
  co_apply WF.region
  try simp only [List.size_toArray, List.length_cons, List.length_nil, Nat.zero_add, List.range, List.range.loop]
  co_applyP OF.pu rfl (by rfl) (fun _ => run_eq_of ?run) (fun _ => by simp [go_sem, *])
  case run => intro K hK; go_simp; exact hK
  try walk_nrm
  co_apply OF.nil
  try simp only [thenF]
  co_apply WF.seqP
  co_apply WF.region
  try simp only [List.size_toArray, List.length_cons, List.length_nil, Nat.reduceAdd, Nat.zero_add, List.range, List.range.loop]
  co_applyP OF.pu rfl (by rfl) (fun _ => run_eq_of ?run) (fun _ => by simp [go_sem, *])
  case run => intro K hK; go_simp; exact hK
  try walk_nrm
  co_applyP OF.pu rfl (by rfl) (fun _ => run_eq_of ?run) (fun _ => by simp [go_sem, *])
  case run => intro K hK; go_simp; exact hK
  try walk_nrm
  co_applyP OF.pu rfl (by rfl) (fun _ => run_eq_of ?run) (fun _ => by simp [go_sem, *])
  case run => intro K hK; go_simp; exact hK
  try walk_nrm
  co_applyP OF.pu rfl (by rfl) (fun _ => run_eq_of ?run) (fun _ => by simp [go_sem, *])
  case run => intro K hK; go_simp; exact hK
  try walk_nrm
  co_apply OF.turn H
  intro K₁ w₁ hK1 hr1 H1
  obtain ⟨n, hn, hg, hs⟩ := (H1.st.boss hr).1.added hk
  have hc := gr_cell hg
  have hnew : IntKind.u64.wrap (((n : Nat) : Int) * 4294967296 + 4294967296) = ((n + 1 : Nat) : Int) * 4294967296 := by rw [IntKind.wrap_u64]; omega
  refine ⟨_, _, _, ⟨y.own, y.rem, y.deaf, .boss c (.op k true)⟩, K₁, fun b kk cs hb hk => stepG_add_atomic rfl (by rfl) hk rfl Try.func83 (by kernel_rfl) (by kernel_rfl) (by kernel_rfl) .u64 (by kernel_rfl) rfl rfl hc.1 (hc.2.2 0), fun wk => ?_, Nat.le_refl _, ?_⟩
  · rw [hnew]; exact .add hr hk hg fun x hx => by simp at hx; rcases hx with rfl | rfl <;> exact atm_mk _ _ _
  rw [hnew]
  have H2 := H1.gturn (d' := y.deaf) hr H1.st.1 hs
  clear hc hnew H1 hr1
  try walk_nrm
  co_applyP OF.pu rfl (by rfl) (fun _ => run_eq_of ?run) (fun _ => by simp [go_sem, *])
  case run => intro K hK; go_simp; exact hK
  try walk_nrm
  co_apply OF.nil
  try simp only [thenF]
  co_apply WF.ret
  exact retG_of rfl (resultsC_tmp (by rfl) _) (fun K₂ hK₂ w₂ r₂ => ⟨n, hn, rfl, rfl, H2.rely r₂⟩)

set_option maxHeartbeats 8000000 in
set_option maxRecDepth 100000 in
theorem add_b : ∃ nf, ∀ {N : Nat} {m : Bool} {y : Gh Role} {K : Nat} {w : World} {l : List Row} (c : Cfg) (k : Nat) (_ : k < 16) (_ : y.role = .boss c (.op k false)) (_ : y.deaf = 0) (_ : Ctx N T0 y K w l), CJ (S N) m 54 #[.pointer (some ⟨c.wg, 0, none⟩), .int .i64 1] nf
    (fun _ K' y' w' => y' = ⟨y.own, y.rem, 0, .boss c (.op k true)⟩ ∧ Ctx N T0 y' K' w' l) K y w := by
  obtain ⟨na, hadd⟩ := uadd_b
  co_apply Exists.intro
  intro N m y K w l c k hk hr hdf H
  obtain ⟨ys, hys⟩ : ∃ ys, ys = y := ⟨y, rfl⟩
  have ho : y.own = ys.own := by rw [hys]
  have hm : y.rem = ys.rem := by rw [hys]
  have hq : y.role.quiet = false := by rw [hr]; rfl
  have hg := Gr.refl y
  co_apply CJ.of_WFL Try.func54 (by kernel_rfl) (by rfl)
  simp only [show Try.f54.ntmps = 117 from rfl]
  try walk_nrm
  co_apply WF.seqP
  co_apply WF.cond (t := true) rfl
  simp only [↓reduceIte]
  co_apply WF.seqP
  co_apply WF.seqP
  co_apply WF.region
  try simp only [List.size_toArray, List.length_cons, List.length_nil, Nat.reduceAdd, Nat.zero_add, List.range, List.range.loop]
  co_applyP OF.pu rfl (by rfl) (fun _ => run_eq_of ?run) (fun _ => by simp [go_sem, *])
  case run => intro K hK; go_simp; exact hK
  try walk_nrm
  co_applyP OF.pu rfl (by rfl) (fun _ => run_eq_of ?run) (fun _ => by simp [go_sem, *])
  case run => intro K hK; go_simp; exact hK
  try walk_nrm
  co_apply OF.nil
  try simp only [thenF]
  co_apply WF.cond (t := false) rfl
  simp only [Bool.false_eq_true, ↓reduceIte]
  co_apply WF.skip
  try simp only [thenF]
  co_apply WF.seqP
  co_apply WF.region
  try simp only [List.size_toArray, List.length_cons, List.length_nil, Nat.zero_add, List.range, List.range.loop]
  co_applyP OF.mk (d' := 1) (es := #[⟨.mark .disable, false, true⟩]) H hq (by rw [hdf]; rfl) (fun e he => ?eok) (fun K w H b kk cs hb hk => stepG_mark0 .disable (by simp) rfl (by rfl) hk rfl Try.func63 (by kernel_rfl) (by kernel_rfl) (by kernel_rfl) (by kernel_rfl))
  case eok => simp at he; subst he; exact mark_ok rfl (by simp)
  intro K w hK1 H1
  have hr1 : (⟨y.own, y.rem, 1, y.role⟩ : Gh Role).role = .boss c (.op k false) := hr
  have ho1 : (⟨y.own, y.rem, 1, y.role⟩ : Gh Role).own = ys.own := ho
  have hm1 : (⟨y.own, y.rem, 1, y.role⟩ : Gh Role).rem = ys.rem := hm
  have hdf1 : (⟨y.own, y.rem, 1, y.role⟩ : Gh Role).deaf = 1 := rfl
  generalize (⟨y.own, y.rem, 1, y.role⟩ : Gh Role) = y at H1 hr1 ho1 hm1 hdf1 ⊢
  replace H := H1
  replace hr := hr1
  replace ho := ho1
  replace hm := hm1
  replace hdf := hdf1
  have hq : y.role.quiet = false := by rw [hr]; rfl
  clear H1 hr1 ho1 hm1 hdf1 hK1
  try walk_nrm
  co_apply OF.nil
  try simp only [thenF]
  co_apply WF.region
  try simp only [List.size_toArray, List.length_cons, List.length_nil, Nat.zero_add, List.range, List.range.loop]
  co_applyP OF.defer rfl (by rfl) rfl
  try walk_nrm
  co_apply OF.nil
  try simp only [thenF]
  co_apply WF.seqP
  co_apply WF.region
  try simp only [List.size_toArray, List.length_cons, List.length_nil, Nat.zero_add, List.range, List.range.loop]
  co_applyP OF.pu rfl (by rfl) (fun _ => run_eq_of ?run) (fun _ => by simp [go_sem, *])
  case run => intro K hK; go_simp; exact hK
  try walk_nrm
  co_apply OF.nil
  try simp only [thenF]
  co_apply WF.seqP
  co_apply WF.seqP
  co_apply WF.region
  try simp only [List.size_toArray, List.length_cons, List.length_nil, Nat.zero_add, List.range, List.range.loop]
  co_applyP OF.bub (.bool false) rfl (by rfl) rfl Try.func65 (by kernel_rfl) (by kernel_rfl) (by kernel_rfl) (by kernel_rfl)
  try walk_nrm
  co_apply OF.nil
  try simp only [thenF]
  co_apply WF.cond (t := false) rfl
  simp only [Bool.false_eq_true, ↓reduceIte]
  co_apply WF.skip
  try simp only [thenF]
  co_apply WF.seqP
  co_apply WF.region
  try simp only [List.size_toArray, List.length_cons, List.length_nil, Nat.reduceAdd, Nat.zero_add, List.range, List.range.loop]
  co_applyP OF.pu rfl (by rfl) (fun _ => run_eq_of ?run) (fun _ => by simp [go_sem, *])
  case run => intro K hK; go_simp; exact hK
  try walk_nrm
  try w_num
  co_applyP OF.pu rfl (by rfl) (fun _ => run_eq_of ?run) (fun _ => by simp [go_sem, *])
  case run => intro K hK; go_simp; exact hK
  try walk_nrm
  try w_num
  co_applyP OF.pu rfl (by rfl) (fun _ => run_eq_of ?run) (fun _ => by simp [go_sem, *])
  case run => intro K hK; go_simp; exact hK
  try walk_nrm
  try w_num
  co_applyP OF.pu rfl (by rfl) (fun _ => run_eq_of ?run) (fun _ => by simp [go_sem, *])
  case run => intro K hK; go_simp; exact hK
  try walk_nrm
  try w_num
  co_applyP OF.pu rfl (by rfl) (fun _ => run_eq_of ?run) (fun _ => by simp [go_sem, *])
  case run => intro K hK; go_simp; exact hK
  try walk_nrm
  try w_num
  co_applyP OF.pu rfl (by rfl) (fun _ => run_eq_of ?run) (fun _ => by simp [go_sem, *])
  case run => intro K hK; go_simp; exact hK
  try walk_nrm
  try w_num
  co_applyP OF.callJ rfl (by rfl) rfl
  · walk_nrm
    exact hadd c k hk hr H
  rintro _ K y w hK1 ⟨nn, hnk, rfl, hy, H1⟩
  have hr1 : y.role = .boss c (.op k true) := by rw [hy]
  have ho1 : y.own = ys.own := by rw [hy]; exact ho
  have hm1 : y.rem = ys.rem := by rw [hy]; exact hm
  have hdf1 : y.deaf = 1 := by rw [hy]; exact hdf
  have hq1 : y.role.quiet = false := by rw [hr1]; rfl
  clear hy
  replace hr := hr1
  replace ho := ho1
  replace hm := hm1
  replace hdf := hdf1
  replace hq := hq1
  replace H := H1
  clear hr1 ho1 hm1 hdf1 hq1 H1 hK1
  have q1 := flag0 (nn + 1) (by omega)
  have q2 : ((nn + 1 : Nat) : Int) * 4294967296 / 4294967296 = ((nn + 1 : Nat) : Int) := by omega
  have q3 := low0 (nn + 1) (by omega)
  generalize ((nn + 1 : Nat) : Int) * 4294967296 = NS at q1 q2 q3 ⊢
  have q4 : IntKind.i32.wrap ((nn + 1 : Nat) : Int) = ((nn + 1 : Nat) : Int) := by rw [IntKind.wrap_i32]; omega
  have q5 : IntKind.u64.wrap ((nn + 1 : Nat) : Int) = ((nn + 1 : Nat) : Int) := by rw [IntKind.wrap_u64]; omega
  have q6 : decide (((nn + 1 : Nat) : Int) < 0) = false := by simp <;> omega
  have q7 : decide (0 < ((nn + 1 : Nat) : Int)) = true := by simp <;> omega
  have q7b : decide (((nn + 1 : Nat) : Int) > 0) = true := by simp <;> omega
  generalize ((nn + 1 : Nat) : Int) = V at q2 q4 q5 q6 q7 q7b
  have q8 : IntKind.i32.wrap 1 = 1 := by decide
  have q9 : IntKind.u32.wrap 0 = 0 := by decide
  obtain ⟨bb, hbb⟩ : ∃ bb : Bool, (V == 1) = bb := ⟨_, rfl⟩
  try walk_nrm
  co_applyP OF.pu rfl (by rfl) (fun _ => run_eq_of ?run) (fun _ => by simp [go_sem, *])
  case run => intro K hK; go_simp; exact hK
  try walk_nrm
  try w_num
  co_apply OF.nil
  try simp only [thenF]
  co_apply WF.seqP
  co_apply WF.seqP
  co_apply WF.region
  try simp only [List.size_toArray, List.length_cons, List.length_nil, Nat.reduceAdd, Nat.zero_add, List.range, List.range.loop]
  co_applyP OF.pu rfl (by rfl) (fun _ => run_eq_of ?run) (fun _ => by simp [go_sem, *])
  case run => intro K hK; go_simp; exact hK
  try walk_nrm
  co_applyP OF.pu rfl (by rfl) (fun _ => run_eq_of ?run) (fun _ => by simp [go_sem, *])
  case run => intro K hK; go_simp; exact hK
  try walk_nrm
  co_applyP OF.pu rfl (by rfl) (fun _ => run_eq_of ?run) (fun _ => by simp [go_sem, *])
  case run => intro K hK; go_simp; exact hK
  try walk_nrm
  co_applyP OF.pu rfl (by rfl) (fun _ => run_eq_of ?run) (fun _ => by simp [go_sem, *])
  case run => intro K hK; go_simp; exact hK
  try walk_nrm
  first
  | (co_applyP OF.pu rfl (by rfl) (fun _ => run_eq_of ?run) (fun _ => by simp [go_sem, *]); case run => intro K hK; go_simp; exact hK)
  | co_apply OF.unwanted rfl (by rfl)
  try walk_nrm
  first
  | (co_applyP OF.pu rfl (by rfl) (fun _ => run_eq_of ?run) (fun _ => by simp [go_sem, *]); case run => intro K hK; go_simp; exact hK)
  | co_apply OF.unwanted rfl (by rfl)
  try walk_nrm
  co_applyP OF.pu rfl (by rfl) (fun _ => run_eq_of ?run) (fun _ => by simp [go_sem, *])
  case run => intro K hK; go_simp; exact hK
  try walk_nrm
  co_apply OF.nil
  try simp only [thenF]
  co_apply WF.cond (t := false) rfl
  simp only [Bool.false_eq_true, ↓reduceIte]
  co_apply WF.skip
  try simp only [thenF]
  co_apply WF.seqP
  co_apply WF.region
  try simp only [List.size_toArray, List.length_cons, List.length_nil, Nat.reduceAdd, Nat.zero_add, List.range, List.range.loop]
  co_applyP OF.pu rfl (by rfl) (fun _ => run_eq_of ?run) (fun _ => by simp [go_sem, *])
  case run => intro K hK; go_simp; exact hK
  try walk_nrm
  co_applyP OF.pu rfl (by rfl) (fun _ => run_eq_of ?run) (fun _ => by simp [go_sem, *])
  case run => intro K hK; go_simp; exact hK
  try walk_nrm
  co_applyP OF.pu rfl (by rfl) (fun _ => run_eq_of ?run) (fun _ => by simp [go_sem, *])
  case run => intro K hK; go_simp; exact hK
  try walk_nrm
  co_applyP OF.pu rfl (by rfl) (fun _ => run_eq_of ?run) (fun _ => by simp [go_sem, *])
  case run => intro K hK; go_simp; exact hK
  try walk_nrm
  co_apply OF.nil
  try simp only [thenF]
  co_apply WF.seqP
  co_apply WF.region
  try simp only [List.size_toArray, List.length_cons, List.length_nil, Nat.reduceAdd, Nat.zero_add, List.range, List.range.loop]
  co_applyP OF.pu rfl (by rfl) (fun _ => run_eq_of ?run) (fun _ => by simp [go_sem, *])
  case run => intro K hK; go_simp; exact hK
  try walk_nrm
  co_applyP OF.pu rfl (by rfl) (fun _ => run_eq_of ?run) (fun _ => by simp [go_sem, *])
  case run => intro K hK; go_simp; exact hK
  try walk_nrm
  co_applyP OF.pu rfl (by rfl) (fun _ => run_eq_of ?run) (fun _ => by simp [go_sem, *])
  case run => intro K hK; go_simp; exact hK
  try walk_nrm
  co_applyP OF.pu rfl (by rfl) (fun _ => run_eq_of ?run) (fun _ => by simp [go_sem, *])
  case run => intro K hK; go_simp; exact hK
  try walk_nrm
  co_apply OF.nil
  try simp only [thenF]
  co_apply WF.seqP
  co_apply WF.seqP
  co_apply WF.region
  try simp only [List.size_toArray, List.length_cons, List.length_nil, Nat.reduceAdd, Nat.zero_add, List.range, List.range.loop]
  co_applyP OF.pu rfl (by rfl) (fun _ => run_eq_of ?run) (fun _ => by simp [go_sem, *])
  case run => intro K hK; go_simp; exact hK
  try walk_nrm
  first
  | (co_applyP OF.pu rfl (by rfl) (fun _ => run_eq_of ?run) (fun _ => by simp [go_sem, *]); case run => intro K hK; go_simp; exact hK)
  | co_apply OF.unwanted rfl (by rfl)
  try walk_nrm
  first
  | (co_applyP OF.pu rfl (by rfl) (fun _ => run_eq_of ?run) (fun _ => by simp [go_sem, *]); case run => intro K hK; go_simp; exact hK)
  | co_apply OF.unwanted rfl (by rfl)
  try walk_nrm
  co_applyP OF.pu rfl (by rfl) (fun _ => run_eq_of ?run) (fun _ => by simp [go_sem, *])
  case run => intro K hK; go_simp; exact hK
  try walk_nrm
  co_applyP OF.pu rfl (by rfl) (fun _ => run_eq_of ?run) (fun _ => by simp [go_sem, *])
  case run => intro K hK; go_simp; exact hK
  try walk_nrm
  first
  | (co_applyP OF.pu rfl (by rfl) (fun _ => run_eq_of ?run) (fun _ => by simp [go_sem, *]); case run => intro K hK; go_simp; exact hK)
  | co_apply OF.unwanted rfl (by rfl)
  try walk_nrm
  first
  | (co_applyP OF.pu rfl (by rfl) (fun _ => run_eq_of ?run) (fun _ => by simp [go_sem, *]); case run => intro K hK; go_simp; exact hK)
  | co_apply OF.unwanted rfl (by rfl)
  try walk_nrm
  first
  | (co_applyP OF.pu rfl (by rfl) (fun _ => run_eq_of ?run) (fun _ => by simp [go_sem, *]); case run => intro K hK; go_simp; exact hK)
  | co_apply OF.unwanted rfl (by rfl)
  try walk_nrm
  first
  | (co_applyP OF.pu rfl (by rfl) (fun _ => run_eq_of ?run) (fun _ => by simp [go_sem, *]); case run => intro K hK; go_simp; exact hK)
  | co_apply OF.unwanted rfl (by rfl)
  try walk_nrm
  co_applyP OF.pu rfl (by rfl) (fun _ => run_eq_of ?run) (fun _ => by simp [go_sem, *])
  case run => intro K hK; go_simp; exact hK
  try walk_nrm
  co_apply OF.nil
  try simp only [thenF]
  cases hbc : bb
  rotate_left
  · skip
    subst hbc
    co_apply WF.cond (t := true) rfl
    simp only [↓reduceIte]
    co_apply WF.region
    try simp only [List.size_toArray, List.length_cons, List.length_nil, Nat.reduceAdd, Nat.zero_add, List.range, List.range.loop]
    co_applyP OF.pu rfl (by rfl) (fun _ => run_eq_of ?run) (fun _ => by simp [go_sem, *])
    case run => intro K hK; go_simp; exact hK
    try walk_nrm
    co_applyP OF.pu rfl (by rfl) (fun _ => run_eq_of ?run) (fun _ => by simp [go_sem, *])
    case run => intro K hK; go_simp; exact hK
    try walk_nrm
    co_applyP OF.pu rfl (by rfl) (fun _ => run_eq_of ?run) (fun _ => by simp [go_sem, *])
    case run => intro K hK; go_simp; exact hK
    try walk_nrm
    co_applyP OF.see (v := .pointer (some ⟨c.wg, 1, none⟩)) rfl (by rfl) H (fun K w H => by
        obtain ⟨s, mm, hgs⟩ := (H.st.boss hr).1.grp
        have hc := gr_cell hgs
        have hcv := run_convert_to_unsafe (P := Try.prog) Try.underlying144 Try.underlying139 (by kernel_rfl) hc.2.1
        have hce := fun es => events_convert_to_unsafe (P := Try.prog) Try.underlying144 Try.underlying139 (by kernel_rfl) hc.2.1 es
        refine ⟨run_eq_of ?_, ?_⟩
        · intro K hK; go_simp; exact hK
        · simp [go_sem, hce])
    intro K w hK1 hr1 H1
    replace H := H1
    clear hK1 hr1 H1
    try walk_nrm
    co_applyP OF.mk (d' := 1) (es := #[⟨.mark (.read ⟨c.wg, 1, none⟩), false, true⟩]) H hq (by rw [hdf]; rfl) (fun e he => ?eok) (fun K w H b kk cs hb hk => stepG_markAt .read (by simp) rfl (by rfl) hk rfl Try.func70 (by kernel_rfl) (by kernel_rfl) (by kernel_rfl) (by kernel_rfl) (by simp [Act.eval]))
    case eok => simp at he; subst he; rw [hr]; exact ⟨fun x hx => by cases hx; exact ⟨fun _ => trivial, .inr (.inr ⟨⟨_, rfl, .inl rfl⟩, by simp⟩)⟩, by simp⟩
    intro K w hK1 H1
    have hr1 : (⟨y.own, y.rem, 1, y.role⟩ : Gh Role).role = .boss c (.op k true) := hr
    have ho1 : (⟨y.own, y.rem, 1, y.role⟩ : Gh Role).own = ys.own := ho
    have hm1 : (⟨y.own, y.rem, 1, y.role⟩ : Gh Role).rem = ys.rem := hm
    have hdf1 : (⟨y.own, y.rem, 1, y.role⟩ : Gh Role).deaf = 1 := rfl
    generalize (⟨y.own, y.rem, 1, y.role⟩ : Gh Role) = y at H1 hr1 ho1 hm1 hdf1 ⊢
    replace H := H1
    replace hr := hr1
    replace ho := ho1
    replace hm := hm1
    replace hdf := hdf1
    have hq : y.role.quiet = false := by rw [hr]; rfl
    clear H1 hr1 ho1 hm1 hdf1 hK1
    try walk_nrm
    co_apply OF.nil
    try simp only [thenF]
    co_apply WF.seqP
    co_apply WF.seqP
    co_apply WF.region
    try simp only [List.size_toArray, List.length_cons, List.length_nil, Nat.reduceAdd, Nat.zero_add, List.range, List.range.loop]
    co_applyP OF.pu rfl (by rfl) (fun _ => run_eq_of ?run) (fun _ => by simp [go_sem, *])
    case run => intro K hK; go_simp; exact hK
    try walk_nrm
    co_applyP OF.pu rfl (by rfl) (fun _ => run_eq_of ?run) (fun _ => by simp [go_sem, *])
    case run => intro K hK; go_simp; exact hK
    try walk_nrm
    co_apply OF.nil
    try simp only [thenF]
    co_apply WF.cond (t := false) rfl
    simp only [Bool.false_eq_true, ↓reduceIte]
    co_apply WF.skip
    try simp only [thenF]
    co_apply WF.seqP
    co_apply WF.seqP
    co_apply WF.region
    try simp only [List.size_toArray, List.length_cons, List.length_nil, Nat.reduceAdd, Nat.zero_add, List.range, List.range.loop]
    co_applyP OF.pu rfl (by rfl) (fun _ => run_eq_of ?run) (fun _ => by simp [go_sem, *])
    case run => intro K hK; go_simp; exact hK
    try walk_nrm
    co_applyP OF.pu rfl (by rfl) (fun _ => run_eq_of ?run) (fun _ => by simp [go_sem, *])
    case run => intro K hK; go_simp; exact hK
    try walk_nrm
    co_applyP OF.pu rfl (by rfl) (fun _ => run_eq_of ?run) (fun _ => by simp [go_sem, *])
    case run => intro K hK; go_simp; exact hK
    try walk_nrm
    first
    | (co_applyP OF.pu rfl (by rfl) (fun _ => run_eq_of ?run) (fun _ => by simp [go_sem, *]); case run => intro K hK; go_simp; exact hK)
    | co_apply OF.unwanted rfl (by rfl)
    try walk_nrm
    first
    | (co_applyP OF.pu rfl (by rfl) (fun _ => run_eq_of ?run) (fun _ => by simp [go_sem, *]); case run => intro K hK; go_simp; exact hK)
    | co_apply OF.unwanted rfl (by rfl)
    try walk_nrm
    co_applyP OF.pu rfl (by rfl) (fun _ => run_eq_of ?run) (fun _ => by simp [go_sem, *])
    case run => intro K hK; go_simp; exact hK
    try walk_nrm
    co_applyP OF.pu rfl (by rfl) (fun _ => run_eq_of ?run) (fun _ => by simp [go_sem, *])
    case run => intro K hK; go_simp; exact hK
    try walk_nrm
    first
    | (co_applyP OF.pu rfl (by rfl) (fun _ => run_eq_of ?run) (fun _ => by simp [go_sem, *]); case run => intro K hK; go_simp; exact hK)
    | co_apply OF.unwanted rfl (by rfl)
    try walk_nrm
    first
    | (co_applyP OF.pu rfl (by rfl) (fun _ => run_eq_of ?run) (fun _ => by simp [go_sem, *]); case run => intro K hK; go_simp; exact hK)
    | co_apply OF.unwanted rfl (by rfl)
    try walk_nrm
    first
    | (co_applyP OF.pu rfl (by rfl) (fun _ => run_eq_of ?run) (fun _ => by simp [go_sem, *]); case run => intro K hK; go_simp; exact hK)
    | co_apply OF.unwanted rfl (by rfl)
    try walk_nrm
    first
    | (co_applyP OF.pu rfl (by rfl) (fun _ => run_eq_of ?run) (fun _ => by simp [go_sem, *]); case run => intro K hK; go_simp; exact hK)
    | co_apply OF.unwanted rfl (by rfl)
    try walk_nrm
    co_applyP OF.pu rfl (by rfl) (fun _ => run_eq_of ?run) (fun _ => by simp [go_sem, *])
    case run => intro K hK; go_simp; exact hK
    try walk_nrm
    co_apply OF.nil
    try simp only [thenF]
    co_apply WF.cond (t := false) rfl
    simp only [Bool.false_eq_true, ↓reduceIte]
    co_apply WF.skip
    try simp only [thenF]
    co_apply WF.seqP (n₂ := 0)
    co_apply WF.seqP
    co_apply WF.region
    try simp only [List.size_toArray, List.length_cons, List.length_nil, Nat.reduceAdd, Nat.zero_add, List.range, List.range.loop]
    co_applyP OF.pu rfl (by rfl) (fun _ => run_eq_of ?run) (fun _ => by simp [go_sem, *])
    case run => intro K hK; go_simp; exact hK
    try walk_nrm
    co_applyP OF.pu rfl (by rfl) (fun _ => run_eq_of ?run) (fun _ => by simp [go_sem, *])
    case run => intro K hK; go_simp; exact hK
    try walk_nrm
    co_applyP OF.pu rfl (by rfl) (fun _ => run_eq_of ?run) (fun _ => by simp [go_sem, *])
    case run => intro K hK; go_simp; exact hK
    try walk_nrm
    first
    | (co_applyP OF.pu rfl (by rfl) (fun _ => run_eq_of ?run) (fun _ => by simp [go_sem, *]); case run => intro K hK; go_simp; exact hK)
    | co_apply OF.unwanted rfl (by rfl)
    try walk_nrm
    first
    | (co_applyP OF.pu rfl (by rfl) (fun _ => run_eq_of ?run) (fun _ => by simp [go_sem, *]); case run => intro K hK; go_simp; exact hK)
    | co_apply OF.unwanted rfl (by rfl)
    try walk_nrm
    co_applyP OF.pu rfl (by rfl) (fun _ => run_eq_of ?run) (fun _ => by simp [go_sem, *])
    case run => intro K hK; go_simp; exact hK
    try walk_nrm
    co_apply OF.nil
    try simp only [thenF]
    co_apply WF.cond (t := true) rfl
    simp only [↓reduceIte]
    co_apply WF.ret
    try simp only [thenF]
    co_apply LV.entry (args := #[]) (e := fun _ => do mark .enable; pure Extern.Race.none_) (v := .tuple #[]) (evs := #[⟨.mark .enable, false, true⟩]) rfl Try.func64 (by kernel_rfl) (by kernel_rfl) (by kernel_rfl) (by kernel_rfl) (fun w => by simp [Extern.Race.none_]) (fun w => by simp) (by intro x hx; simp at hx; subst hx; exact ⟨rfl, fun g h => by cases h⟩)
    intro K₁ hK w₁ r
    have H1 := H.rely r
    refine ⟨⟨y.own, y.rem, 0, y.role⟩, fun wk => .plain ⟨rfl, rfl, rfl, by rw [hdf]; rfl, Below.refl _ _, fun _ h => h, fun _ h => .inl h, fun _ _ _ => rfl, fun e he => ?_, fun h => by rw [hq] at h; cases h⟩, ?_⟩
    · simp at he; subst he; exact mark_ok rfl (by simp)
    refine LV.tmp Try.func54 rfl (resultsC_none (by rfl) _) fun K₂ hK₂ w₂ r₂ => ⟨by rw [hr, ho, hm, hys], (H1.deafs 0).rely r₂⟩
  · skip
    subst hbc
    co_apply WF.more
    · skip
      co_apply WF.cond (t := false) rfl
      simp only [Bool.false_eq_true, ↓reduceIte]
      co_apply WF.skip
      try simp only [thenF]
      co_apply WF.seqP
      co_apply WF.seqP
      co_apply WF.region
      try simp only [List.size_toArray, List.length_cons, List.length_nil, Nat.reduceAdd, Nat.zero_add, List.range, List.range.loop]
      co_applyP OF.pu rfl (by rfl) (fun _ => run_eq_of ?run) (fun _ => by simp [go_sem, *])
      case run => intro K hK; go_simp; exact hK
      try walk_nrm
      co_applyP OF.pu rfl (by rfl) (fun _ => run_eq_of ?run) (fun _ => by simp [go_sem, *])
      case run => intro K hK; go_simp; exact hK
      try walk_nrm
      co_apply OF.nil
      try simp only [thenF]
      co_apply WF.cond (t := false) rfl
      simp only [Bool.false_eq_true, ↓reduceIte]
      co_apply WF.skip
      try simp only [thenF]
      co_apply WF.seqP
      co_apply WF.seqP
      co_apply WF.region
      try simp only [List.size_toArray, List.length_cons, List.length_nil, Nat.reduceAdd, Nat.zero_add, List.range, List.range.loop]
      co_applyP OF.pu rfl (by rfl) (fun _ => run_eq_of ?run) (fun _ => by simp [go_sem, *])
      case run => intro K hK; go_simp; exact hK
      try walk_nrm
      co_applyP OF.pu rfl (by rfl) (fun _ => run_eq_of ?run) (fun _ => by simp [go_sem, *])
      case run => intro K hK; go_simp; exact hK
      try walk_nrm
      co_applyP OF.pu rfl (by rfl) (fun _ => run_eq_of ?run) (fun _ => by simp [go_sem, *])
      case run => intro K hK; go_simp; exact hK
      try walk_nrm
      first
      | (co_applyP OF.pu rfl (by rfl) (fun _ => run_eq_of ?run) (fun _ => by simp [go_sem, *]); case run => intro K hK; go_simp; exact hK)
      | co_apply OF.unwanted rfl (by rfl)
      try walk_nrm
      first
      | (co_applyP OF.pu rfl (by rfl) (fun _ => run_eq_of ?run) (fun _ => by simp [go_sem, *]); case run => intro K hK; go_simp; exact hK)
      | co_apply OF.unwanted rfl (by rfl)
      try walk_nrm
      co_applyP OF.pu rfl (by rfl) (fun _ => run_eq_of ?run) (fun _ => by simp [go_sem, *])
      case run => intro K hK; go_simp; exact hK
      try walk_nrm
      co_applyP OF.pu rfl (by rfl) (fun _ => run_eq_of ?run) (fun _ => by simp [go_sem, *])
      case run => intro K hK; go_simp; exact hK
      try walk_nrm
      first
      | (co_applyP OF.pu rfl (by rfl) (fun _ => run_eq_of ?run) (fun _ => by simp [go_sem, *]); case run => intro K hK; go_simp; exact hK)
      | co_apply OF.unwanted rfl (by rfl)
      try walk_nrm
      first
      | (co_applyP OF.pu rfl (by rfl) (fun _ => run_eq_of ?run) (fun _ => by simp [go_sem, *]); case run => intro K hK; go_simp; exact hK)
      | co_apply OF.unwanted rfl (by rfl)
      try walk_nrm
      first
      | (co_applyP OF.pu rfl (by rfl) (fun _ => run_eq_of ?run) (fun _ => by simp [go_sem, *]); case run => intro K hK; go_simp; exact hK)
      | co_apply OF.unwanted rfl (by rfl)
      try walk_nrm
      first
      | (co_applyP OF.pu rfl (by rfl) (fun _ => run_eq_of ?run) (fun _ => by simp [go_sem, *]); case run => intro K hK; go_simp; exact hK)
      | co_apply OF.unwanted rfl (by rfl)
      try walk_nrm
      co_applyP OF.pu rfl (by rfl) (fun _ => run_eq_of ?run) (fun _ => by simp [go_sem, *])
      case run => intro K hK; go_simp; exact hK
      try walk_nrm
      co_apply OF.nil
      try simp only [thenF]
      co_apply WF.cond (t := false) rfl
      simp only [Bool.false_eq_true, ↓reduceIte]
      co_apply WF.skip
      try simp only [thenF]
      co_apply WF.seqP (n₂ := 0)
      co_apply WF.seqP
      co_apply WF.region
      try simp only [List.size_toArray, List.length_cons, List.length_nil, Nat.reduceAdd, Nat.zero_add, List.range, List.range.loop]
      co_applyP OF.pu rfl (by rfl) (fun _ => run_eq_of ?run) (fun _ => by simp [go_sem, *])
      case run => intro K hK; go_simp; exact hK
      try walk_nrm
      co_applyP OF.pu rfl (by rfl) (fun _ => run_eq_of ?run) (fun _ => by simp [go_sem, *])
      case run => intro K hK; go_simp; exact hK
      try walk_nrm
      co_applyP OF.pu rfl (by rfl) (fun _ => run_eq_of ?run) (fun _ => by simp [go_sem, *])
      case run => intro K hK; go_simp; exact hK
      try walk_nrm
      first
      | (co_applyP OF.pu rfl (by rfl) (fun _ => run_eq_of ?run) (fun _ => by simp [go_sem, *]); case run => intro K hK; go_simp; exact hK)
      | co_apply OF.unwanted rfl (by rfl)
      try walk_nrm
      first
      | (co_applyP OF.pu rfl (by rfl) (fun _ => run_eq_of ?run) (fun _ => by simp [go_sem, *]); case run => intro K hK; go_simp; exact hK)
      | co_apply OF.unwanted rfl (by rfl)
      try walk_nrm
      co_applyP OF.pu rfl (by rfl) (fun _ => run_eq_of ?run) (fun _ => by simp [go_sem, *])
      case run => intro K hK; go_simp; exact hK
      try walk_nrm
      co_apply OF.nil
      try simp only [thenF]
      co_apply WF.cond (t := true) rfl
      simp only [↓reduceIte]
      co_apply WF.ret
      try simp only [thenF]
      co_apply LV.entry (args := #[]) (e := fun _ => do mark .enable; pure Extern.Race.none_) (v := .tuple #[]) (evs := #[⟨.mark .enable, false, true⟩]) rfl Try.func64 (by kernel_rfl) (by kernel_rfl) (by kernel_rfl) (by kernel_rfl) (fun w => by simp [Extern.Race.none_]) (fun w => by simp) (by intro x hx; simp at hx; subst hx; exact ⟨rfl, fun g h => by cases h⟩)
      intro K₁ hK w₁ r
      have H1 := H.rely r
      refine ⟨⟨y.own, y.rem, 0, y.role⟩, fun wk => .plain ⟨rfl, rfl, rfl, by rw [hdf]; rfl, Below.refl _ _, fun _ h => h, fun _ h => .inl h, fun _ _ _ => rfl, fun e he => ?_, fun h => by rw [hq] at h; cases h⟩, ?_⟩
      · simp at he; subst he; exact mark_ok rfl (by simp)
      refine LV.tmp Try.func54 rfl (resultsC_none (by rfl) _) fun K₂ hK₂ w₂ r₂ => ⟨by rw [hr, ho, hm, hys], (H1.deafs 0).rely r₂⟩
    · omega

end Go.Proofs.Ytgnhddnhcfmipaa.Ids
