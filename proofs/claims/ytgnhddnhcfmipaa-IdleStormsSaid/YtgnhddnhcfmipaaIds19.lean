/- IdleStorms: a worker's end: Done. Printed by wip/tools/gen_ids19.py. -/
import Derived.Test.YtgnhddnhcfmipaaIds18
namespace Go.Proofs.Ytgnhddnhcfmipaa.Ids
open Go Go.Conc Go.RowKit Go.Proofs.Ytgnhddnhcfmipaa.Eg Go.Proofs.Ytgnhddnhcfmipaa

theorem and_flag (v wt : Nat) (hv : v < 17) (hwt : wt ≤ 1) : bits BinOp.and IntKind.u64 ((v : Int) * 4294967296 + (wt : Int)) 2147483648 = 0 := by
  have : ∀ v : Nat, v < 17 → ∀ wt : Nat, wt < 2 → bits BinOp.and IntKind.u64 ((v : Int) * 4294967296 + (wt : Int)) 2147483648 = 0 := by decide +kernel
  exact this v hv wt (by omega)
theorem add_neg (v wt : Nat) (hv : v < 17) (hwt : wt ≤ 1) : IntKind.u64.wrap (((v + 1 : Nat) : Int) * 4294967296 + (wt : Int) + 18446744069414584320) = (v : Int) * 4294967296 + (wt : Int) := by rw [IntKind.wrap_u64]; omega
theorem and_low (v wt : Nat) (hv : v < 17) (hwt : wt ≤ 1) : bits BinOp.and IntKind.u64 ((v : Int) * 4294967296 + (wt : Int)) 2147483647 = (wt : Int) := by
  have : ∀ v : Nat, v < 17 → ∀ wt : Nat, wt < 2 → bits BinOp.and IntKind.u64 ((v : Int) * 4294967296 + (wt : Int)) 2147483647 = (wt : Int) := by decide +kernel
  exact this v hv wt (by omega)
set_option maxHeartbeats 8000000 in
set_option maxRecDepth 100000 in
theorem tail55 : ∃ n, ∀ {N K : Nat} {y : Gh Role} {w : World} (c : Cfg) (d : Bool) (T : Array Value) (todo : List Item) (_ : y.role = .work c (.busy false d)) (_ : 0 < c.T → d = true) (_ : y.deaf = 0) (_ : 0 < y.rem) (_ : Ctx N T0 y K w []),
    J (S N) false K n y (Conc.G { (baseD 55).at ⟨T, [dcall 56 #[.pointer (some ⟨c.wg, 0, none⟩)]]⟩ todo with mode := .returning } [bot]) w := by
  co_apply Exists.intro
  intro N K y w c d T todo hr hd hdf hrem H
  co_applyP J.unwind rfl Try.func56 (by kernel_rfl) (by rfl)
  simp only [show Try.f56.ntmps = 4 from rfl]
  try walk_nrm
  co_apply J.ctl rfl rfl (fun _ => stepG_region)
  try simp only [List.size_toArray, List.length_cons, List.length_nil, Nat.reduceAdd, Nat.zero_add, List.range, List.range.loop]
  co_applyP J.pu rfl (by rfl) (by first | decide | simp [base] | simp [baseD]) (fun _ => run_eq_of ?run) (fun _ => by simp [go_sem, *])
  case run => intro K hK; go_simp; exact hK
  try walk_nrm
  try w_num
  co_applyP J.enter rfl (by rfl) (by first | decide | simp [base] | simp [baseD]) rfl Try.func54 (by kernel_rfl) (by rfl)
  simp only [show Try.f54.ntmps = 117 from rfl]
  try walk_nrm
  co_apply J.ctl rfl rfl (fun _ => stepG_seq)
  co_apply J.ctl rfl rfl (fun _ => stepG_cond (t := true) rfl)
  try simp only [↓reduceIte]
  co_apply J.ctl rfl rfl (fun _ => stepG_seq)
  co_apply J.ctl rfl rfl (fun _ => stepG_seq)
  co_apply J.ctl rfl rfl (fun _ => stepG_region)
  try simp only [List.size_toArray, List.length_cons, List.length_nil, Nat.reduceAdd, Nat.zero_add, List.range, List.range.loop]
  co_applyP J.pu rfl (by rfl) (by first | decide | simp [base] | simp [baseD]) (fun _ => run_eq_of ?run) (fun _ => by simp [go_sem, *])
  case run => intro K hK; go_simp; exact hK
  try walk_nrm
  try w_num
  co_applyP J.pu rfl (by rfl) (by first | decide | simp [base] | simp [baseD]) (fun _ => run_eq_of ?run) (fun _ => by simp [go_sem, *])
  case run => intro K hK; go_simp; exact hK
  try walk_nrm
  try w_num
  co_apply J.ctl rfl rfl (fun _ => stepG_region_end)
  co_apply J.ctl rfl rfl (fun _ => stepG_cond (t := true) rfl)
  try simp only [↓reduceIte]
  co_apply J.ctl rfl rfl (fun _ => stepG_region)
  try simp only [List.size_toArray, List.length_cons, List.length_nil, Nat.reduceAdd, Nat.zero_add, List.range, List.range.loop]
  co_applyP J.pu rfl (by rfl) (by first | decide | simp [base] | simp [baseD]) (fun _ => run_eq_of ?run) (fun _ => by simp [go_sem, *])
  case run => intro K hK; go_simp; exact hK
  try walk_nrm
  try w_num
  co_applyP J.see (v := .pointer (some ⟨c.wg, 0, none⟩)) rfl (by rfl) (by first | decide | simp [base] | simp [baseD]) H (fun K w H => by
      obtain ⟨s, hgs⟩ := H.st.grp hr
      have hc := gr_cell hgs
      have hcv := run_convert_to_unsafe (P := Try.prog) Try.underlying137 Try.underlying139 (by kernel_rfl) hc.1
      have hce := fun es => events_convert_to_unsafe (P := Try.prog) Try.underlying137 Try.underlying139 (by kernel_rfl) hc.1 es
      refine ⟨run_eq_of ?_, ?_⟩
      · intro K hK; go_simp; exact hK
      · simp [go_sem, hce])
  intro K w hK H1
  replace H := H1
  clear hK H1
  try walk_nrm
  co_apply J.own rfl H
  intro K₁ w₁ hK H₁
  refine ⟨_, _, _, ⟨y.own, y.rem, y.deaf, .work c .rel⟩, K₁, rfl, stepG_markAt .releaseMerge (by simp) rfl (by rfl) (by first | decide | simp [base] | simp [baseD]) rfl Try.func62 (by kernel_rfl) (by kernel_rfl) (by kernel_rfl) (by kernel_rfl) (by simp [Act.eval]), fun wk => .rel hr hd hdf, Nat.le_refl _, ?_⟩
  have H2 := H₁.as (y' := ⟨y.own, y.rem, y.deaf, .work c .rel⟩) rfl (H₁.st.rel hr hd)
  clear H₁ H hK
  have hr2 : (⟨y.own, y.rem, y.deaf, .work c .rel⟩ : Gh Role).role = .work c .rel := rfl
  have hdf2 : (⟨y.own, y.rem, y.deaf, .work c .rel⟩ : Gh Role).deaf = 0 := hdf
  have hrem2 : 0 < (⟨y.own, y.rem, y.deaf, .work c .rel⟩ : Gh Role).rem := hrem
  clear hr hd hdf hrem
  generalize (⟨y.own, y.rem, y.deaf, .work c .rel⟩ : Gh Role) = y at H2 hr2 hdf2 hrem2 ⊢
  have H := H2
  clear H2
  have hr := hr2
  clear hr2
  have hdf := hdf2
  clear hdf2
  have hrem := hrem2
  clear hrem2
  try walk_nrm
  co_apply J.ctl rfl rfl (fun _ => stepG_region_end)
  co_apply J.ctl rfl rfl (fun _ => stepG_seq)
  co_apply J.ctl rfl rfl (fun _ => stepG_region)
  try simp only [List.size_toArray, List.length_cons, List.length_nil, Nat.zero_add, List.range, List.range.loop]
  co_apply J.own rfl H
  intro K₁ w₁ hK H₁
  refine ⟨_, _, _, ⟨y.own, y.rem, 1, .work c .deaf⟩, K₁, rfl, stepG_mark0 .disable (by simp) rfl (by rfl) (by first | decide | simp [base] | simp [baseD]) rfl Try.func63 (by kernel_rfl) (by kernel_rfl) (by kernel_rfl) (by kernel_rfl), fun wk => .deaf hr hdf, Nat.le_refl _, ?_⟩
  have H2 := H₁.as (y' := ⟨y.own, y.rem, 1, .work c .deaf⟩) rfl (H₁.st.deaf hr)
  clear H₁ H hK
  have hr2 : (⟨y.own, y.rem, 1, .work c .deaf⟩ : Gh Role).role = .work c .deaf := rfl
  have hdf2 : (⟨y.own, y.rem, 1, .work c .deaf⟩ : Gh Role).deaf = 1 := rfl
  have hrem2 : 0 < (⟨y.own, y.rem, 1, .work c .deaf⟩ : Gh Role).rem := hrem
  clear hr hdf hrem
  generalize (⟨y.own, y.rem, 1, .work c .deaf⟩ : Gh Role) = y at H2 hr2 hdf2 hrem2 ⊢
  have H := H2
  clear H2
  have hr := hr2
  clear hr2
  have hdf := hdf2
  clear hdf2
  have hrem := hrem2
  clear hrem2
  try walk_nrm
  co_apply J.ctl rfl rfl (fun _ => stepG_region_end)
  co_apply J.ctl rfl rfl (fun _ => stepG_region)
  try simp only [List.size_toArray, List.length_cons, List.length_nil, Nat.zero_add, List.range, List.range.loop]
  co_applyP J.defer rfl (by rfl) (by first | decide | simp [base] | simp [baseD]) rfl
  try walk_nrm
  co_apply J.ctl rfl rfl (fun _ => stepG_region_end)
  co_apply J.ctl rfl rfl (fun _ => stepG_seq)
  co_apply J.ctl rfl rfl (fun _ => stepG_region)
  try simp only [List.size_toArray, List.length_cons, List.length_nil, Nat.zero_add, List.range, List.range.loop]
  co_applyP J.pu rfl (by rfl) (by first | decide | simp [base] | simp [baseD]) (fun _ => run_eq_of ?run) (fun _ => by simp [go_sem, *])
  case run => intro K hK; go_simp; exact hK
  try walk_nrm
  try w_num
  co_apply J.ctl rfl rfl (fun _ => stepG_region_end)
  co_apply J.ctl rfl rfl (fun _ => stepG_seq)
  co_apply J.ctl rfl rfl (fun _ => stepG_seq)
  co_apply J.ctl rfl rfl (fun _ => stepG_region)
  try simp only [List.size_toArray, List.length_cons, List.length_nil, Nat.zero_add, List.range, List.range.loop]
  co_applyP J.bub (.bool false) rfl (by rfl) (by first | decide | simp [base] | simp [baseD]) rfl Try.func65 (by kernel_rfl) (by kernel_rfl) (by kernel_rfl) (by kernel_rfl)
  try walk_nrm
  co_apply J.ctl rfl rfl (fun _ => stepG_region_end)
  co_apply J.ctl rfl rfl (fun _ => stepG_cond (t := false) rfl)
  try simp only [Bool.false_eq_true, ↓reduceIte]
  co_apply J.ctl rfl rfl (fun _ => stepG_skip)
  co_apply J.ctl rfl rfl (fun _ => stepG_seq)
  co_apply J.ctl rfl rfl (fun _ => stepG_region)
  try simp only [List.size_toArray, List.length_cons, List.length_nil, Nat.reduceAdd, Nat.zero_add, List.range, List.range.loop]
  co_applyP J.pu rfl (by rfl) (by first | decide | simp [base] | simp [baseD]) (fun _ => run_eq_of ?run) (fun _ => by simp [go_sem, *])
  case run => intro K hK; go_simp; exact hK
  try walk_nrm
  try w_num
  co_applyP J.pu rfl (by rfl) (by first | decide | simp [base] | simp [baseD]) (fun _ => run_eq_of ?run) (fun _ => by simp [go_sem, *])
  case run => intro K hK; go_simp; exact hK
  try walk_nrm
  try w_num
  co_applyP J.pu rfl (by rfl) (by first | decide | simp [base] | simp [baseD]) (fun _ => run_eq_of ?run) (fun _ => by simp [go_sem, *])
  case run => intro K hK; go_simp; exact hK
  try walk_nrm
  try w_num
  co_applyP J.pu rfl (by rfl) (by first | decide | simp [base] | simp [baseD]) (fun _ => run_eq_of ?run) (fun _ => by simp [go_sem, *])
  case run => intro K hK; go_simp; exact hK
  try walk_nrm
  try w_num
  co_applyP J.pu rfl (by rfl) (by first | decide | simp [base] | simp [baseD]) (fun _ => run_eq_of ?run) (fun _ => by simp [go_sem, *])
  case run => intro K hK; go_simp; exact hK
  try walk_nrm
  try w_num
  co_applyP J.pu rfl (by rfl) (by first | decide | simp [base] | simp [baseD]) (fun _ => run_eq_of ?run) (fun _ => by simp [go_sem, *])
  case run => intro K hK; go_simp; exact hK
  try walk_nrm
  try w_num
  co_applyP J.enter rfl (by rfl) (by first | decide | simp [base] | simp [baseD]) rfl Try.func69 (by kernel_rfl) (by rfl)
  simp only [show Try.f69.ntmps = 10 from rfl]
  try walk_nrm
  co_apply J.ctl rfl rfl (fun _ => stepG_seq)
  co_apply J.ctl rfl rfl (fun _ => stepG_region)
  try simp only [List.size_toArray, List.length_cons, List.length_nil, Nat.zero_add, List.range, List.range.loop]
  co_applyP J.pu rfl (by rfl) (by first | decide | simp [base] | simp [baseD]) (fun _ => run_eq_of ?run) (fun _ => by simp [go_sem, *])
  case run => intro K hK; go_simp; exact hK
  try walk_nrm
  try w_num
  co_apply J.ctl rfl rfl (fun _ => stepG_region_end)
  co_apply J.ctl rfl rfl (fun _ => stepG_seq)
  co_apply J.ctl rfl rfl (fun _ => stepG_region)
  try simp only [List.size_toArray, List.length_cons, List.length_nil, Nat.reduceAdd, Nat.zero_add, List.range, List.range.loop]
  co_applyP J.pu rfl (by rfl) (by first | decide | simp [base] | simp [baseD]) (fun _ => run_eq_of ?run) (fun _ => by simp [go_sem, *])
  case run => intro K hK; go_simp; exact hK
  try walk_nrm
  try w_num
  co_applyP J.pu rfl (by rfl) (by first | decide | simp [base] | simp [baseD]) (fun _ => run_eq_of ?run) (fun _ => by simp [go_sem, *])
  case run => intro K hK; go_simp; exact hK
  try walk_nrm
  try w_num
  co_applyP J.pu rfl (by rfl) (by first | decide | simp [base] | simp [baseD]) (fun _ => run_eq_of ?run) (fun _ => by simp [go_sem, *])
  case run => intro K hK; go_simp; exact hK
  try walk_nrm
  try w_num
  co_applyP J.pu rfl (by rfl) (by first | decide | simp [base] | simp [baseD]) (fun _ => run_eq_of ?run) (fun _ => by simp [go_sem, *])
  case run => intro K hK; go_simp; exact hK
  try walk_nrm
  try w_num
  co_apply J.ownX rfl H
  intro K₁ w₁ hK H₁
  obtain ⟨⟨s1, hwdd, v, wt, hv, hwt, hgs⟩, ap⟩ := H₁.st.work hr
  have hc := gr_cell hgs
  obtain ⟨K₂, hK2⟩ : ∃ K₂, K₁ = K₂ + 1 := ⟨K₁ - 1, by have := H₁.st.1; omega⟩
  have he : ∀ x ∈ (#[⟨.cell ⟨c.wg, 0, none⟩, false, true⟩, ⟨.cell ⟨c.wg, 0, none⟩, true, true⟩] : Array Event), atm c.wg 0 x := fun x hx => by simp at hx; rcases hx with rfl | rfl <;> exact atm_mk _ _ _
  
  by_cases hx : 0 < v ∨ wt = 0
  · skip
    co_apply Or.inr
    co_apply Exists.intro
    co_apply Exists.intro
    co_apply Exists.intro
    refine ⟨⟨fun _ => False, 0, 1, .work c .gone⟩, K₂, ?_⟩
    co_apply Exists.intro
    refine ⟨1, ?_⟩
    refine ⟨stepG_add_atomic rfl (by rfl) (by first | decide | simp [base] | simp [baseD]) rfl Try.func83 (by kernel_rfl) (by kernel_rfl) (by kernel_rfl) .u64 (by kernel_rfl) rfl rfl hc.1 (hc.2.2 0), ?_, by omega, ?_⟩
    · rw [Ids.add_neg _ _ hv hwt]; exact .dec hr hdf hgs hx hv hwt hrem hK2 he
    rw [Ids.add_neg _ _ hv hwt]
    have q1 : bits BinOp.and IntKind.u64 ((v : Int) * 4294967296 + (wt : Int)) 2147483648 = 0 := Ids.and_flag v wt hv hwt
    have q2 : ((v : Int) * 4294967296 + (wt : Int)) / 4294967296 = (v : Int) := by omega
    have q3 : bits BinOp.and IntKind.u64 ((v : Int) * 4294967296 + (wt : Int)) 2147483647 = (wt : Int) := Ids.and_low v wt hv hwt
    have q4 : IntKind.i32.wrap (v : Int) = (v : Int) := by rw [IntKind.wrap_i32]; omega
    have q5 : IntKind.u32.wrap (wt : Int) = (wt : Int) := by rw [IntKind.wrap_u32]; omega
    have q6 : decide ((v : Int) < 0) = false := by simp <;> omega
    have q6b : IntKind.u64.wrap (v : Int) = (v : Int) := by rw [IntKind.wrap_u64]; omega
    generalize (v : Int) * 4294967296 + (wt : Int) = NS at q1 q2 q3 ⊢
    rcases hx with hx | hx
    · skip
      have q7 : decide (0 < (v : Int)) = true := by simp <;> omega
      have q7b : decide ((v : Int) > 0) = true := by simp <;> omega
      by_cases hw0 : wt = 0
      · skip
        have q8 : ((wt : Int) != 0) = false := by simp <;> omega
        have q9 : ((wt : Int) == 0) = true := by simp <;> omega
        co_applyP QuitsD.value _ rfl (by rfl) (by first | decide | simp [base] | simp [baseD]) (fun _ => run_eq_of ?run) (fun _ => by simp [go_sem, *])
        case run => intro K hK; go_simp; exact hK
        try walk_nrm
        try w_num
        co_apply QuitsD.ctl rfl (fun _ => stepG_region_end)
        co_apply QuitsD.ctl rfl (fun _ => stepG_ret')
        first | co_applyP QuitsD.leave1 rfl rfl Try.func69 rfl | co_applyP QuitsD.leave0 rfl rfl Try.func69 rfl
        try walk_nrm
        co_applyP QuitsD.value _ rfl (by rfl) (by first | decide | simp [base] | simp [baseD]) (fun _ => run_eq_of ?run) (fun _ => by simp [go_sem, *])
        case run => intro K hK; go_simp; exact hK
        try walk_nrm
        try w_num
        co_apply QuitsD.ctl rfl (fun _ => stepG_region_end)
        co_apply QuitsD.ctl rfl (fun _ => stepG_seq)
        co_apply QuitsD.ctl rfl (fun _ => stepG_seq)
        co_apply QuitsD.ctl rfl (fun _ => stepG_region)
        try simp only [List.size_toArray, List.length_cons, List.length_nil, Nat.reduceAdd, Nat.zero_add, List.range, List.range.loop]
        co_applyP QuitsD.value _ rfl (by rfl) (by first | decide | simp [base] | simp [baseD]) (fun _ => run_eq_of ?run) (fun _ => by simp [go_sem, *])
        case run => intro K hK; go_simp; exact hK
        try walk_nrm
        try w_num
        co_applyP QuitsD.value _ rfl (by rfl) (by first | decide | simp [base] | simp [baseD]) (fun _ => run_eq_of ?run) (fun _ => by simp [go_sem, *])
        case run => intro K hK; go_simp; exact hK
        try walk_nrm
        try w_num
        co_applyP QuitsD.value _ rfl (by rfl) (by first | decide | simp [base] | simp [baseD]) (fun _ => run_eq_of ?run) (fun _ => by simp [go_sem, *])
        case run => intro K hK; go_simp; exact hK
        try walk_nrm
        try w_num
        co_applyP QuitsD.value _ rfl (by rfl) (by first | decide | simp [base] | simp [baseD]) (fun _ => run_eq_of ?run) (fun _ => by simp [go_sem, *])
        case run => intro K hK; go_simp; exact hK
        try walk_nrm
        try w_num
        first
        | (co_applyP QuitsD.value _ rfl (by rfl) (by first | decide | simp [base] | simp [baseD]) (fun _ => run_eq_of ?run) (fun _ => by simp [go_sem, *]); case run => intro K hK; go_simp; exact hK)
        | co_applyP QuitsD.unwanted rfl (by rfl)
        try walk_nrm
        try w_num
        first
        | (co_applyP QuitsD.value _ rfl (by rfl) (by first | decide | simp [base] | simp [baseD]) (fun _ => run_eq_of ?run) (fun _ => by simp [go_sem, *]); case run => intro K hK; go_simp; exact hK)
        | co_applyP QuitsD.unwanted rfl (by rfl)
        try walk_nrm
        try w_num
        co_applyP QuitsD.value _ rfl (by rfl) (by first | decide | simp [base] | simp [baseD]) (fun _ => run_eq_of ?run) (fun _ => by simp [go_sem, *])
        case run => intro K hK; go_simp; exact hK
        try walk_nrm
        try w_num
        co_apply QuitsD.ctl rfl (fun _ => stepG_region_end)
        co_apply QuitsD.ctl rfl (fun _ => stepG_cond (t := false) rfl)
        try simp only [Bool.false_eq_true, ↓reduceIte]
        co_apply QuitsD.ctl rfl (fun _ => stepG_skip)
        co_apply QuitsD.ctl rfl (fun _ => stepG_seq)
        co_apply QuitsD.ctl rfl (fun _ => stepG_region)
        try simp only [List.size_toArray, List.length_cons, List.length_nil, Nat.reduceAdd, Nat.zero_add, List.range, List.range.loop]
        co_applyP QuitsD.value _ rfl (by rfl) (by first | decide | simp [base] | simp [baseD]) (fun _ => run_eq_of ?run) (fun _ => by simp [go_sem, *])
        case run => intro K hK; go_simp; exact hK
        try walk_nrm
        try w_num
        co_applyP QuitsD.value _ rfl (by rfl) (by first | decide | simp [base] | simp [baseD]) (fun _ => run_eq_of ?run) (fun _ => by simp [go_sem, *])
        case run => intro K hK; go_simp; exact hK
        try walk_nrm
        try w_num
        co_applyP QuitsD.value _ rfl (by rfl) (by first | decide | simp [base] | simp [baseD]) (fun _ => run_eq_of ?run) (fun _ => by simp [go_sem, *])
        case run => intro K hK; go_simp; exact hK
        try walk_nrm
        try w_num
        co_applyP QuitsD.value _ rfl (by rfl) (by first | decide | simp [base] | simp [baseD]) (fun _ => run_eq_of ?run) (fun _ => by simp [go_sem, *])
        case run => intro K hK; go_simp; exact hK
        try walk_nrm
        try w_num
        co_apply QuitsD.ctl rfl (fun _ => stepG_region_end)
        co_apply QuitsD.ctl rfl (fun _ => stepG_seq)
        co_apply QuitsD.ctl rfl (fun _ => stepG_region)
        try simp only [List.size_toArray, List.length_cons, List.length_nil, Nat.reduceAdd, Nat.zero_add, List.range, List.range.loop]
        co_applyP QuitsD.value _ rfl (by rfl) (by first | decide | simp [base] | simp [baseD]) (fun _ => run_eq_of ?run) (fun _ => by simp [go_sem, *])
        case run => intro K hK; go_simp; exact hK
        try walk_nrm
        try w_num
        co_applyP QuitsD.value _ rfl (by rfl) (by first | decide | simp [base] | simp [baseD]) (fun _ => run_eq_of ?run) (fun _ => by simp [go_sem, *])
        case run => intro K hK; go_simp; exact hK
        try walk_nrm
        try w_num
        co_applyP QuitsD.value _ rfl (by rfl) (by first | decide | simp [base] | simp [baseD]) (fun _ => run_eq_of ?run) (fun _ => by simp [go_sem, *])
        case run => intro K hK; go_simp; exact hK
        try walk_nrm
        try w_num
        co_applyP QuitsD.value _ rfl (by rfl) (by first | decide | simp [base] | simp [baseD]) (fun _ => run_eq_of ?run) (fun _ => by simp [go_sem, *])
        case run => intro K hK; go_simp; exact hK
        try walk_nrm
        try w_num
        co_apply QuitsD.ctl rfl (fun _ => stepG_region_end)
        co_apply QuitsD.ctl rfl (fun _ => stepG_seq)
        co_apply QuitsD.ctl rfl (fun _ => stepG_seq)
        co_apply QuitsD.ctl rfl (fun _ => stepG_region)
        try simp only [List.size_toArray, List.length_cons, List.length_nil, Nat.reduceAdd, Nat.zero_add, List.range, List.range.loop]
        co_applyP QuitsD.value _ rfl (by rfl) (by first | decide | simp [base] | simp [baseD]) (fun _ => run_eq_of ?run) (fun _ => by simp [go_sem, *])
        case run => intro K hK; go_simp; exact hK
        try walk_nrm
        try w_num
        first
        | (co_applyP QuitsD.value _ rfl (by rfl) (by first | decide | simp [base] | simp [baseD]) (fun _ => run_eq_of ?run) (fun _ => by simp [go_sem, *]); case run => intro K hK; go_simp; exact hK)
        | co_applyP QuitsD.unwanted rfl (by rfl)
        try walk_nrm
        try w_num
        first
        | (co_applyP QuitsD.value _ rfl (by rfl) (by first | decide | simp [base] | simp [baseD]) (fun _ => run_eq_of ?run) (fun _ => by simp [go_sem, *]); case run => intro K hK; go_simp; exact hK)
        | co_applyP QuitsD.unwanted rfl (by rfl)
        try walk_nrm
        try w_num
        co_applyP QuitsD.value _ rfl (by rfl) (by first | decide | simp [base] | simp [baseD]) (fun _ => run_eq_of ?run) (fun _ => by simp [go_sem, *])
        case run => intro K hK; go_simp; exact hK
        try walk_nrm
        try w_num
        co_applyP QuitsD.value _ rfl (by rfl) (by first | decide | simp [base] | simp [baseD]) (fun _ => run_eq_of ?run) (fun _ => by simp [go_sem, *])
        case run => intro K hK; go_simp; exact hK
        try walk_nrm
        try w_num
        first
        | (co_applyP QuitsD.value _ rfl (by rfl) (by first | decide | simp [base] | simp [baseD]) (fun _ => run_eq_of ?run) (fun _ => by simp [go_sem, *]); case run => intro K hK; go_simp; exact hK)
        | co_applyP QuitsD.unwanted rfl (by rfl)
        try walk_nrm
        try w_num
        first
        | (co_applyP QuitsD.value _ rfl (by rfl) (by first | decide | simp [base] | simp [baseD]) (fun _ => run_eq_of ?run) (fun _ => by simp [go_sem, *]); case run => intro K hK; go_simp; exact hK)
        | co_applyP QuitsD.unwanted rfl (by rfl)
        try walk_nrm
        try w_num
        first
        | (co_applyP QuitsD.value _ rfl (by rfl) (by first | decide | simp [base] | simp [baseD]) (fun _ => run_eq_of ?run) (fun _ => by simp [go_sem, *]); case run => intro K hK; go_simp; exact hK)
        | co_applyP QuitsD.unwanted rfl (by rfl)
        try walk_nrm
        try w_num
        first
        | (co_applyP QuitsD.value _ rfl (by rfl) (by first | decide | simp [base] | simp [baseD]) (fun _ => run_eq_of ?run) (fun _ => by simp [go_sem, *]); case run => intro K hK; go_simp; exact hK)
        | co_applyP QuitsD.unwanted rfl (by rfl)
        try walk_nrm
        try w_num
        co_applyP QuitsD.value _ rfl (by rfl) (by first | decide | simp [base] | simp [baseD]) (fun _ => run_eq_of ?run) (fun _ => by simp [go_sem, *])
        case run => intro K hK; go_simp; exact hK
        try walk_nrm
        try w_num
        co_apply QuitsD.ctl rfl (fun _ => stepG_region_end)
        co_apply QuitsD.ctl rfl (fun _ => stepG_cond (t := false) rfl)
        try simp only [Bool.false_eq_true, ↓reduceIte]
        co_apply QuitsD.ctl rfl (fun _ => stepG_skip)
        co_apply QuitsD.ctl rfl (fun _ => stepG_seq)
        co_apply QuitsD.ctl rfl (fun _ => stepG_seq)
        co_apply QuitsD.ctl rfl (fun _ => stepG_region)
        try simp only [List.size_toArray, List.length_cons, List.length_nil, Nat.reduceAdd, Nat.zero_add, List.range, List.range.loop]
        co_applyP QuitsD.value _ rfl (by rfl) (by first | decide | simp [base] | simp [baseD]) (fun _ => run_eq_of ?run) (fun _ => by simp [go_sem, *])
        case run => intro K hK; go_simp; exact hK
        try walk_nrm
        try w_num
        co_applyP QuitsD.value _ rfl (by rfl) (by first | decide | simp [base] | simp [baseD]) (fun _ => run_eq_of ?run) (fun _ => by simp [go_sem, *])
        case run => intro K hK; go_simp; exact hK
        try walk_nrm
        try w_num
        co_apply QuitsD.ctl rfl (fun _ => stepG_region_end)
        co_apply QuitsD.ctl rfl (fun _ => stepG_cond (t := false) rfl)
        try simp only [Bool.false_eq_true, ↓reduceIte]
        co_apply QuitsD.ctl rfl (fun _ => stepG_skip)
        co_apply QuitsD.ctl rfl (fun _ => stepG_seq)
        co_apply QuitsD.ctl rfl (fun _ => stepG_seq)
        co_apply QuitsD.ctl rfl (fun _ => stepG_region)
        try simp only [List.size_toArray, List.length_cons, List.length_nil, Nat.reduceAdd, Nat.zero_add, List.range, List.range.loop]
        co_applyP QuitsD.value _ rfl (by rfl) (by first | decide | simp [base] | simp [baseD]) (fun _ => run_eq_of ?run) (fun _ => by simp [go_sem, *])
        case run => intro K hK; go_simp; exact hK
        try walk_nrm
        try w_num
        co_applyP QuitsD.value _ rfl (by rfl) (by first | decide | simp [base] | simp [baseD]) (fun _ => run_eq_of ?run) (fun _ => by simp [go_sem, *])
        case run => intro K hK; go_simp; exact hK
        try walk_nrm
        try w_num
        co_applyP QuitsD.value _ rfl (by rfl) (by first | decide | simp [base] | simp [baseD]) (fun _ => run_eq_of ?run) (fun _ => by simp [go_sem, *])
        case run => intro K hK; go_simp; exact hK
        try walk_nrm
        try w_num
        first
        | (co_applyP QuitsD.value _ rfl (by rfl) (by first | decide | simp [base] | simp [baseD]) (fun _ => run_eq_of ?run) (fun _ => by simp [go_sem, *]); case run => intro K hK; go_simp; exact hK)
        | co_applyP QuitsD.unwanted rfl (by rfl)
        try walk_nrm
        try w_num
        first
        | (co_applyP QuitsD.value _ rfl (by rfl) (by first | decide | simp [base] | simp [baseD]) (fun _ => run_eq_of ?run) (fun _ => by simp [go_sem, *]); case run => intro K hK; go_simp; exact hK)
        | co_applyP QuitsD.unwanted rfl (by rfl)
        try walk_nrm
        try w_num
        co_applyP QuitsD.value _ rfl (by rfl) (by first | decide | simp [base] | simp [baseD]) (fun _ => run_eq_of ?run) (fun _ => by simp [go_sem, *])
        case run => intro K hK; go_simp; exact hK
        try walk_nrm
        try w_num
        co_applyP QuitsD.value _ rfl (by rfl) (by first | decide | simp [base] | simp [baseD]) (fun _ => run_eq_of ?run) (fun _ => by simp [go_sem, *])
        case run => intro K hK; go_simp; exact hK
        try walk_nrm
        try w_num
        first
        | (co_applyP QuitsD.value _ rfl (by rfl) (by first | decide | simp [base] | simp [baseD]) (fun _ => run_eq_of ?run) (fun _ => by simp [go_sem, *]); case run => intro K hK; go_simp; exact hK)
        | co_applyP QuitsD.unwanted rfl (by rfl)
        try walk_nrm
        try w_num
        first
        | (co_applyP QuitsD.value _ rfl (by rfl) (by first | decide | simp [base] | simp [baseD]) (fun _ => run_eq_of ?run) (fun _ => by simp [go_sem, *]); case run => intro K hK; go_simp; exact hK)
        | co_applyP QuitsD.unwanted rfl (by rfl)
        try walk_nrm
        try w_num
        first
        | (co_applyP QuitsD.value _ rfl (by rfl) (by first | decide | simp [base] | simp [baseD]) (fun _ => run_eq_of ?run) (fun _ => by simp [go_sem, *]); case run => intro K hK; go_simp; exact hK)
        | co_applyP QuitsD.unwanted rfl (by rfl)
        try walk_nrm
        try w_num
        first
        | (co_applyP QuitsD.value _ rfl (by rfl) (by first | decide | simp [base] | simp [baseD]) (fun _ => run_eq_of ?run) (fun _ => by simp [go_sem, *]); case run => intro K hK; go_simp; exact hK)
        | co_applyP QuitsD.unwanted rfl (by rfl)
        try walk_nrm
        try w_num
        co_applyP QuitsD.value _ rfl (by rfl) (by first | decide | simp [base] | simp [baseD]) (fun _ => run_eq_of ?run) (fun _ => by simp [go_sem, *])
        case run => intro K hK; go_simp; exact hK
        try walk_nrm
        try w_num
        co_apply QuitsD.ctl rfl (fun _ => stepG_region_end)
        co_apply QuitsD.ctl rfl (fun _ => stepG_cond (t := false) rfl)
        try simp only [Bool.false_eq_true, ↓reduceIte]
        co_apply QuitsD.ctl rfl (fun _ => stepG_skip)
        co_apply QuitsD.ctl rfl (fun _ => stepG_seq)
        co_apply QuitsD.ctl rfl (fun _ => stepG_seq)
        co_apply QuitsD.ctl rfl (fun _ => stepG_region)
        try simp only [List.size_toArray, List.length_cons, List.length_nil, Nat.reduceAdd, Nat.zero_add, List.range, List.range.loop]
        co_applyP QuitsD.value _ rfl (by rfl) (by first | decide | simp [base] | simp [baseD]) (fun _ => run_eq_of ?run) (fun _ => by simp [go_sem, *])
        case run => intro K hK; go_simp; exact hK
        try walk_nrm
        try w_num
        co_applyP QuitsD.value _ rfl (by rfl) (by first | decide | simp [base] | simp [baseD]) (fun _ => run_eq_of ?run) (fun _ => by simp [go_sem, *])
        case run => intro K hK; go_simp; exact hK
        try walk_nrm
        try w_num
        co_applyP QuitsD.value _ rfl (by rfl) (by first | decide | simp [base] | simp [baseD]) (fun _ => run_eq_of ?run) (fun _ => by simp [go_sem, *])
        case run => intro K hK; go_simp; exact hK
        try walk_nrm
        try w_num
        first
        | (co_applyP QuitsD.value _ rfl (by rfl) (by first | decide | simp [base] | simp [baseD]) (fun _ => run_eq_of ?run) (fun _ => by simp [go_sem, *]); case run => intro K hK; go_simp; exact hK)
        | co_applyP QuitsD.unwanted rfl (by rfl)
        try walk_nrm
        try w_num
        first
        | (co_applyP QuitsD.value _ rfl (by rfl) (by first | decide | simp [base] | simp [baseD]) (fun _ => run_eq_of ?run) (fun _ => by simp [go_sem, *]); case run => intro K hK; go_simp; exact hK)
        | co_applyP QuitsD.unwanted rfl (by rfl)
        try walk_nrm
        try w_num
        co_applyP QuitsD.value _ rfl (by rfl) (by first | decide | simp [base] | simp [baseD]) (fun _ => run_eq_of ?run) (fun _ => by simp [go_sem, *])
        case run => intro K hK; go_simp; exact hK
        try walk_nrm
        try w_num
        co_apply QuitsD.ctl rfl (fun _ => stepG_region_end)
        co_apply QuitsD.ctl rfl (fun _ => stepG_cond (t := true) rfl)
        try simp only [↓reduceIte]
        co_apply QuitsD.ctl rfl (fun _ => stepG_ret')
        co_applyP QuitsD.unwind_mark .enable rfl (by simp) rfl Try.func64 (by kernel_rfl) (by kernel_rfl) (by kernel_rfl) (by kernel_rfl)
        rw [Go.ConcR.Gen.deafBehind_enable1]
        co_applyP QuitsD.leave0 rfl rfl Try.func54 rfl
        try walk_nrm
        co_apply QuitsD.ctl rfl (fun _ => stepG_region_end)
        co_apply QuitsD.ctl rfl (fun _ => stepG_end)
        co_applyP QuitsD.leaveD rfl rfl Try.func56 rfl rfl
        exact quitsTail _ _
      · skip
        have q8 : ((wt : Int) != 0) = true := by simp <;> omega
        have q9 : ((wt : Int) == 0) = false := by simp <;> omega
        co_applyP QuitsD.value _ rfl (by rfl) (by first | decide | simp [base] | simp [baseD]) (fun _ => run_eq_of ?run) (fun _ => by simp [go_sem, *])
        case run => intro K hK; go_simp; exact hK
        try walk_nrm
        try w_num
        co_apply QuitsD.ctl rfl (fun _ => stepG_region_end)
        co_apply QuitsD.ctl rfl (fun _ => stepG_ret')
        first | co_applyP QuitsD.leave1 rfl rfl Try.func69 rfl | co_applyP QuitsD.leave0 rfl rfl Try.func69 rfl
        try walk_nrm
        co_applyP QuitsD.value _ rfl (by rfl) (by first | decide | simp [base] | simp [baseD]) (fun _ => run_eq_of ?run) (fun _ => by simp [go_sem, *])
        case run => intro K hK; go_simp; exact hK
        try walk_nrm
        try w_num
        co_apply QuitsD.ctl rfl (fun _ => stepG_region_end)
        co_apply QuitsD.ctl rfl (fun _ => stepG_seq)
        co_apply QuitsD.ctl rfl (fun _ => stepG_seq)
        co_apply QuitsD.ctl rfl (fun _ => stepG_region)
        try simp only [List.size_toArray, List.length_cons, List.length_nil, Nat.reduceAdd, Nat.zero_add, List.range, List.range.loop]
        co_applyP QuitsD.value _ rfl (by rfl) (by first | decide | simp [base] | simp [baseD]) (fun _ => run_eq_of ?run) (fun _ => by simp [go_sem, *])
        case run => intro K hK; go_simp; exact hK
        try walk_nrm
        try w_num
        co_applyP QuitsD.value _ rfl (by rfl) (by first | decide | simp [base] | simp [baseD]) (fun _ => run_eq_of ?run) (fun _ => by simp [go_sem, *])
        case run => intro K hK; go_simp; exact hK
        try walk_nrm
        try w_num
        co_applyP QuitsD.value _ rfl (by rfl) (by first | decide | simp [base] | simp [baseD]) (fun _ => run_eq_of ?run) (fun _ => by simp [go_sem, *])
        case run => intro K hK; go_simp; exact hK
        try walk_nrm
        try w_num
        co_applyP QuitsD.value _ rfl (by rfl) (by first | decide | simp [base] | simp [baseD]) (fun _ => run_eq_of ?run) (fun _ => by simp [go_sem, *])
        case run => intro K hK; go_simp; exact hK
        try walk_nrm
        try w_num
        first
        | (co_applyP QuitsD.value _ rfl (by rfl) (by first | decide | simp [base] | simp [baseD]) (fun _ => run_eq_of ?run) (fun _ => by simp [go_sem, *]); case run => intro K hK; go_simp; exact hK)
        | co_applyP QuitsD.unwanted rfl (by rfl)
        try walk_nrm
        try w_num
        first
        | (co_applyP QuitsD.value _ rfl (by rfl) (by first | decide | simp [base] | simp [baseD]) (fun _ => run_eq_of ?run) (fun _ => by simp [go_sem, *]); case run => intro K hK; go_simp; exact hK)
        | co_applyP QuitsD.unwanted rfl (by rfl)
        try walk_nrm
        try w_num
        co_applyP QuitsD.value _ rfl (by rfl) (by first | decide | simp [base] | simp [baseD]) (fun _ => run_eq_of ?run) (fun _ => by simp [go_sem, *])
        case run => intro K hK; go_simp; exact hK
        try walk_nrm
        try w_num
        co_apply QuitsD.ctl rfl (fun _ => stepG_region_end)
        co_apply QuitsD.ctl rfl (fun _ => stepG_cond (t := false) rfl)
        try simp only [Bool.false_eq_true, ↓reduceIte]
        co_apply QuitsD.ctl rfl (fun _ => stepG_skip)
        co_apply QuitsD.ctl rfl (fun _ => stepG_seq)
        co_apply QuitsD.ctl rfl (fun _ => stepG_region)
        try simp only [List.size_toArray, List.length_cons, List.length_nil, Nat.reduceAdd, Nat.zero_add, List.range, List.range.loop]
        co_applyP QuitsD.value _ rfl (by rfl) (by first | decide | simp [base] | simp [baseD]) (fun _ => run_eq_of ?run) (fun _ => by simp [go_sem, *])
        case run => intro K hK; go_simp; exact hK
        try walk_nrm
        try w_num
        co_applyP QuitsD.value _ rfl (by rfl) (by first | decide | simp [base] | simp [baseD]) (fun _ => run_eq_of ?run) (fun _ => by simp [go_sem, *])
        case run => intro K hK; go_simp; exact hK
        try walk_nrm
        try w_num
        co_applyP QuitsD.value _ rfl (by rfl) (by first | decide | simp [base] | simp [baseD]) (fun _ => run_eq_of ?run) (fun _ => by simp [go_sem, *])
        case run => intro K hK; go_simp; exact hK
        try walk_nrm
        try w_num
        co_applyP QuitsD.value _ rfl (by rfl) (by first | decide | simp [base] | simp [baseD]) (fun _ => run_eq_of ?run) (fun _ => by simp [go_sem, *])
        case run => intro K hK; go_simp; exact hK
        try walk_nrm
        try w_num
        co_apply QuitsD.ctl rfl (fun _ => stepG_region_end)
        co_apply QuitsD.ctl rfl (fun _ => stepG_seq)
        co_apply QuitsD.ctl rfl (fun _ => stepG_region)
        try simp only [List.size_toArray, List.length_cons, List.length_nil, Nat.reduceAdd, Nat.zero_add, List.range, List.range.loop]
        co_applyP QuitsD.value _ rfl (by rfl) (by first | decide | simp [base] | simp [baseD]) (fun _ => run_eq_of ?run) (fun _ => by simp [go_sem, *])
        case run => intro K hK; go_simp; exact hK
        try walk_nrm
        try w_num
        co_applyP QuitsD.value _ rfl (by rfl) (by first | decide | simp [base] | simp [baseD]) (fun _ => run_eq_of ?run) (fun _ => by simp [go_sem, *])
        case run => intro K hK; go_simp; exact hK
        try walk_nrm
        try w_num
        co_applyP QuitsD.value _ rfl (by rfl) (by first | decide | simp [base] | simp [baseD]) (fun _ => run_eq_of ?run) (fun _ => by simp [go_sem, *])
        case run => intro K hK; go_simp; exact hK
        try walk_nrm
        try w_num
        co_applyP QuitsD.value _ rfl (by rfl) (by first | decide | simp [base] | simp [baseD]) (fun _ => run_eq_of ?run) (fun _ => by simp [go_sem, *])
        case run => intro K hK; go_simp; exact hK
        try walk_nrm
        try w_num
        co_apply QuitsD.ctl rfl (fun _ => stepG_region_end)
        co_apply QuitsD.ctl rfl (fun _ => stepG_seq)
        co_apply QuitsD.ctl rfl (fun _ => stepG_seq)
        co_apply QuitsD.ctl rfl (fun _ => stepG_region)
        try simp only [List.size_toArray, List.length_cons, List.length_nil, Nat.reduceAdd, Nat.zero_add, List.range, List.range.loop]
        co_applyP QuitsD.value _ rfl (by rfl) (by first | decide | simp [base] | simp [baseD]) (fun _ => run_eq_of ?run) (fun _ => by simp [go_sem, *])
        case run => intro K hK; go_simp; exact hK
        try walk_nrm
        try w_num
        first
        | (co_applyP QuitsD.value _ rfl (by rfl) (by first | decide | simp [base] | simp [baseD]) (fun _ => run_eq_of ?run) (fun _ => by simp [go_sem, *]); case run => intro K hK; go_simp; exact hK)
        | co_applyP QuitsD.unwanted rfl (by rfl)
        try walk_nrm
        try w_num
        first
        | (co_applyP QuitsD.value _ rfl (by rfl) (by first | decide | simp [base] | simp [baseD]) (fun _ => run_eq_of ?run) (fun _ => by simp [go_sem, *]); case run => intro K hK; go_simp; exact hK)
        | co_applyP QuitsD.unwanted rfl (by rfl)
        try walk_nrm
        try w_num
        co_applyP QuitsD.value _ rfl (by rfl) (by first | decide | simp [base] | simp [baseD]) (fun _ => run_eq_of ?run) (fun _ => by simp [go_sem, *])
        case run => intro K hK; go_simp; exact hK
        try walk_nrm
        try w_num
        co_applyP QuitsD.value _ rfl (by rfl) (by first | decide | simp [base] | simp [baseD]) (fun _ => run_eq_of ?run) (fun _ => by simp [go_sem, *])
        case run => intro K hK; go_simp; exact hK
        try walk_nrm
        try w_num
        first
        | (co_applyP QuitsD.value _ rfl (by rfl) (by first | decide | simp [base] | simp [baseD]) (fun _ => run_eq_of ?run) (fun _ => by simp [go_sem, *]); case run => intro K hK; go_simp; exact hK)
        | co_applyP QuitsD.unwanted rfl (by rfl)
        try walk_nrm
        try w_num
        first
        | (co_applyP QuitsD.value _ rfl (by rfl) (by first | decide | simp [base] | simp [baseD]) (fun _ => run_eq_of ?run) (fun _ => by simp [go_sem, *]); case run => intro K hK; go_simp; exact hK)
        | co_applyP QuitsD.unwanted rfl (by rfl)
        try walk_nrm
        try w_num
        first
        | (co_applyP QuitsD.value _ rfl (by rfl) (by first | decide | simp [base] | simp [baseD]) (fun _ => run_eq_of ?run) (fun _ => by simp [go_sem, *]); case run => intro K hK; go_simp; exact hK)
        | co_applyP QuitsD.unwanted rfl (by rfl)
        try walk_nrm
        try w_num
        first
        | (co_applyP QuitsD.value _ rfl (by rfl) (by first | decide | simp [base] | simp [baseD]) (fun _ => run_eq_of ?run) (fun _ => by simp [go_sem, *]); case run => intro K hK; go_simp; exact hK)
        | co_applyP QuitsD.unwanted rfl (by rfl)
        try walk_nrm
        try w_num
        co_applyP QuitsD.value _ rfl (by rfl) (by first | decide | simp [base] | simp [baseD]) (fun _ => run_eq_of ?run) (fun _ => by simp [go_sem, *])
        case run => intro K hK; go_simp; exact hK
        try walk_nrm
        try w_num
        co_apply QuitsD.ctl rfl (fun _ => stepG_region_end)
        co_apply QuitsD.ctl rfl (fun _ => stepG_cond (t := false) rfl)
        try simp only [Bool.false_eq_true, ↓reduceIte]
        co_apply QuitsD.ctl rfl (fun _ => stepG_skip)
        co_apply QuitsD.ctl rfl (fun _ => stepG_seq)
        co_apply QuitsD.ctl rfl (fun _ => stepG_seq)
        co_apply QuitsD.ctl rfl (fun _ => stepG_region)
        try simp only [List.size_toArray, List.length_cons, List.length_nil, Nat.reduceAdd, Nat.zero_add, List.range, List.range.loop]
        co_applyP QuitsD.value _ rfl (by rfl) (by first | decide | simp [base] | simp [baseD]) (fun _ => run_eq_of ?run) (fun _ => by simp [go_sem, *])
        case run => intro K hK; go_simp; exact hK
        try walk_nrm
        try w_num
        co_applyP QuitsD.value _ rfl (by rfl) (by first | decide | simp [base] | simp [baseD]) (fun _ => run_eq_of ?run) (fun _ => by simp [go_sem, *])
        case run => intro K hK; go_simp; exact hK
        try walk_nrm
        try w_num
        co_apply QuitsD.ctl rfl (fun _ => stepG_region_end)
        co_apply QuitsD.ctl rfl (fun _ => stepG_cond (t := false) rfl)
        try simp only [Bool.false_eq_true, ↓reduceIte]
        co_apply QuitsD.ctl rfl (fun _ => stepG_skip)
        co_apply QuitsD.ctl rfl (fun _ => stepG_seq)
        co_apply QuitsD.ctl rfl (fun _ => stepG_seq)
        co_apply QuitsD.ctl rfl (fun _ => stepG_region)
        try simp only [List.size_toArray, List.length_cons, List.length_nil, Nat.reduceAdd, Nat.zero_add, List.range, List.range.loop]
        co_applyP QuitsD.value _ rfl (by rfl) (by first | decide | simp [base] | simp [baseD]) (fun _ => run_eq_of ?run) (fun _ => by simp [go_sem, *])
        case run => intro K hK; go_simp; exact hK
        try walk_nrm
        try w_num
        co_applyP QuitsD.value _ rfl (by rfl) (by first | decide | simp [base] | simp [baseD]) (fun _ => run_eq_of ?run) (fun _ => by simp [go_sem, *])
        case run => intro K hK; go_simp; exact hK
        try walk_nrm
        try w_num
        co_applyP QuitsD.value _ rfl (by rfl) (by first | decide | simp [base] | simp [baseD]) (fun _ => run_eq_of ?run) (fun _ => by simp [go_sem, *])
        case run => intro K hK; go_simp; exact hK
        try walk_nrm
        try w_num
        first
        | (co_applyP QuitsD.value _ rfl (by rfl) (by first | decide | simp [base] | simp [baseD]) (fun _ => run_eq_of ?run) (fun _ => by simp [go_sem, *]); case run => intro K hK; go_simp; exact hK)
        | co_applyP QuitsD.unwanted rfl (by rfl)
        try walk_nrm
        try w_num
        first
        | (co_applyP QuitsD.value _ rfl (by rfl) (by first | decide | simp [base] | simp [baseD]) (fun _ => run_eq_of ?run) (fun _ => by simp [go_sem, *]); case run => intro K hK; go_simp; exact hK)
        | co_applyP QuitsD.unwanted rfl (by rfl)
        try walk_nrm
        try w_num
        co_applyP QuitsD.value _ rfl (by rfl) (by first | decide | simp [base] | simp [baseD]) (fun _ => run_eq_of ?run) (fun _ => by simp [go_sem, *])
        case run => intro K hK; go_simp; exact hK
        try walk_nrm
        try w_num
        co_applyP QuitsD.value _ rfl (by rfl) (by first | decide | simp [base] | simp [baseD]) (fun _ => run_eq_of ?run) (fun _ => by simp [go_sem, *])
        case run => intro K hK; go_simp; exact hK
        try walk_nrm
        try w_num
        first
        | (co_applyP QuitsD.value _ rfl (by rfl) (by first | decide | simp [base] | simp [baseD]) (fun _ => run_eq_of ?run) (fun _ => by simp [go_sem, *]); case run => intro K hK; go_simp; exact hK)
        | co_applyP QuitsD.unwanted rfl (by rfl)
        try walk_nrm
        try w_num
        first
        | (co_applyP QuitsD.value _ rfl (by rfl) (by first | decide | simp [base] | simp [baseD]) (fun _ => run_eq_of ?run) (fun _ => by simp [go_sem, *]); case run => intro K hK; go_simp; exact hK)
        | co_applyP QuitsD.unwanted rfl (by rfl)
        try walk_nrm
        try w_num
        first
        | (co_applyP QuitsD.value _ rfl (by rfl) (by first | decide | simp [base] | simp [baseD]) (fun _ => run_eq_of ?run) (fun _ => by simp [go_sem, *]); case run => intro K hK; go_simp; exact hK)
        | co_applyP QuitsD.unwanted rfl (by rfl)
        try walk_nrm
        try w_num
        first
        | (co_applyP QuitsD.value _ rfl (by rfl) (by first | decide | simp [base] | simp [baseD]) (fun _ => run_eq_of ?run) (fun _ => by simp [go_sem, *]); case run => intro K hK; go_simp; exact hK)
        | co_applyP QuitsD.unwanted rfl (by rfl)
        try walk_nrm
        try w_num
        co_applyP QuitsD.value _ rfl (by rfl) (by first | decide | simp [base] | simp [baseD]) (fun _ => run_eq_of ?run) (fun _ => by simp [go_sem, *])
        case run => intro K hK; go_simp; exact hK
        try walk_nrm
        try w_num
        co_apply QuitsD.ctl rfl (fun _ => stepG_region_end)
        co_apply QuitsD.ctl rfl (fun _ => stepG_cond (t := false) rfl)
        try simp only [Bool.false_eq_true, ↓reduceIte]
        co_apply QuitsD.ctl rfl (fun _ => stepG_skip)
        co_apply QuitsD.ctl rfl (fun _ => stepG_seq)
        co_apply QuitsD.ctl rfl (fun _ => stepG_seq)
        co_apply QuitsD.ctl rfl (fun _ => stepG_region)
        try simp only [List.size_toArray, List.length_cons, List.length_nil, Nat.reduceAdd, Nat.zero_add, List.range, List.range.loop]
        co_applyP QuitsD.value _ rfl (by rfl) (by first | decide | simp [base] | simp [baseD]) (fun _ => run_eq_of ?run) (fun _ => by simp [go_sem, *])
        case run => intro K hK; go_simp; exact hK
        try walk_nrm
        try w_num
        co_applyP QuitsD.value _ rfl (by rfl) (by first | decide | simp [base] | simp [baseD]) (fun _ => run_eq_of ?run) (fun _ => by simp [go_sem, *])
        case run => intro K hK; go_simp; exact hK
        try walk_nrm
        try w_num
        co_applyP QuitsD.value _ rfl (by rfl) (by first | decide | simp [base] | simp [baseD]) (fun _ => run_eq_of ?run) (fun _ => by simp [go_sem, *])
        case run => intro K hK; go_simp; exact hK
        try walk_nrm
        try w_num
        first
        | (co_applyP QuitsD.value _ rfl (by rfl) (by first | decide | simp [base] | simp [baseD]) (fun _ => run_eq_of ?run) (fun _ => by simp [go_sem, *]); case run => intro K hK; go_simp; exact hK)
        | co_applyP QuitsD.unwanted rfl (by rfl)
        try walk_nrm
        try w_num
        first
        | (co_applyP QuitsD.value _ rfl (by rfl) (by first | decide | simp [base] | simp [baseD]) (fun _ => run_eq_of ?run) (fun _ => by simp [go_sem, *]); case run => intro K hK; go_simp; exact hK)
        | co_applyP QuitsD.unwanted rfl (by rfl)
        try walk_nrm
        try w_num
        co_applyP QuitsD.value _ rfl (by rfl) (by first | decide | simp [base] | simp [baseD]) (fun _ => run_eq_of ?run) (fun _ => by simp [go_sem, *])
        case run => intro K hK; go_simp; exact hK
        try walk_nrm
        try w_num
        co_apply QuitsD.ctl rfl (fun _ => stepG_region_end)
        co_apply QuitsD.ctl rfl (fun _ => stepG_cond (t := true) rfl)
        try simp only [↓reduceIte]
        co_apply QuitsD.ctl rfl (fun _ => stepG_ret')
        co_applyP QuitsD.unwind_mark .enable rfl (by simp) rfl Try.func64 (by kernel_rfl) (by kernel_rfl) (by kernel_rfl) (by kernel_rfl)
        rw [Go.ConcR.Gen.deafBehind_enable1]
        co_applyP QuitsD.leave0 rfl rfl Try.func54 rfl
        try walk_nrm
        co_apply QuitsD.ctl rfl (fun _ => stepG_region_end)
        co_apply QuitsD.ctl rfl (fun _ => stepG_end)
        co_applyP QuitsD.leaveD rfl rfl Try.func56 rfl rfl
        exact quitsTail _ _
    · skip
      by_cases hv0 : 0 < v
      · skip
        have q8 : ((wt : Int) != 0) = false := by simp <;> omega
        have q9 : ((wt : Int) == 0) = true := by simp <;> omega
        have q7 : decide (0 < (v : Int)) = true := by simp <;> omega
        have q7b : decide ((v : Int) > 0) = true := by simp <;> omega
        co_applyP QuitsD.value _ rfl (by rfl) (by first | decide | simp [base] | simp [baseD]) (fun _ => run_eq_of ?run) (fun _ => by simp [go_sem, *])
        case run => intro K hK; go_simp; exact hK
        try walk_nrm
        try w_num
        co_apply QuitsD.ctl rfl (fun _ => stepG_region_end)
        co_apply QuitsD.ctl rfl (fun _ => stepG_ret')
        first | co_applyP QuitsD.leave1 rfl rfl Try.func69 rfl | co_applyP QuitsD.leave0 rfl rfl Try.func69 rfl
        try walk_nrm
        co_applyP QuitsD.value _ rfl (by rfl) (by first | decide | simp [base] | simp [baseD]) (fun _ => run_eq_of ?run) (fun _ => by simp [go_sem, *])
        case run => intro K hK; go_simp; exact hK
        try walk_nrm
        try w_num
        co_apply QuitsD.ctl rfl (fun _ => stepG_region_end)
        co_apply QuitsD.ctl rfl (fun _ => stepG_seq)
        co_apply QuitsD.ctl rfl (fun _ => stepG_seq)
        co_apply QuitsD.ctl rfl (fun _ => stepG_region)
        try simp only [List.size_toArray, List.length_cons, List.length_nil, Nat.reduceAdd, Nat.zero_add, List.range, List.range.loop]
        co_applyP QuitsD.value _ rfl (by rfl) (by first | decide | simp [base] | simp [baseD]) (fun _ => run_eq_of ?run) (fun _ => by simp [go_sem, *])
        case run => intro K hK; go_simp; exact hK
        try walk_nrm
        try w_num
        co_applyP QuitsD.value _ rfl (by rfl) (by first | decide | simp [base] | simp [baseD]) (fun _ => run_eq_of ?run) (fun _ => by simp [go_sem, *])
        case run => intro K hK; go_simp; exact hK
        try walk_nrm
        try w_num
        co_applyP QuitsD.value _ rfl (by rfl) (by first | decide | simp [base] | simp [baseD]) (fun _ => run_eq_of ?run) (fun _ => by simp [go_sem, *])
        case run => intro K hK; go_simp; exact hK
        try walk_nrm
        try w_num
        co_applyP QuitsD.value _ rfl (by rfl) (by first | decide | simp [base] | simp [baseD]) (fun _ => run_eq_of ?run) (fun _ => by simp [go_sem, *])
        case run => intro K hK; go_simp; exact hK
        try walk_nrm
        try w_num
        first
        | (co_applyP QuitsD.value _ rfl (by rfl) (by first | decide | simp [base] | simp [baseD]) (fun _ => run_eq_of ?run) (fun _ => by simp [go_sem, *]); case run => intro K hK; go_simp; exact hK)
        | co_applyP QuitsD.unwanted rfl (by rfl)
        try walk_nrm
        try w_num
        first
        | (co_applyP QuitsD.value _ rfl (by rfl) (by first | decide | simp [base] | simp [baseD]) (fun _ => run_eq_of ?run) (fun _ => by simp [go_sem, *]); case run => intro K hK; go_simp; exact hK)
        | co_applyP QuitsD.unwanted rfl (by rfl)
        try walk_nrm
        try w_num
        co_applyP QuitsD.value _ rfl (by rfl) (by first | decide | simp [base] | simp [baseD]) (fun _ => run_eq_of ?run) (fun _ => by simp [go_sem, *])
        case run => intro K hK; go_simp; exact hK
        try walk_nrm
        try w_num
        co_apply QuitsD.ctl rfl (fun _ => stepG_region_end)
        co_apply QuitsD.ctl rfl (fun _ => stepG_cond (t := false) rfl)
        try simp only [Bool.false_eq_true, ↓reduceIte]
        co_apply QuitsD.ctl rfl (fun _ => stepG_skip)
        co_apply QuitsD.ctl rfl (fun _ => stepG_seq)
        co_apply QuitsD.ctl rfl (fun _ => stepG_region)
        try simp only [List.size_toArray, List.length_cons, List.length_nil, Nat.reduceAdd, Nat.zero_add, List.range, List.range.loop]
        co_applyP QuitsD.value _ rfl (by rfl) (by first | decide | simp [base] | simp [baseD]) (fun _ => run_eq_of ?run) (fun _ => by simp [go_sem, *])
        case run => intro K hK; go_simp; exact hK
        try walk_nrm
        try w_num
        co_applyP QuitsD.value _ rfl (by rfl) (by first | decide | simp [base] | simp [baseD]) (fun _ => run_eq_of ?run) (fun _ => by simp [go_sem, *])
        case run => intro K hK; go_simp; exact hK
        try walk_nrm
        try w_num
        co_applyP QuitsD.value _ rfl (by rfl) (by first | decide | simp [base] | simp [baseD]) (fun _ => run_eq_of ?run) (fun _ => by simp [go_sem, *])
        case run => intro K hK; go_simp; exact hK
        try walk_nrm
        try w_num
        co_applyP QuitsD.value _ rfl (by rfl) (by first | decide | simp [base] | simp [baseD]) (fun _ => run_eq_of ?run) (fun _ => by simp [go_sem, *])
        case run => intro K hK; go_simp; exact hK
        try walk_nrm
        try w_num
        co_apply QuitsD.ctl rfl (fun _ => stepG_region_end)
        co_apply QuitsD.ctl rfl (fun _ => stepG_seq)
        co_apply QuitsD.ctl rfl (fun _ => stepG_region)
        try simp only [List.size_toArray, List.length_cons, List.length_nil, Nat.reduceAdd, Nat.zero_add, List.range, List.range.loop]
        co_applyP QuitsD.value _ rfl (by rfl) (by first | decide | simp [base] | simp [baseD]) (fun _ => run_eq_of ?run) (fun _ => by simp [go_sem, *])
        case run => intro K hK; go_simp; exact hK
        try walk_nrm
        try w_num
        co_applyP QuitsD.value _ rfl (by rfl) (by first | decide | simp [base] | simp [baseD]) (fun _ => run_eq_of ?run) (fun _ => by simp [go_sem, *])
        case run => intro K hK; go_simp; exact hK
        try walk_nrm
        try w_num
        co_applyP QuitsD.value _ rfl (by rfl) (by first | decide | simp [base] | simp [baseD]) (fun _ => run_eq_of ?run) (fun _ => by simp [go_sem, *])
        case run => intro K hK; go_simp; exact hK
        try walk_nrm
        try w_num
        co_applyP QuitsD.value _ rfl (by rfl) (by first | decide | simp [base] | simp [baseD]) (fun _ => run_eq_of ?run) (fun _ => by simp [go_sem, *])
        case run => intro K hK; go_simp; exact hK
        try walk_nrm
        try w_num
        co_apply QuitsD.ctl rfl (fun _ => stepG_region_end)
        co_apply QuitsD.ctl rfl (fun _ => stepG_seq)
        co_apply QuitsD.ctl rfl (fun _ => stepG_seq)
        co_apply QuitsD.ctl rfl (fun _ => stepG_region)
        try simp only [List.size_toArray, List.length_cons, List.length_nil, Nat.reduceAdd, Nat.zero_add, List.range, List.range.loop]
        co_applyP QuitsD.value _ rfl (by rfl) (by first | decide | simp [base] | simp [baseD]) (fun _ => run_eq_of ?run) (fun _ => by simp [go_sem, *])
        case run => intro K hK; go_simp; exact hK
        try walk_nrm
        try w_num
        first
        | (co_applyP QuitsD.value _ rfl (by rfl) (by first | decide | simp [base] | simp [baseD]) (fun _ => run_eq_of ?run) (fun _ => by simp [go_sem, *]); case run => intro K hK; go_simp; exact hK)
        | co_applyP QuitsD.unwanted rfl (by rfl)
        try walk_nrm
        try w_num
        first
        | (co_applyP QuitsD.value _ rfl (by rfl) (by first | decide | simp [base] | simp [baseD]) (fun _ => run_eq_of ?run) (fun _ => by simp [go_sem, *]); case run => intro K hK; go_simp; exact hK)
        | co_applyP QuitsD.unwanted rfl (by rfl)
        try walk_nrm
        try w_num
        co_applyP QuitsD.value _ rfl (by rfl) (by first | decide | simp [base] | simp [baseD]) (fun _ => run_eq_of ?run) (fun _ => by simp [go_sem, *])
        case run => intro K hK; go_simp; exact hK
        try walk_nrm
        try w_num
        co_applyP QuitsD.value _ rfl (by rfl) (by first | decide | simp [base] | simp [baseD]) (fun _ => run_eq_of ?run) (fun _ => by simp [go_sem, *])
        case run => intro K hK; go_simp; exact hK
        try walk_nrm
        try w_num
        first
        | (co_applyP QuitsD.value _ rfl (by rfl) (by first | decide | simp [base] | simp [baseD]) (fun _ => run_eq_of ?run) (fun _ => by simp [go_sem, *]); case run => intro K hK; go_simp; exact hK)
        | co_applyP QuitsD.unwanted rfl (by rfl)
        try walk_nrm
        try w_num
        first
        | (co_applyP QuitsD.value _ rfl (by rfl) (by first | decide | simp [base] | simp [baseD]) (fun _ => run_eq_of ?run) (fun _ => by simp [go_sem, *]); case run => intro K hK; go_simp; exact hK)
        | co_applyP QuitsD.unwanted rfl (by rfl)
        try walk_nrm
        try w_num
        first
        | (co_applyP QuitsD.value _ rfl (by rfl) (by first | decide | simp [base] | simp [baseD]) (fun _ => run_eq_of ?run) (fun _ => by simp [go_sem, *]); case run => intro K hK; go_simp; exact hK)
        | co_applyP QuitsD.unwanted rfl (by rfl)
        try walk_nrm
        try w_num
        first
        | (co_applyP QuitsD.value _ rfl (by rfl) (by first | decide | simp [base] | simp [baseD]) (fun _ => run_eq_of ?run) (fun _ => by simp [go_sem, *]); case run => intro K hK; go_simp; exact hK)
        | co_applyP QuitsD.unwanted rfl (by rfl)
        try walk_nrm
        try w_num
        co_applyP QuitsD.value _ rfl (by rfl) (by first | decide | simp [base] | simp [baseD]) (fun _ => run_eq_of ?run) (fun _ => by simp [go_sem, *])
        case run => intro K hK; go_simp; exact hK
        try walk_nrm
        try w_num
        co_apply QuitsD.ctl rfl (fun _ => stepG_region_end)
        co_apply QuitsD.ctl rfl (fun _ => stepG_cond (t := false) rfl)
        try simp only [Bool.false_eq_true, ↓reduceIte]
        co_apply QuitsD.ctl rfl (fun _ => stepG_skip)
        co_apply QuitsD.ctl rfl (fun _ => stepG_seq)
        co_apply QuitsD.ctl rfl (fun _ => stepG_seq)
        co_apply QuitsD.ctl rfl (fun _ => stepG_region)
        try simp only [List.size_toArray, List.length_cons, List.length_nil, Nat.reduceAdd, Nat.zero_add, List.range, List.range.loop]
        co_applyP QuitsD.value _ rfl (by rfl) (by first | decide | simp [base] | simp [baseD]) (fun _ => run_eq_of ?run) (fun _ => by simp [go_sem, *])
        case run => intro K hK; go_simp; exact hK
        try walk_nrm
        try w_num
        co_applyP QuitsD.value _ rfl (by rfl) (by first | decide | simp [base] | simp [baseD]) (fun _ => run_eq_of ?run) (fun _ => by simp [go_sem, *])
        case run => intro K hK; go_simp; exact hK
        try walk_nrm
        try w_num
        co_apply QuitsD.ctl rfl (fun _ => stepG_region_end)
        co_apply QuitsD.ctl rfl (fun _ => stepG_cond (t := false) rfl)
        try simp only [Bool.false_eq_true, ↓reduceIte]
        co_apply QuitsD.ctl rfl (fun _ => stepG_skip)
        co_apply QuitsD.ctl rfl (fun _ => stepG_seq)
        co_apply QuitsD.ctl rfl (fun _ => stepG_seq)
        co_apply QuitsD.ctl rfl (fun _ => stepG_region)
        try simp only [List.size_toArray, List.length_cons, List.length_nil, Nat.reduceAdd, Nat.zero_add, List.range, List.range.loop]
        co_applyP QuitsD.value _ rfl (by rfl) (by first | decide | simp [base] | simp [baseD]) (fun _ => run_eq_of ?run) (fun _ => by simp [go_sem, *])
        case run => intro K hK; go_simp; exact hK
        try walk_nrm
        try w_num
        co_applyP QuitsD.value _ rfl (by rfl) (by first | decide | simp [base] | simp [baseD]) (fun _ => run_eq_of ?run) (fun _ => by simp [go_sem, *])
        case run => intro K hK; go_simp; exact hK
        try walk_nrm
        try w_num
        co_applyP QuitsD.value _ rfl (by rfl) (by first | decide | simp [base] | simp [baseD]) (fun _ => run_eq_of ?run) (fun _ => by simp [go_sem, *])
        case run => intro K hK; go_simp; exact hK
        try walk_nrm
        try w_num
        first
        | (co_applyP QuitsD.value _ rfl (by rfl) (by first | decide | simp [base] | simp [baseD]) (fun _ => run_eq_of ?run) (fun _ => by simp [go_sem, *]); case run => intro K hK; go_simp; exact hK)
        | co_applyP QuitsD.unwanted rfl (by rfl)
        try walk_nrm
        try w_num
        first
        | (co_applyP QuitsD.value _ rfl (by rfl) (by first | decide | simp [base] | simp [baseD]) (fun _ => run_eq_of ?run) (fun _ => by simp [go_sem, *]); case run => intro K hK; go_simp; exact hK)
        | co_applyP QuitsD.unwanted rfl (by rfl)
        try walk_nrm
        try w_num
        co_applyP QuitsD.value _ rfl (by rfl) (by first | decide | simp [base] | simp [baseD]) (fun _ => run_eq_of ?run) (fun _ => by simp [go_sem, *])
        case run => intro K hK; go_simp; exact hK
        try walk_nrm
        try w_num
        co_applyP QuitsD.value _ rfl (by rfl) (by first | decide | simp [base] | simp [baseD]) (fun _ => run_eq_of ?run) (fun _ => by simp [go_sem, *])
        case run => intro K hK; go_simp; exact hK
        try walk_nrm
        try w_num
        first
        | (co_applyP QuitsD.value _ rfl (by rfl) (by first | decide | simp [base] | simp [baseD]) (fun _ => run_eq_of ?run) (fun _ => by simp [go_sem, *]); case run => intro K hK; go_simp; exact hK)
        | co_applyP QuitsD.unwanted rfl (by rfl)
        try walk_nrm
        try w_num
        first
        | (co_applyP QuitsD.value _ rfl (by rfl) (by first | decide | simp [base] | simp [baseD]) (fun _ => run_eq_of ?run) (fun _ => by simp [go_sem, *]); case run => intro K hK; go_simp; exact hK)
        | co_applyP QuitsD.unwanted rfl (by rfl)
        try walk_nrm
        try w_num
        first
        | (co_applyP QuitsD.value _ rfl (by rfl) (by first | decide | simp [base] | simp [baseD]) (fun _ => run_eq_of ?run) (fun _ => by simp [go_sem, *]); case run => intro K hK; go_simp; exact hK)
        | co_applyP QuitsD.unwanted rfl (by rfl)
        try walk_nrm
        try w_num
        first
        | (co_applyP QuitsD.value _ rfl (by rfl) (by first | decide | simp [base] | simp [baseD]) (fun _ => run_eq_of ?run) (fun _ => by simp [go_sem, *]); case run => intro K hK; go_simp; exact hK)
        | co_applyP QuitsD.unwanted rfl (by rfl)
        try walk_nrm
        try w_num
        co_applyP QuitsD.value _ rfl (by rfl) (by first | decide | simp [base] | simp [baseD]) (fun _ => run_eq_of ?run) (fun _ => by simp [go_sem, *])
        case run => intro K hK; go_simp; exact hK
        try walk_nrm
        try w_num
        co_apply QuitsD.ctl rfl (fun _ => stepG_region_end)
        co_apply QuitsD.ctl rfl (fun _ => stepG_cond (t := false) rfl)
        try simp only [Bool.false_eq_true, ↓reduceIte]
        co_apply QuitsD.ctl rfl (fun _ => stepG_skip)
        co_apply QuitsD.ctl rfl (fun _ => stepG_seq)
        co_apply QuitsD.ctl rfl (fun _ => stepG_seq)
        co_apply QuitsD.ctl rfl (fun _ => stepG_region)
        try simp only [List.size_toArray, List.length_cons, List.length_nil, Nat.reduceAdd, Nat.zero_add, List.range, List.range.loop]
        co_applyP QuitsD.value _ rfl (by rfl) (by first | decide | simp [base] | simp [baseD]) (fun _ => run_eq_of ?run) (fun _ => by simp [go_sem, *])
        case run => intro K hK; go_simp; exact hK
        try walk_nrm
        try w_num
        co_applyP QuitsD.value _ rfl (by rfl) (by first | decide | simp [base] | simp [baseD]) (fun _ => run_eq_of ?run) (fun _ => by simp [go_sem, *])
        case run => intro K hK; go_simp; exact hK
        try walk_nrm
        try w_num
        co_applyP QuitsD.value _ rfl (by rfl) (by first | decide | simp [base] | simp [baseD]) (fun _ => run_eq_of ?run) (fun _ => by simp [go_sem, *])
        case run => intro K hK; go_simp; exact hK
        try walk_nrm
        try w_num
        first
        | (co_applyP QuitsD.value _ rfl (by rfl) (by first | decide | simp [base] | simp [baseD]) (fun _ => run_eq_of ?run) (fun _ => by simp [go_sem, *]); case run => intro K hK; go_simp; exact hK)
        | co_applyP QuitsD.unwanted rfl (by rfl)
        try walk_nrm
        try w_num
        first
        | (co_applyP QuitsD.value _ rfl (by rfl) (by first | decide | simp [base] | simp [baseD]) (fun _ => run_eq_of ?run) (fun _ => by simp [go_sem, *]); case run => intro K hK; go_simp; exact hK)
        | co_applyP QuitsD.unwanted rfl (by rfl)
        try walk_nrm
        try w_num
        co_applyP QuitsD.value _ rfl (by rfl) (by first | decide | simp [base] | simp [baseD]) (fun _ => run_eq_of ?run) (fun _ => by simp [go_sem, *])
        case run => intro K hK; go_simp; exact hK
        try walk_nrm
        try w_num
        co_apply QuitsD.ctl rfl (fun _ => stepG_region_end)
        co_apply QuitsD.ctl rfl (fun _ => stepG_cond (t := true) rfl)
        try simp only [↓reduceIte]
        co_apply QuitsD.ctl rfl (fun _ => stepG_ret')
        co_applyP QuitsD.unwind_mark .enable rfl (by simp) rfl Try.func64 (by kernel_rfl) (by kernel_rfl) (by kernel_rfl) (by kernel_rfl)
        rw [Go.ConcR.Gen.deafBehind_enable1]
        co_applyP QuitsD.leave0 rfl rfl Try.func54 rfl
        try walk_nrm
        co_apply QuitsD.ctl rfl (fun _ => stepG_region_end)
        co_apply QuitsD.ctl rfl (fun _ => stepG_end)
        co_applyP QuitsD.leaveD rfl rfl Try.func56 rfl rfl
        exact quitsTail _ _
      · skip
        have q8 : ((wt : Int) != 0) = false := by simp <;> omega
        have q9 : ((wt : Int) == 0) = true := by simp <;> omega
        have q7 : decide (0 < (v : Int)) = false := by simp <;> omega
        have q7b : decide ((v : Int) > 0) = false := by simp <;> omega
        co_applyP QuitsD.value _ rfl (by rfl) (by first | decide | simp [base] | simp [baseD]) (fun _ => run_eq_of ?run) (fun _ => by simp [go_sem, *])
        case run => intro K hK; go_simp; exact hK
        try walk_nrm
        try w_num
        co_apply QuitsD.ctl rfl (fun _ => stepG_region_end)
        co_apply QuitsD.ctl rfl (fun _ => stepG_ret')
        first | co_applyP QuitsD.leave1 rfl rfl Try.func69 rfl | co_applyP QuitsD.leave0 rfl rfl Try.func69 rfl
        try walk_nrm
        co_applyP QuitsD.value _ rfl (by rfl) (by first | decide | simp [base] | simp [baseD]) (fun _ => run_eq_of ?run) (fun _ => by simp [go_sem, *])
        case run => intro K hK; go_simp; exact hK
        try walk_nrm
        try w_num
        co_apply QuitsD.ctl rfl (fun _ => stepG_region_end)
        co_apply QuitsD.ctl rfl (fun _ => stepG_seq)
        co_apply QuitsD.ctl rfl (fun _ => stepG_seq)
        co_apply QuitsD.ctl rfl (fun _ => stepG_region)
        try simp only [List.size_toArray, List.length_cons, List.length_nil, Nat.reduceAdd, Nat.zero_add, List.range, List.range.loop]
        co_applyP QuitsD.value _ rfl (by rfl) (by first | decide | simp [base] | simp [baseD]) (fun _ => run_eq_of ?run) (fun _ => by simp [go_sem, *])
        case run => intro K hK; go_simp; exact hK
        try walk_nrm
        try w_num
        co_applyP QuitsD.value _ rfl (by rfl) (by first | decide | simp [base] | simp [baseD]) (fun _ => run_eq_of ?run) (fun _ => by simp [go_sem, *])
        case run => intro K hK; go_simp; exact hK
        try walk_nrm
        try w_num
        co_applyP QuitsD.value _ rfl (by rfl) (by first | decide | simp [base] | simp [baseD]) (fun _ => run_eq_of ?run) (fun _ => by simp [go_sem, *])
        case run => intro K hK; go_simp; exact hK
        try walk_nrm
        try w_num
        co_applyP QuitsD.value _ rfl (by rfl) (by first | decide | simp [base] | simp [baseD]) (fun _ => run_eq_of ?run) (fun _ => by simp [go_sem, *])
        case run => intro K hK; go_simp; exact hK
        try walk_nrm
        try w_num
        first
        | (co_applyP QuitsD.value _ rfl (by rfl) (by first | decide | simp [base] | simp [baseD]) (fun _ => run_eq_of ?run) (fun _ => by simp [go_sem, *]); case run => intro K hK; go_simp; exact hK)
        | co_applyP QuitsD.unwanted rfl (by rfl)
        try walk_nrm
        try w_num
        first
        | (co_applyP QuitsD.value _ rfl (by rfl) (by first | decide | simp [base] | simp [baseD]) (fun _ => run_eq_of ?run) (fun _ => by simp [go_sem, *]); case run => intro K hK; go_simp; exact hK)
        | co_applyP QuitsD.unwanted rfl (by rfl)
        try walk_nrm
        try w_num
        co_applyP QuitsD.value _ rfl (by rfl) (by first | decide | simp [base] | simp [baseD]) (fun _ => run_eq_of ?run) (fun _ => by simp [go_sem, *])
        case run => intro K hK; go_simp; exact hK
        try walk_nrm
        try w_num
        co_apply QuitsD.ctl rfl (fun _ => stepG_region_end)
        co_apply QuitsD.ctl rfl (fun _ => stepG_cond (t := false) rfl)
        try simp only [Bool.false_eq_true, ↓reduceIte]
        co_apply QuitsD.ctl rfl (fun _ => stepG_skip)
        co_apply QuitsD.ctl rfl (fun _ => stepG_seq)
        co_apply QuitsD.ctl rfl (fun _ => stepG_region)
        try simp only [List.size_toArray, List.length_cons, List.length_nil, Nat.reduceAdd, Nat.zero_add, List.range, List.range.loop]
        co_applyP QuitsD.value _ rfl (by rfl) (by first | decide | simp [base] | simp [baseD]) (fun _ => run_eq_of ?run) (fun _ => by simp [go_sem, *])
        case run => intro K hK; go_simp; exact hK
        try walk_nrm
        try w_num
        co_applyP QuitsD.value _ rfl (by rfl) (by first | decide | simp [base] | simp [baseD]) (fun _ => run_eq_of ?run) (fun _ => by simp [go_sem, *])
        case run => intro K hK; go_simp; exact hK
        try walk_nrm
        try w_num
        co_applyP QuitsD.value _ rfl (by rfl) (by first | decide | simp [base] | simp [baseD]) (fun _ => run_eq_of ?run) (fun _ => by simp [go_sem, *])
        case run => intro K hK; go_simp; exact hK
        try walk_nrm
        try w_num
        co_applyP QuitsD.value _ rfl (by rfl) (by first | decide | simp [base] | simp [baseD]) (fun _ => run_eq_of ?run) (fun _ => by simp [go_sem, *])
        case run => intro K hK; go_simp; exact hK
        try walk_nrm
        try w_num
        co_apply QuitsD.ctl rfl (fun _ => stepG_region_end)
        co_apply QuitsD.ctl rfl (fun _ => stepG_seq)
        co_apply QuitsD.ctl rfl (fun _ => stepG_region)
        try simp only [List.size_toArray, List.length_cons, List.length_nil, Nat.reduceAdd, Nat.zero_add, List.range, List.range.loop]
        co_applyP QuitsD.value _ rfl (by rfl) (by first | decide | simp [base] | simp [baseD]) (fun _ => run_eq_of ?run) (fun _ => by simp [go_sem, *])
        case run => intro K hK; go_simp; exact hK
        try walk_nrm
        try w_num
        co_applyP QuitsD.value _ rfl (by rfl) (by first | decide | simp [base] | simp [baseD]) (fun _ => run_eq_of ?run) (fun _ => by simp [go_sem, *])
        case run => intro K hK; go_simp; exact hK
        try walk_nrm
        try w_num
        co_applyP QuitsD.value _ rfl (by rfl) (by first | decide | simp [base] | simp [baseD]) (fun _ => run_eq_of ?run) (fun _ => by simp [go_sem, *])
        case run => intro K hK; go_simp; exact hK
        try walk_nrm
        try w_num
        co_applyP QuitsD.value _ rfl (by rfl) (by first | decide | simp [base] | simp [baseD]) (fun _ => run_eq_of ?run) (fun _ => by simp [go_sem, *])
        case run => intro K hK; go_simp; exact hK
        try walk_nrm
        try w_num
        co_apply QuitsD.ctl rfl (fun _ => stepG_region_end)
        co_apply QuitsD.ctl rfl (fun _ => stepG_seq)
        co_apply QuitsD.ctl rfl (fun _ => stepG_seq)
        co_apply QuitsD.ctl rfl (fun _ => stepG_region)
        try simp only [List.size_toArray, List.length_cons, List.length_nil, Nat.reduceAdd, Nat.zero_add, List.range, List.range.loop]
        co_applyP QuitsD.value _ rfl (by rfl) (by first | decide | simp [base] | simp [baseD]) (fun _ => run_eq_of ?run) (fun _ => by simp [go_sem, *])
        case run => intro K hK; go_simp; exact hK
        try walk_nrm
        try w_num
        first
        | (co_applyP QuitsD.value _ rfl (by rfl) (by first | decide | simp [base] | simp [baseD]) (fun _ => run_eq_of ?run) (fun _ => by simp [go_sem, *]); case run => intro K hK; go_simp; exact hK)
        | co_applyP QuitsD.unwanted rfl (by rfl)
        try walk_nrm
        try w_num
        first
        | (co_applyP QuitsD.value _ rfl (by rfl) (by first | decide | simp [base] | simp [baseD]) (fun _ => run_eq_of ?run) (fun _ => by simp [go_sem, *]); case run => intro K hK; go_simp; exact hK)
        | co_applyP QuitsD.unwanted rfl (by rfl)
        try walk_nrm
        try w_num
        co_applyP QuitsD.value _ rfl (by rfl) (by first | decide | simp [base] | simp [baseD]) (fun _ => run_eq_of ?run) (fun _ => by simp [go_sem, *])
        case run => intro K hK; go_simp; exact hK
        try walk_nrm
        try w_num
        co_applyP QuitsD.value _ rfl (by rfl) (by first | decide | simp [base] | simp [baseD]) (fun _ => run_eq_of ?run) (fun _ => by simp [go_sem, *])
        case run => intro K hK; go_simp; exact hK
        try walk_nrm
        try w_num
        first
        | (co_applyP QuitsD.value _ rfl (by rfl) (by first | decide | simp [base] | simp [baseD]) (fun _ => run_eq_of ?run) (fun _ => by simp [go_sem, *]); case run => intro K hK; go_simp; exact hK)
        | co_applyP QuitsD.unwanted rfl (by rfl)
        try walk_nrm
        try w_num
        first
        | (co_applyP QuitsD.value _ rfl (by rfl) (by first | decide | simp [base] | simp [baseD]) (fun _ => run_eq_of ?run) (fun _ => by simp [go_sem, *]); case run => intro K hK; go_simp; exact hK)
        | co_applyP QuitsD.unwanted rfl (by rfl)
        try walk_nrm
        try w_num
        first
        | (co_applyP QuitsD.value _ rfl (by rfl) (by first | decide | simp [base] | simp [baseD]) (fun _ => run_eq_of ?run) (fun _ => by simp [go_sem, *]); case run => intro K hK; go_simp; exact hK)
        | co_applyP QuitsD.unwanted rfl (by rfl)
        try walk_nrm
        try w_num
        first
        | (co_applyP QuitsD.value _ rfl (by rfl) (by first | decide | simp [base] | simp [baseD]) (fun _ => run_eq_of ?run) (fun _ => by simp [go_sem, *]); case run => intro K hK; go_simp; exact hK)
        | co_applyP QuitsD.unwanted rfl (by rfl)
        try walk_nrm
        try w_num
        co_applyP QuitsD.value _ rfl (by rfl) (by first | decide | simp [base] | simp [baseD]) (fun _ => run_eq_of ?run) (fun _ => by simp [go_sem, *])
        case run => intro K hK; go_simp; exact hK
        try walk_nrm
        try w_num
        co_apply QuitsD.ctl rfl (fun _ => stepG_region_end)
        co_apply QuitsD.ctl rfl (fun _ => stepG_cond (t := false) rfl)
        try simp only [Bool.false_eq_true, ↓reduceIte]
        co_apply QuitsD.ctl rfl (fun _ => stepG_skip)
        co_apply QuitsD.ctl rfl (fun _ => stepG_seq)
        co_apply QuitsD.ctl rfl (fun _ => stepG_seq)
        co_apply QuitsD.ctl rfl (fun _ => stepG_region)
        try simp only [List.size_toArray, List.length_cons, List.length_nil, Nat.reduceAdd, Nat.zero_add, List.range, List.range.loop]
        co_applyP QuitsD.value _ rfl (by rfl) (by first | decide | simp [base] | simp [baseD]) (fun _ => run_eq_of ?run) (fun _ => by simp [go_sem, *])
        case run => intro K hK; go_simp; exact hK
        try walk_nrm
        try w_num
        co_applyP QuitsD.value _ rfl (by rfl) (by first | decide | simp [base] | simp [baseD]) (fun _ => run_eq_of ?run) (fun _ => by simp [go_sem, *])
        case run => intro K hK; go_simp; exact hK
        try walk_nrm
        try w_num
        co_apply QuitsD.ctl rfl (fun _ => stepG_region_end)
        co_apply QuitsD.ctl rfl (fun _ => stepG_cond (t := false) rfl)
        try simp only [Bool.false_eq_true, ↓reduceIte]
        co_apply QuitsD.ctl rfl (fun _ => stepG_skip)
        co_apply QuitsD.ctl rfl (fun _ => stepG_seq)
        co_apply QuitsD.ctl rfl (fun _ => stepG_seq)
        co_apply QuitsD.ctl rfl (fun _ => stepG_region)
        try simp only [List.size_toArray, List.length_cons, List.length_nil, Nat.reduceAdd, Nat.zero_add, List.range, List.range.loop]
        co_applyP QuitsD.value _ rfl (by rfl) (by first | decide | simp [base] | simp [baseD]) (fun _ => run_eq_of ?run) (fun _ => by simp [go_sem, *])
        case run => intro K hK; go_simp; exact hK
        try walk_nrm
        try w_num
        co_applyP QuitsD.value _ rfl (by rfl) (by first | decide | simp [base] | simp [baseD]) (fun _ => run_eq_of ?run) (fun _ => by simp [go_sem, *])
        case run => intro K hK; go_simp; exact hK
        try walk_nrm
        try w_num
        co_applyP QuitsD.value _ rfl (by rfl) (by first | decide | simp [base] | simp [baseD]) (fun _ => run_eq_of ?run) (fun _ => by simp [go_sem, *])
        case run => intro K hK; go_simp; exact hK
        try walk_nrm
        try w_num
        first
        | (co_applyP QuitsD.value _ rfl (by rfl) (by first | decide | simp [base] | simp [baseD]) (fun _ => run_eq_of ?run) (fun _ => by simp [go_sem, *]); case run => intro K hK; go_simp; exact hK)
        | co_applyP QuitsD.unwanted rfl (by rfl)
        try walk_nrm
        try w_num
        first
        | (co_applyP QuitsD.value _ rfl (by rfl) (by first | decide | simp [base] | simp [baseD]) (fun _ => run_eq_of ?run) (fun _ => by simp [go_sem, *]); case run => intro K hK; go_simp; exact hK)
        | co_applyP QuitsD.unwanted rfl (by rfl)
        try walk_nrm
        try w_num
        co_applyP QuitsD.value _ rfl (by rfl) (by first | decide | simp [base] | simp [baseD]) (fun _ => run_eq_of ?run) (fun _ => by simp [go_sem, *])
        case run => intro K hK; go_simp; exact hK
        try walk_nrm
        try w_num
        co_applyP QuitsD.value _ rfl (by rfl) (by first | decide | simp [base] | simp [baseD]) (fun _ => run_eq_of ?run) (fun _ => by simp [go_sem, *])
        case run => intro K hK; go_simp; exact hK
        try walk_nrm
        try w_num
        first
        | (co_applyP QuitsD.value _ rfl (by rfl) (by first | decide | simp [base] | simp [baseD]) (fun _ => run_eq_of ?run) (fun _ => by simp [go_sem, *]); case run => intro K hK; go_simp; exact hK)
        | co_applyP QuitsD.unwanted rfl (by rfl)
        try walk_nrm
        try w_num
        first
        | (co_applyP QuitsD.value _ rfl (by rfl) (by first | decide | simp [base] | simp [baseD]) (fun _ => run_eq_of ?run) (fun _ => by simp [go_sem, *]); case run => intro K hK; go_simp; exact hK)
        | co_applyP QuitsD.unwanted rfl (by rfl)
        try walk_nrm
        try w_num
        first
        | (co_applyP QuitsD.value _ rfl (by rfl) (by first | decide | simp [base] | simp [baseD]) (fun _ => run_eq_of ?run) (fun _ => by simp [go_sem, *]); case run => intro K hK; go_simp; exact hK)
        | co_applyP QuitsD.unwanted rfl (by rfl)
        try walk_nrm
        try w_num
        first
        | (co_applyP QuitsD.value _ rfl (by rfl) (by first | decide | simp [base] | simp [baseD]) (fun _ => run_eq_of ?run) (fun _ => by simp [go_sem, *]); case run => intro K hK; go_simp; exact hK)
        | co_applyP QuitsD.unwanted rfl (by rfl)
        try walk_nrm
        try w_num
        co_applyP QuitsD.value _ rfl (by rfl) (by first | decide | simp [base] | simp [baseD]) (fun _ => run_eq_of ?run) (fun _ => by simp [go_sem, *])
        case run => intro K hK; go_simp; exact hK
        try walk_nrm
        try w_num
        co_apply QuitsD.ctl rfl (fun _ => stepG_region_end)
        co_apply QuitsD.ctl rfl (fun _ => stepG_cond (t := false) rfl)
        try simp only [Bool.false_eq_true, ↓reduceIte]
        co_apply QuitsD.ctl rfl (fun _ => stepG_skip)
        co_apply QuitsD.ctl rfl (fun _ => stepG_seq)
        co_apply QuitsD.ctl rfl (fun _ => stepG_seq)
        co_apply QuitsD.ctl rfl (fun _ => stepG_region)
        try simp only [List.size_toArray, List.length_cons, List.length_nil, Nat.reduceAdd, Nat.zero_add, List.range, List.range.loop]
        co_applyP QuitsD.value _ rfl (by rfl) (by first | decide | simp [base] | simp [baseD]) (fun _ => run_eq_of ?run) (fun _ => by simp [go_sem, *])
        case run => intro K hK; go_simp; exact hK
        try walk_nrm
        try w_num
        co_applyP QuitsD.value _ rfl (by rfl) (by first | decide | simp [base] | simp [baseD]) (fun _ => run_eq_of ?run) (fun _ => by simp [go_sem, *])
        case run => intro K hK; go_simp; exact hK
        try walk_nrm
        try w_num
        co_applyP QuitsD.value _ rfl (by rfl) (by first | decide | simp [base] | simp [baseD]) (fun _ => run_eq_of ?run) (fun _ => by simp [go_sem, *])
        case run => intro K hK; go_simp; exact hK
        try walk_nrm
        try w_num
        first
        | (co_applyP QuitsD.value _ rfl (by rfl) (by first | decide | simp [base] | simp [baseD]) (fun _ => run_eq_of ?run) (fun _ => by simp [go_sem, *]); case run => intro K hK; go_simp; exact hK)
        | co_applyP QuitsD.unwanted rfl (by rfl)
        try walk_nrm
        try w_num
        first
        | (co_applyP QuitsD.value _ rfl (by rfl) (by first | decide | simp [base] | simp [baseD]) (fun _ => run_eq_of ?run) (fun _ => by simp [go_sem, *]); case run => intro K hK; go_simp; exact hK)
        | co_applyP QuitsD.unwanted rfl (by rfl)
        try walk_nrm
        try w_num
        co_applyP QuitsD.value _ rfl (by rfl) (by first | decide | simp [base] | simp [baseD]) (fun _ => run_eq_of ?run) (fun _ => by simp [go_sem, *])
        case run => intro K hK; go_simp; exact hK
        try walk_nrm
        try w_num
        co_apply QuitsD.ctl rfl (fun _ => stepG_region_end)
        co_apply QuitsD.ctl rfl (fun _ => stepG_cond (t := true) rfl)
        try simp only [↓reduceIte]
        co_apply QuitsD.ctl rfl (fun _ => stepG_ret')
        co_applyP QuitsD.unwind_mark .enable rfl (by simp) rfl Try.func64 (by kernel_rfl) (by kernel_rfl) (by kernel_rfl) (by kernel_rfl)
        rw [Go.ConcR.Gen.deafBehind_enable1]
        co_applyP QuitsD.leave0 rfl rfl Try.func54 rfl
        try walk_nrm
        co_apply QuitsD.ctl rfl (fun _ => stepG_region_end)
        co_apply QuitsD.ctl rfl (fun _ => stepG_end)
        co_applyP QuitsD.leaveD rfl rfl Try.func56 rfl rfl
        exact quitsTail _ _
  · skip
    obtain rfl : v = 0 := by omega
    obtain rfl : wt = 1 := by omega
    co_apply Or.inl
    co_apply Exists.intro
    co_apply Exists.intro
    co_apply Exists.intro
    refine ⟨⟨y.own, y.rem - 1, y.deaf, .work c .last⟩, K₂, ?_⟩
    refine ⟨?_, stepG_add_atomic rfl (by rfl) (by first | decide | simp [base] | simp [baseD]) rfl Try.func83 (by kernel_rfl) (by kernel_rfl) (by kernel_rfl) .u64 (by kernel_rfl) rfl rfl hc.1 (hc.2.2 0), fun wk => ?_, by omega, ?_⟩
    · rfl
    · rw [Ids.add_neg _ _ hv hwt]; exact .last hr hdf hgs hrem hK2 he
    rw [Ids.add_neg _ _ hv hwt]
    have H2 := H₁.as' (y' := ⟨y.own, y.rem - 1, y.deaf, .work c .last⟩) rfl (H₁.st.last hr hgs hrem hK2)
    have hr2 : (⟨y.own, y.rem - 1, y.deaf, .work c .last⟩ : Gh Role).role = .work c .last := rfl
    have hdf2 : (⟨y.own, y.rem - 1, y.deaf, .work c .last⟩ : Gh Role).deaf = 1 := hdf
    clear hr hdf hrem H H₁
    simp only [Int.zero_mul, Int.zero_add, Int.cast_ofNat_Int] at H2 ⊢
    generalize (⟨y.own, y.rem - 1, y.deaf, .work c .last⟩ : Gh Role) = y at H2 hr2 hdf2 ⊢
    have H := H2
    clear H2
    have hr := hr2
    clear hr2
    have hdf := hdf2
    clear hdf2
    try walk_nrm
    co_applyP J.pu rfl (by rfl) (by first | decide | simp [base] | simp [baseD]) (fun _ => run_eq_of ?run) (fun _ => by simp [go_sem, *])
    case run => intro K hK; go_simp; exact hK
    try walk_nrm
    try w_num
    co_apply J.ctl rfl rfl (fun _ => stepG_region_end)
    co_apply J.ctl rfl rfl (fun _ => stepG_ret')
    first | co_applyP J.leave1 rfl rfl Try.func69 rfl | co_applyP J.leave0 rfl rfl Try.func69 rfl
    try walk_nrm
    co_applyP J.pu rfl (by rfl) (by first | decide | simp [base] | simp [baseD]) (fun _ => run_eq_of ?run) (fun _ => by simp [go_sem, *])
    case run => intro K hK; go_simp; exact hK
    try walk_nrm
    try w_num
    co_apply J.ctl rfl rfl (fun _ => stepG_region_end)
    co_apply J.ctl rfl rfl (fun _ => stepG_seq)
    co_apply J.ctl rfl rfl (fun _ => stepG_seq)
    co_apply J.ctl rfl rfl (fun _ => stepG_region)
    try simp only [List.size_toArray, List.length_cons, List.length_nil, Nat.reduceAdd, Nat.zero_add, List.range, List.range.loop]
    co_applyP J.pu rfl (by rfl) (by first | decide | simp [base] | simp [baseD]) (fun _ => run_eq_of ?run) (fun _ => by simp [go_sem, *])
    case run => intro K hK; go_simp; exact hK
    try walk_nrm
    try w_num
    co_applyP J.pu rfl (by rfl) (by first | decide | simp [base] | simp [baseD]) (fun _ => run_eq_of ?run) (fun _ => by simp [go_sem, *])
    case run => intro K hK; go_simp; exact hK
    try walk_nrm
    try w_num
    co_applyP J.pu rfl (by rfl) (by first | decide | simp [base] | simp [baseD]) (fun _ => run_eq_of ?run) (fun _ => by simp [go_sem, *])
    case run => intro K hK; go_simp; exact hK
    try walk_nrm
    try w_num
    co_applyP J.pu rfl (by rfl) (by first | decide | simp [base] | simp [baseD]) (fun _ => run_eq_of ?run) (fun _ => by simp [go_sem, *])
    case run => intro K hK; go_simp; exact hK
    try walk_nrm
    try w_num
    first
    | (co_applyP J.pu rfl (by rfl) (by first | decide | simp [base] | simp [baseD]) (fun _ => run_eq_of ?run) (fun _ => by simp [go_sem, *]); case run => intro K hK; go_simp; exact hK)
    | co_applyP J.unw rfl (by rfl)
    try walk_nrm
    try w_num
    first
    | (co_applyP J.pu rfl (by rfl) (by first | decide | simp [base] | simp [baseD]) (fun _ => run_eq_of ?run) (fun _ => by simp [go_sem, *]); case run => intro K hK; go_simp; exact hK)
    | co_applyP J.unw rfl (by rfl)
    try walk_nrm
    try w_num
    co_applyP J.pu rfl (by rfl) (by first | decide | simp [base] | simp [baseD]) (fun _ => run_eq_of ?run) (fun _ => by simp [go_sem, *])
    case run => intro K hK; go_simp; exact hK
    try walk_nrm
    try w_num
    co_apply J.ctl rfl rfl (fun _ => stepG_region_end)
    co_apply J.ctl rfl rfl (fun _ => stepG_cond (t := false) rfl)
    try simp only [Bool.false_eq_true, ↓reduceIte]
    co_apply J.ctl rfl rfl (fun _ => stepG_skip)
    co_apply J.ctl rfl rfl (fun _ => stepG_seq)
    co_apply J.ctl rfl rfl (fun _ => stepG_region)
    try simp only [List.size_toArray, List.length_cons, List.length_nil, Nat.reduceAdd, Nat.zero_add, List.range, List.range.loop]
    co_applyP J.pu rfl (by rfl) (by first | decide | simp [base] | simp [baseD]) (fun _ => run_eq_of ?run) (fun _ => by simp [go_sem, *])
    case run => intro K hK; go_simp; exact hK
    try walk_nrm
    try w_num
    co_applyP J.pu rfl (by rfl) (by first | decide | simp [base] | simp [baseD]) (fun _ => run_eq_of ?run) (fun _ => by simp [go_sem, *])
    case run => intro K hK; go_simp; exact hK
    try walk_nrm
    try w_num
    co_applyP J.pu rfl (by rfl) (by first | decide | simp [base] | simp [baseD]) (fun _ => run_eq_of ?run) (fun _ => by simp [go_sem, *])
    case run => intro K hK; go_simp; exact hK
    try walk_nrm
    try w_num
    co_applyP J.pu rfl (by rfl) (by first | decide | simp [base] | simp [baseD]) (fun _ => run_eq_of ?run) (fun _ => by simp [go_sem, *])
    case run => intro K hK; go_simp; exact hK
    try walk_nrm
    try w_num
    co_apply J.ctl rfl rfl (fun _ => stepG_region_end)
    co_apply J.ctl rfl rfl (fun _ => stepG_seq)
    co_apply J.ctl rfl rfl (fun _ => stepG_region)
    try simp only [List.size_toArray, List.length_cons, List.length_nil, Nat.reduceAdd, Nat.zero_add, List.range, List.range.loop]
    co_applyP J.pu rfl (by rfl) (by first | decide | simp [base] | simp [baseD]) (fun _ => run_eq_of ?run) (fun _ => by simp [go_sem, *])
    case run => intro K hK; go_simp; exact hK
    try walk_nrm
    try w_num
    co_applyP J.pu rfl (by rfl) (by first | decide | simp [base] | simp [baseD]) (fun _ => run_eq_of ?run) (fun _ => by simp [go_sem, *])
    case run => intro K hK; go_simp; exact hK
    try walk_nrm
    try w_num
    co_applyP J.pu rfl (by rfl) (by first | decide | simp [base] | simp [baseD]) (fun _ => run_eq_of ?run) (fun _ => by simp [go_sem, *])
    case run => intro K hK; go_simp; exact hK
    try walk_nrm
    try w_num
    co_applyP J.pu rfl (by rfl) (by first | decide | simp [base] | simp [baseD]) (fun _ => run_eq_of ?run) (fun _ => by simp [go_sem, *])
    case run => intro K hK; go_simp; exact hK
    try walk_nrm
    try w_num
    co_apply J.ctl rfl rfl (fun _ => stepG_region_end)
    co_apply J.ctl rfl rfl (fun _ => stepG_seq)
    co_apply J.ctl rfl rfl (fun _ => stepG_seq)
    co_apply J.ctl rfl rfl (fun _ => stepG_region)
    try simp only [List.size_toArray, List.length_cons, List.length_nil, Nat.reduceAdd, Nat.zero_add, List.range, List.range.loop]
    co_applyP J.pu rfl (by rfl) (by first | decide | simp [base] | simp [baseD]) (fun _ => run_eq_of ?run) (fun _ => by simp [go_sem, *])
    case run => intro K hK; go_simp; exact hK
    try walk_nrm
    try w_num
    first
    | (co_applyP J.pu rfl (by rfl) (by first | decide | simp [base] | simp [baseD]) (fun _ => run_eq_of ?run) (fun _ => by simp [go_sem, *]); case run => intro K hK; go_simp; exact hK)
    | co_applyP J.unw rfl (by rfl)
    try walk_nrm
    try w_num
    first
    | (co_applyP J.pu rfl (by rfl) (by first | decide | simp [base] | simp [baseD]) (fun _ => run_eq_of ?run) (fun _ => by simp [go_sem, *]); case run => intro K hK; go_simp; exact hK)
    | co_applyP J.unw rfl (by rfl)
    try walk_nrm
    try w_num
    co_applyP J.pu rfl (by rfl) (by first | decide | simp [base] | simp [baseD]) (fun _ => run_eq_of ?run) (fun _ => by simp [go_sem, *])
    case run => intro K hK; go_simp; exact hK
    try walk_nrm
    try w_num
    co_applyP J.pu rfl (by rfl) (by first | decide | simp [base] | simp [baseD]) (fun _ => run_eq_of ?run) (fun _ => by simp [go_sem, *])
    case run => intro K hK; go_simp; exact hK
    try walk_nrm
    try w_num
    first
    | (co_applyP J.pu rfl (by rfl) (by first | decide | simp [base] | simp [baseD]) (fun _ => run_eq_of ?run) (fun _ => by simp [go_sem, *]); case run => intro K hK; go_simp; exact hK)
    | co_applyP J.unw rfl (by rfl)
    try walk_nrm
    try w_num
    first
    | (co_applyP J.pu rfl (by rfl) (by first | decide | simp [base] | simp [baseD]) (fun _ => run_eq_of ?run) (fun _ => by simp [go_sem, *]); case run => intro K hK; go_simp; exact hK)
    | co_applyP J.unw rfl (by rfl)
    try walk_nrm
    try w_num
    first
    | (co_applyP J.pu rfl (by rfl) (by first | decide | simp [base] | simp [baseD]) (fun _ => run_eq_of ?run) (fun _ => by simp [go_sem, *]); case run => intro K hK; go_simp; exact hK)
    | co_applyP J.unw rfl (by rfl)
    try walk_nrm
    try w_num
    first
    | (co_applyP J.pu rfl (by rfl) (by first | decide | simp [base] | simp [baseD]) (fun _ => run_eq_of ?run) (fun _ => by simp [go_sem, *]); case run => intro K hK; go_simp; exact hK)
    | co_applyP J.unw rfl (by rfl)
    try walk_nrm
    try w_num
    co_applyP J.pu rfl (by rfl) (by first | decide | simp [base] | simp [baseD]) (fun _ => run_eq_of ?run) (fun _ => by simp [go_sem, *])
    case run => intro K hK; go_simp; exact hK
    try walk_nrm
    try w_num
    co_apply J.ctl rfl rfl (fun _ => stepG_region_end)
    co_apply J.ctl rfl rfl (fun _ => stepG_cond (t := false) rfl)
    try simp only [Bool.false_eq_true, ↓reduceIte]
    co_apply J.ctl rfl rfl (fun _ => stepG_skip)
    co_apply J.ctl rfl rfl (fun _ => stepG_seq)
    co_apply J.ctl rfl rfl (fun _ => stepG_seq)
    co_apply J.ctl rfl rfl (fun _ => stepG_region)
    try simp only [List.size_toArray, List.length_cons, List.length_nil, Nat.reduceAdd, Nat.zero_add, List.range, List.range.loop]
    co_applyP J.pu rfl (by rfl) (by first | decide | simp [base] | simp [baseD]) (fun _ => run_eq_of ?run) (fun _ => by simp [go_sem, *])
    case run => intro K hK; go_simp; exact hK
    try walk_nrm
    try w_num
    co_applyP J.pu rfl (by rfl) (by first | decide | simp [base] | simp [baseD]) (fun _ => run_eq_of ?run) (fun _ => by simp [go_sem, *])
    case run => intro K hK; go_simp; exact hK
    try walk_nrm
    try w_num
    co_apply J.ctl rfl rfl (fun _ => stepG_region_end)
    co_apply J.ctl rfl rfl (fun _ => stepG_cond (t := false) rfl)
    try simp only [Bool.false_eq_true, ↓reduceIte]
    co_apply J.ctl rfl rfl (fun _ => stepG_skip)
    co_apply J.ctl rfl rfl (fun _ => stepG_seq)
    co_apply J.ctl rfl rfl (fun _ => stepG_seq)
    co_apply J.ctl rfl rfl (fun _ => stepG_region)
    try simp only [List.size_toArray, List.length_cons, List.length_nil, Nat.reduceAdd, Nat.zero_add, List.range, List.range.loop]
    co_applyP J.pu rfl (by rfl) (by first | decide | simp [base] | simp [baseD]) (fun _ => run_eq_of ?run) (fun _ => by simp [go_sem, *])
    case run => intro K hK; go_simp; exact hK
    try walk_nrm
    try w_num
    co_applyP J.pu rfl (by rfl) (by first | decide | simp [base] | simp [baseD]) (fun _ => run_eq_of ?run) (fun _ => by simp [go_sem, *])
    case run => intro K hK; go_simp; exact hK
    try walk_nrm
    try w_num
    co_applyP J.pu rfl (by rfl) (by first | decide | simp [base] | simp [baseD]) (fun _ => run_eq_of ?run) (fun _ => by simp [go_sem, *])
    case run => intro K hK; go_simp; exact hK
    try walk_nrm
    try w_num
    first
    | (co_applyP J.pu rfl (by rfl) (by first | decide | simp [base] | simp [baseD]) (fun _ => run_eq_of ?run) (fun _ => by simp [go_sem, *]); case run => intro K hK; go_simp; exact hK)
    | co_applyP J.unw rfl (by rfl)
    try walk_nrm
    try w_num
    first
    | (co_applyP J.pu rfl (by rfl) (by first | decide | simp [base] | simp [baseD]) (fun _ => run_eq_of ?run) (fun _ => by simp [go_sem, *]); case run => intro K hK; go_simp; exact hK)
    | co_applyP J.unw rfl (by rfl)
    try walk_nrm
    try w_num
    co_applyP J.pu rfl (by rfl) (by first | decide | simp [base] | simp [baseD]) (fun _ => run_eq_of ?run) (fun _ => by simp [go_sem, *])
    case run => intro K hK; go_simp; exact hK
    try walk_nrm
    try w_num
    co_applyP J.pu rfl (by rfl) (by first | decide | simp [base] | simp [baseD]) (fun _ => run_eq_of ?run) (fun _ => by simp [go_sem, *])
    case run => intro K hK; go_simp; exact hK
    try walk_nrm
    try w_num
    first
    | (co_applyP J.pu rfl (by rfl) (by first | decide | simp [base] | simp [baseD]) (fun _ => run_eq_of ?run) (fun _ => by simp [go_sem, *]); case run => intro K hK; go_simp; exact hK)
    | co_applyP J.unw rfl (by rfl)
    try walk_nrm
    try w_num
    first
    | (co_applyP J.pu rfl (by rfl) (by first | decide | simp [base] | simp [baseD]) (fun _ => run_eq_of ?run) (fun _ => by simp [go_sem, *]); case run => intro K hK; go_simp; exact hK)
    | co_applyP J.unw rfl (by rfl)
    try walk_nrm
    try w_num
    first
    | (co_applyP J.pu rfl (by rfl) (by first | decide | simp [base] | simp [baseD]) (fun _ => run_eq_of ?run) (fun _ => by simp [go_sem, *]); case run => intro K hK; go_simp; exact hK)
    | co_applyP J.unw rfl (by rfl)
    try walk_nrm
    try w_num
    first
    | (co_applyP J.pu rfl (by rfl) (by first | decide | simp [base] | simp [baseD]) (fun _ => run_eq_of ?run) (fun _ => by simp [go_sem, *]); case run => intro K hK; go_simp; exact hK)
    | co_applyP J.unw rfl (by rfl)
    try walk_nrm
    try w_num
    co_applyP J.pu rfl (by rfl) (by first | decide | simp [base] | simp [baseD]) (fun _ => run_eq_of ?run) (fun _ => by simp [go_sem, *])
    case run => intro K hK; go_simp; exact hK
    try walk_nrm
    try w_num
    co_apply J.ctl rfl rfl (fun _ => stepG_region_end)
    co_apply J.ctl rfl rfl (fun _ => stepG_cond (t := false) rfl)
    try simp only [Bool.false_eq_true, ↓reduceIte]
    co_apply J.ctl rfl rfl (fun _ => stepG_skip)
    co_apply J.ctl rfl rfl (fun _ => stepG_seq)
    co_apply J.ctl rfl rfl (fun _ => stepG_seq)
    co_apply J.ctl rfl rfl (fun _ => stepG_region)
    try simp only [List.size_toArray, List.length_cons, List.length_nil, Nat.reduceAdd, Nat.zero_add, List.range, List.range.loop]
    co_applyP J.pu rfl (by rfl) (by first | decide | simp [base] | simp [baseD]) (fun _ => run_eq_of ?run) (fun _ => by simp [go_sem, *])
    case run => intro K hK; go_simp; exact hK
    try walk_nrm
    try w_num
    co_applyP J.pu rfl (by rfl) (by first | decide | simp [base] | simp [baseD]) (fun _ => run_eq_of ?run) (fun _ => by simp [go_sem, *])
    case run => intro K hK; go_simp; exact hK
    try walk_nrm
    try w_num
    co_applyP J.pu rfl (by rfl) (by first | decide | simp [base] | simp [baseD]) (fun _ => run_eq_of ?run) (fun _ => by simp [go_sem, *])
    case run => intro K hK; go_simp; exact hK
    try walk_nrm
    try w_num
    first
    | (co_applyP J.pu rfl (by rfl) (by first | decide | simp [base] | simp [baseD]) (fun _ => run_eq_of ?run) (fun _ => by simp [go_sem, *]); case run => intro K hK; go_simp; exact hK)
    | co_applyP J.unw rfl (by rfl)
    try walk_nrm
    try w_num
    first
    | (co_applyP J.pu rfl (by rfl) (by first | decide | simp [base] | simp [baseD]) (fun _ => run_eq_of ?run) (fun _ => by simp [go_sem, *]); case run => intro K hK; go_simp; exact hK)
    | co_applyP J.unw rfl (by rfl)
    try walk_nrm
    try w_num
    co_applyP J.pu rfl (by rfl) (by first | decide | simp [base] | simp [baseD]) (fun _ => run_eq_of ?run) (fun _ => by simp [go_sem, *])
    case run => intro K hK; go_simp; exact hK
    try walk_nrm
    try w_num
    co_apply J.ctl rfl rfl (fun _ => stepG_region_end)
    co_apply J.ctl rfl rfl (fun _ => stepG_cond (t := false) rfl)
    try simp only [Bool.false_eq_true, ↓reduceIte]
    co_apply J.ctl rfl rfl (fun _ => stepG_skip)
    co_apply J.ctl rfl rfl (fun _ => stepG_seq)
    co_apply J.ctl rfl rfl (fun _ => stepG_seq)
    co_apply J.ctl rfl rfl (fun _ => stepG_region)
    try simp only [List.size_toArray, List.length_cons, List.length_nil, Nat.reduceAdd, Nat.zero_add, List.range, List.range.loop]
    co_applyP J.pu rfl (by rfl) (by first | decide | simp [base] | simp [baseD]) (fun _ => run_eq_of ?run) (fun _ => by simp [go_sem, *])
    case run => intro K hK; go_simp; exact hK
    try walk_nrm
    try w_num
    co_applyP J.pu rfl (by rfl) (by first | decide | simp [base] | simp [baseD]) (fun _ => run_eq_of ?run) (fun _ => by simp [go_sem, *])
    case run => intro K hK; go_simp; exact hK
    try walk_nrm
    try w_num
    co_applyP J.pu rfl (by rfl) (by first | decide | simp [base] | simp [baseD]) (fun _ => run_eq_of ?run) (fun _ => by simp [go_sem, *])
    case run => intro K hK; go_simp; exact hK
    try walk_nrm
    try w_num
    co_applyP J.enter rfl (by rfl) (by first | decide | simp [base] | simp [baseD]) rfl Try.func43 (by kernel_rfl) (by rfl)
    simp only [show Try.f43.ntmps = 7 from rfl]
    try walk_nrm
    co_apply J.ctl rfl rfl (fun _ => stepG_seq)
    co_apply J.ctl rfl rfl (fun _ => stepG_region)
    try simp only [List.size_toArray, List.length_cons, List.length_nil, Nat.zero_add, List.range, List.range.loop]
    co_applyP J.pu rfl (by rfl) (by first | decide | simp [base] | simp [baseD]) (fun _ => run_eq_of ?run) (fun _ => by simp [go_sem, *])
    case run => intro K hK; go_simp; exact hK
    try walk_nrm
    try w_num
    co_apply J.ctl rfl rfl (fun _ => stepG_region_end)
    co_apply J.ctl rfl rfl (fun _ => stepG_seq)
    co_apply J.ctl rfl rfl (fun _ => stepG_region)
    try simp only [List.size_toArray, List.length_cons, List.length_nil, Nat.reduceAdd, Nat.zero_add, List.range, List.range.loop]
    co_applyP J.pu rfl (by rfl) (by first | decide | simp [base] | simp [baseD]) (fun _ => run_eq_of ?run) (fun _ => by simp [go_sem, *])
    case run => intro K hK; go_simp; exact hK
    try walk_nrm
    try w_num
    co_applyP J.pu rfl (by rfl) (by first | decide | simp [base] | simp [baseD]) (fun _ => run_eq_of ?run) (fun _ => by simp [go_sem, *])
    case run => intro K hK; go_simp; exact hK
    try walk_nrm
    try w_num
    co_applyP J.pu rfl (by rfl) (by first | decide | simp [base] | simp [baseD]) (fun _ => run_eq_of ?run) (fun _ => by simp [go_sem, *])
    case run => intro K hK; go_simp; exact hK
    try walk_nrm
    try w_num
    co_apply J.own rfl H
    intro K₁ w₁ hK H₁
    have hgs := (H₁.st.work hr).1.2.2
    have hc := gr_cell hgs
    refine ⟨_, _, _, y, K₁, rfl, stepG_load_atomic rfl (by rfl) (by first | decide | simp [base] | simp [baseD]) rfl Try.func58 (by kernel_rfl) (by kernel_rfl) (by kernel_rfl) .u64 (by kernel_rfl) rfl hc.1, fun wk => .look hr hdf fun x hx => ?_, Nat.le_refl _, ?_⟩
    · simp at hx; subst hx; exact atm_mk _ _ _
    replace H := H₁
    clear H₁ hK hgs hc
    try walk_nrm
    co_applyP J.pu rfl (by rfl) (by first | decide | simp [base] | simp [baseD]) (fun _ => run_eq_of ?run) (fun _ => by simp [go_sem, *])
    case run => intro K hK; go_simp; exact hK
    try walk_nrm
    try w_num
    co_apply J.ctl rfl rfl (fun _ => stepG_region_end)
    co_apply J.ctl rfl rfl (fun _ => stepG_ret')
    first | co_applyP J.leave1 rfl rfl Try.func43 rfl | co_applyP J.leave0 rfl rfl Try.func43 rfl
    try walk_nrm
    co_applyP J.pu rfl (by rfl) (by first | decide | simp [base] | simp [baseD]) (fun _ => run_eq_of ?run) (fun _ => by simp [go_sem, *])
    case run => intro K hK; go_simp; exact hK
    try walk_nrm
    try w_num
    co_applyP J.pu rfl (by rfl) (by first | decide | simp [base] | simp [baseD]) (fun _ => run_eq_of ?run) (fun _ => by simp [go_sem, *])
    case run => intro K hK; go_simp; exact hK
    try walk_nrm
    try w_num
    co_apply J.ctl rfl rfl (fun _ => stepG_region_end)
    co_apply J.ctl rfl rfl (fun _ => stepG_cond (t := false) rfl)
    try simp only [Bool.false_eq_true, ↓reduceIte]
    co_apply J.ctl rfl rfl (fun _ => stepG_skip)
    co_apply J.ctl rfl rfl (fun _ => stepG_seq)
    co_apply J.ctl rfl rfl (fun _ => stepG_region)
    try simp only [List.size_toArray, List.length_cons, List.length_nil, Nat.reduceAdd, Nat.zero_add, List.range, List.range.loop]
    co_applyP J.pu rfl (by rfl) (by first | decide | simp [base] | simp [baseD]) (fun _ => run_eq_of ?run) (fun _ => by simp [go_sem, *])
    case run => intro K hK; go_simp; exact hK
    try walk_nrm
    try w_num
    co_applyP J.pu rfl (by rfl) (by first | decide | simp [base] | simp [baseD]) (fun _ => run_eq_of ?run) (fun _ => by simp [go_sem, *])
    case run => intro K hK; go_simp; exact hK
    try walk_nrm
    try w_num
    co_applyP J.pu rfl (by rfl) (by first | decide | simp [base] | simp [baseD]) (fun _ => run_eq_of ?run) (fun _ => by simp [go_sem, *])
    case run => intro K hK; go_simp; exact hK
    try walk_nrm
    try w_num
    co_applyP J.enter rfl (by rfl) (by first | decide | simp [base] | simp [baseD]) rfl Try.func71 (by kernel_rfl) (by rfl)
    simp only [show Try.f71.ntmps = 9 from rfl]
    try walk_nrm
    co_apply J.ctl rfl rfl (fun _ => stepG_region)
    try simp only [List.size_toArray, List.length_cons, List.length_nil, Nat.reduceAdd, Nat.zero_add, List.range, List.range.loop]
    co_applyP J.pu rfl (by rfl) (by first | decide | simp [base] | simp [baseD]) (fun _ => run_eq_of ?run) (fun _ => by simp [go_sem, *])
    case run => intro K hK; go_simp; exact hK
    try walk_nrm
    try w_num
    co_applyP J.pu rfl (by rfl) (by first | decide | simp [base] | simp [baseD]) (fun _ => run_eq_of ?run) (fun _ => by simp [go_sem, *])
    case run => intro K hK; go_simp; exact hK
    try walk_nrm
    try w_num
    co_applyP J.pu rfl (by rfl) (by first | decide | simp [base] | simp [baseD]) (fun _ => run_eq_of ?run) (fun _ => by simp [go_sem, *])
    case run => intro K hK; go_simp; exact hK
    try walk_nrm
    try w_num
    co_applyP J.pu rfl (by rfl) (by first | decide | simp [base] | simp [baseD]) (fun _ => run_eq_of ?run) (fun _ => by simp [go_sem, *])
    case run => intro K hK; go_simp; exact hK
    try walk_nrm
    try w_num
    co_apply J.own rfl H
    intro K₁ w₁ hK H₁
    have hgs := (H₁.st.work hr).1.2.2
    have hc := gr_cell hgs
    refine ⟨_, _, _, ⟨y.own, y.rem, y.deaf, .work c .stored⟩, K₁, rfl, stepG_store_atomic rfl (by rfl) (by first | decide | simp [base] | simp [baseD]) rfl Try.func84 (by kernel_rfl) (by kernel_rfl) (by kernel_rfl) (by kernel_rfl) rfl rfl hc.1 (hc.2.2 0), fun wk => .store hr hdf fun x hx => ?_, Nat.le_refl _, ?_⟩
    · simp at hx; subst hx; exact atm_mk _ _ _
    have H2 := H₁.as' (y' := ⟨y.own, y.rem, y.deaf, .work c .stored⟩) rfl (H₁.st.stored hr)
    have hr2 : (⟨y.own, y.rem, y.deaf, .work c .stored⟩ : Gh Role).role = .work c .stored := rfl
    have hdf2 : (⟨y.own, y.rem, y.deaf, .work c .stored⟩ : Gh Role).deaf = 1 := hdf
    clear hr hdf H H₁ hK hgs hc
    generalize (⟨y.own, y.rem, y.deaf, .work c .stored⟩ : Gh Role) = y at H2 hr2 hdf2 ⊢
    have H := H2
    clear H2
    have hr := hr2
    clear hr2
    have hdf := hdf2
    clear hdf2
    try walk_nrm
    co_apply J.ctl rfl rfl (fun _ => stepG_region_end)
    co_apply J.ctl rfl rfl (fun _ => stepG_end)
    first | co_applyP J.leave1 rfl rfl Try.func71 rfl | co_applyP J.leave0 rfl rfl Try.func71 rfl
    try walk_nrm
    co_apply J.ctl rfl rfl (fun _ => stepG_region_end)
    co_apply J.ctl rfl rfl (fun _ => stepG_seq)
    co_apply J.ctl rfl rfl (fun _ => stepG_seq)
    co_apply J.ctl rfl rfl (fun _ => stepG_region)
    try simp only [List.size_toArray, List.length_cons, List.length_nil, Nat.zero_add, List.range, List.range.loop]
    co_applyP J.pu rfl (by rfl) (by first | decide | simp [base] | simp [baseD]) (fun _ => run_eq_of ?run) (fun _ => by simp [go_sem, *])
    case run => intro K hK; go_simp; exact hK
    try walk_nrm
    try w_num
    co_apply J.ctl rfl rfl (fun _ => stepG_region_end)
    co_apply J.ctl rfl rfl (fun _ => stepG_cond (t := false) rfl)
    try simp only [Bool.false_eq_true, ↓reduceIte]
    co_apply J.ctl rfl rfl (fun _ => stepG_skip)
    co_apply J.ctl rfl rfl (fun _ => stepG_block)
    co_apply J.ctl rfl rfl (fun _ => stepG_loop)
    co_apply J.ctl rfl rfl (fun _ => stepG_seq)
    co_apply J.ctl rfl rfl (fun _ => stepG_seq)
    co_apply J.ctl rfl rfl (fun _ => stepG_region)
    try simp only [List.size_toArray, List.length_cons, List.length_nil, Nat.reduceAdd, Nat.zero_add, List.range, List.range.loop]
    co_applyP J.pu rfl (by rfl) (by first | decide | simp [base] | simp [baseD]) (fun _ => run_eq_of ?run) (fun _ => by simp [go_sem, *])
    case run => intro K hK; go_simp; exact hK
    try walk_nrm
    try w_num
    co_applyP J.pu rfl (by rfl) (by first | decide | simp [base] | simp [baseD]) (fun _ => run_eq_of ?run) (fun _ => by simp [go_sem, *])
    case run => intro K hK; go_simp; exact hK
    try walk_nrm
    try w_num
    co_apply J.ctl rfl rfl (fun _ => stepG_region_end)
    co_apply J.ctl rfl rfl (fun _ => stepG_cond (t := true) rfl)
    try simp only [↓reduceIte]
    co_apply J.ctl rfl rfl (fun _ => stepG_skip)
    co_apply J.ctl rfl rfl (fun _ => stepG_seq)
    co_apply J.ctl rfl rfl (fun _ => stepG_block)
    co_apply J.ctl rfl rfl (fun _ => stepG_region)
    try simp only [List.size_toArray, List.length_cons, List.length_nil, Nat.reduceAdd, Nat.zero_add, List.range, List.range.loop]
    co_applyP J.pu rfl (by rfl) (by first | decide | simp [base] | simp [baseD]) (fun _ => run_eq_of ?run) (fun _ => by simp [go_sem, *])
    case run => intro K hK; go_simp; exact hK
    try walk_nrm
    try w_num
    co_applyP J.pu rfl (by rfl) (by first | decide | simp [base] | simp [baseD]) (fun _ => run_eq_of ?run) (fun _ => by simp [go_sem, *])
    case run => intro K hK; go_simp; exact hK
    try walk_nrm
    try w_num
    co_applyP J.pu rfl (by rfl) (by first | decide | simp [base] | simp [baseD]) (fun _ => run_eq_of ?run) (fun _ => by simp [go_sem, *])
    case run => intro K hK; go_simp; exact hK
    try walk_nrm
    try w_num
    co_apply J.ownX (n := 0) rfl H
    intro K₁ w₁ hK H₁
    have hgs := (H₁.st.work hr).1.2.2
    have hc := gr_cell hgs
    co_apply Or.inr
    co_apply Exists.intro
    co_apply Exists.intro
    co_apply Exists.intro
    refine ⟨⟨fun _ => False, 0, 1, .work c .gone⟩, K₁, ?_⟩
    co_apply Exists.intro
    refine ⟨1, ?_⟩
    refine ⟨stepG_semrelease rfl (by rfl) (by first | decide | simp [base] | simp [baseD]) rfl Try.func73 (by kernel_rfl) (by kernel_rfl) (by kernel_rfl) (by kernel_rfl) (by simp [Act.eval]) hc.2.1 (hc.2.2 1), ?_, Nat.le_refl _, ?_⟩
    · rw [Go.ConcR.Gen.mayWake_entry rfl rfl Try.func73 (by kernel_rfl)]; exact .sem hr hdf
    try walk_nrm
    co_apply QuitsD.ctl rfl (fun _ => stepG_region_end)
    co_apply QuitsD.ctl rfl (fun _ => stepG_inBlock)
    co_apply QuitsD.ctl rfl (fun _ => stepG_region)
    try simp only [List.size_toArray, List.length_cons, List.length_nil, Nat.reduceAdd, Nat.zero_add, List.range, List.range.loop]
    co_applyP QuitsD.value _ rfl (by rfl) (by first | decide | simp [base] | simp [baseD]) (fun _ => run_eq_of ?run) (fun _ => by simp [go_sem, *])
    case run => intro K hK; go_simp; exact hK
    try walk_nrm
    try w_num
    co_applyP QuitsD.value _ rfl (by rfl) (by first | decide | simp [base] | simp [baseD]) (fun _ => run_eq_of ?run) (fun _ => by simp [go_sem, *])
    case run => intro K hK; go_simp; exact hK
    try walk_nrm
    try w_num
    co_applyP QuitsD.value _ rfl (by rfl) (by first | decide | simp [base] | simp [baseD]) (fun _ => run_eq_of ?run) (fun _ => by simp [go_sem, *])
    case run => intro K hK; go_simp; exact hK
    try walk_nrm
    try w_num
    co_apply QuitsD.ctl rfl (fun _ => stepG_region_end)
    co_apply QuitsD.ctl rfl (fun _ => stepG_inLoop)
    co_apply QuitsD.ctl rfl (fun _ => stepG_seq)
    co_apply QuitsD.ctl rfl (fun _ => stepG_seq)
    co_apply QuitsD.ctl rfl (fun _ => stepG_region)
    try simp only [List.size_toArray, List.length_cons, List.length_nil, Nat.reduceAdd, Nat.zero_add, List.range, List.range.loop]
    co_applyP QuitsD.value _ rfl (by rfl) (by first | decide | simp [base] | simp [baseD]) (fun _ => run_eq_of ?run) (fun _ => by simp [go_sem, *])
    case run => intro K hK; go_simp; exact hK
    try walk_nrm
    try w_num
    co_applyP QuitsD.value _ rfl (by rfl) (by first | decide | simp [base] | simp [baseD]) (fun _ => run_eq_of ?run) (fun _ => by simp [go_sem, *])
    case run => intro K hK; go_simp; exact hK
    try walk_nrm
    try w_num
    co_apply QuitsD.ctl rfl (fun _ => stepG_region_end)
    co_apply QuitsD.ctl rfl (fun _ => stepG_cond (t := false) rfl)
    try simp only [Bool.false_eq_true, ↓reduceIte]
    co_apply QuitsD.ctl rfl (fun _ => stepG_exit rfl)
    co_apply QuitsD.ctl rfl (fun _ => stepG_end)
    co_applyP QuitsD.unwind_mark .enable rfl (by simp) rfl Try.func64 (by kernel_rfl) (by kernel_rfl) (by kernel_rfl) (by kernel_rfl)
    rw [Go.ConcR.Gen.deafBehind_enable1]
    co_applyP QuitsD.leave0 rfl rfl Try.func54 rfl
    try walk_nrm
    co_apply QuitsD.ctl rfl (fun _ => stepG_region_end)
    co_apply QuitsD.ctl rfl (fun _ => stepG_end)
    co_applyP QuitsD.leaveD rfl rfl Try.func56 rfl rfl
    exact quitsTail _ _
end Go.Proofs.Ytgnhddnhcfmipaa.Ids
