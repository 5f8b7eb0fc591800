/- IdleStorms: Load and CompareAndSwap of the word, by a worker and by its owner. Printed by wip/tools/gen_ids11.py. -/
import Derived.Test.YtgnhddnhcfmipaaIds10
namespace Go.Proofs.Ytgnhddnhcfmipaa.Ids
open Go Go.Conc Go.RowKit Go.Proofs.Ytgnhddnhcfmipaa.Eg Go.Proofs.Ytgnhddnhcfmipaa

set_option maxRecDepth 100000 in
theorem load_w : ∃ nf, ∀ {N : Nat} {F : Nat → World → Prop} {m : Bool} {y : Gh Role} {K : Nat} {w : World} {l : List Row} (c : Cfg) (h d : Bool) (_ : y.role = .work c (.busy h d)) (_ : Ctx N F y K w l), CJ (S N) m 43 #[.pointer (some ⟨c.wd, 1, none⟩)] nf (fun r K' y' w' => ∃ (K₁ u : Nat) (e : Bool), K' ≤ K₁ ∧ K₁ ≤ K ∧ r = .int .u64 (wdv (u : Int) e).num ∧ Wp.held (.busy h d) ≤ u ∧ u + Wp.vac (.busy h d) ≤ 16 ∧ (Wp.sure c.T (.busy h d) → e = true) ∧ y' = y ∧ Ctx N (Seen c K₁ u e) y' K' w' l) K y w := by
  co_apply Exists.intro
  intro N F m y K w l c h d hr H
  have hq : y.role.quiet = false := by rw [hr]; rfl
  co_apply CJ.of_WF Try.func43 (by kernel_rfl) (by rfl)
  simp only [show Try.f43.ntmps = 7 from rfl]
  walk_nrm
  co_apply WF.seq
  co_apply WF.region
  try simp only [List.size_toArray, List.length_cons, List.length_nil, Nat.zero_add, List.range, List.range.loop]
  co_applyP OF.pu rfl (by rfl) (fun _ => run_eq_of ?run) (fun _ => by simp [go_sem, *])
  case run => intro K hK; go_simp; exact hK
  walk_nrm
  co_apply OF.nil
  simp only [thenF]
  co_apply WF.seq
  co_apply WF.region
  try simp only [List.size_toArray, List.length_cons, List.length_nil, Nat.reduceAdd, Nat.zero_add, List.range, List.range.loop]
  co_applyP OF.pu rfl (by rfl) (fun _ => run_eq_of ?run) (fun _ => by simp [go_sem, *])
  case run => intro K hK; go_simp; exact hK
  walk_nrm
  co_applyP OF.pu rfl (by rfl) (fun _ => run_eq_of ?run) (fun _ => by simp [go_sem, *])
  case run => intro K hK; go_simp; exact hK
  walk_nrm
  co_applyP OF.pu rfl (by rfl) (fun _ => run_eq_of ?run) (fun _ => by simp [go_sem, *])
  case run => intro K hK; go_simp; exact hK
  walk_nrm
  co_apply OF.go
  intro K₁ hK w₁ r
  have H₁ := H.rely r
  obtain ⟨⟨s1, ⟨u, e, hwd, x1, x2, x3⟩, x4⟩, ap⟩ := H₁.st.work hr
  have hcell := wd_cell hwd
  refine ⟨_, w₁, _, y, K₁, fun b k cs hb hk => stepG_load_atomic rfl (by rfl) hk rfl Try.func58 (by kernel_rfl) (by kernel_rfl) (by kernel_rfl) .u64 (by kernel_rfl) rfl hcell.1, fun wk => .plain (plain_atm (c := c) (b := c.wd) (i := 1) (by rw [hr]; rfl) (.inr ⟨rfl, rfl⟩) (fun x hx => ?_) hq), Nat.le_refl _, ?_⟩
  · simp at hx; subst hx; exact atm_mk _ _ _
  replace H := H₁.to (F' := Seen c K₁ u e) (by rw [hr]; exact Seen.keeps _ _ _ _ _) ⟨Nat.le_refl _, fun _ => hwd⟩
  clear H₁ r hcell hwd s1 x4 ap
  walk_nrm
  co_applyP OF.pu rfl (by rfl) (fun _ => run_eq_of ?run) (fun _ => by simp [go_sem, *])
  case run => intro K hK; go_simp; exact hK
  walk_nrm
  co_apply OF.nil
  simp only [thenF]
  co_apply WF.ret
  exact retG_of rfl (resultsC_tmp (by rfl) _) (fun K₂ hK₂ w₂ r₂ => ⟨K₁, u, e, hK₂, hK, rfl, x1, x2, x3, rfl, H.rely r₂⟩)
set_option maxRecDepth 100000 in
theorem cas_get : ∃ nf, ∀ {N : Nat} {m : Bool} {y : Gh Role} {K : Nat} {w : World} {l : List Row} (c : Cfg) (d : Bool) (K₀ u : Nat) (e : Bool) (_ : 0 < c.T) (_ : u < 16) (_ : y.role = .work c (.busy false d)) (_ : 0 < y.rem) (_ : Ctx N (Seen c K₀ u e) y K w l), CJ (S N) m 59 #[.pointer (some ⟨c.wd, 1, none⟩), .int .u64 (wdv (u : Int) e).num, .int .u64 (wdv ((u + 1 : Nat) : Int) true).num] nf (fun r K' y' w' =>
    (r = .bool true ∧ K' < K ∧ y' = ⟨y.own, y.rem - 1, y.deaf, .work c (.busy true true)⟩ ∧ Ctx N T0 y' K' w' l) ∨ (r = .bool false ∧ K' < K₀ ∧ y' = y ∧ Ctx N T0 y' K' w' l)) K y w := by
  co_apply Exists.intro
  intro N m y K w l c d K₀ u e hT hu hr hrem H
  have hq : y.role.quiet = false := by rw [hr]; rfl
  co_apply CJ.of_WF Try.func59 (by kernel_rfl) (by rfl)
  simp only [show Try.f59.ntmps = 13 from rfl]
  walk_nrm
  co_apply WF.seq
  co_apply WF.region
  try simp only [List.size_toArray, List.length_cons, List.length_nil, Nat.zero_add, List.range, List.range.loop]
  co_applyP OF.pu rfl (by rfl) (fun _ => run_eq_of ?run) (fun _ => by simp [go_sem, *])
  case run => intro K hK; go_simp; exact hK
  walk_nrm
  co_apply OF.nil
  simp only [thenF]
  co_apply WF.seq
  co_apply WF.region
  try simp only [List.size_toArray, List.length_cons, List.length_nil, Nat.reduceAdd, Nat.zero_add, List.range, List.range.loop]
  co_applyP OF.pu rfl (by rfl) (fun _ => run_eq_of ?run) (fun _ => by simp [go_sem, *])
  case run => intro K hK; go_simp; exact hK
  walk_nrm
  co_applyP OF.pu rfl (by rfl) (fun _ => run_eq_of ?run) (fun _ => by simp [go_sem, *])
  case run => intro K hK; go_simp; exact hK
  walk_nrm
  co_applyP OF.pu rfl (by rfl) (fun _ => run_eq_of ?run) (fun _ => by simp [go_sem, *])
  case run => intro K hK; go_simp; exact hK
  walk_nrm
  co_applyP OF.pu rfl (by rfl) (fun _ => run_eq_of ?run) (fun _ => by simp [go_sem, *])
  case run => intro K hK; go_simp; exact hK
  walk_nrm
  co_applyP OF.pu rfl (by rfl) (fun _ => run_eq_of ?run) (fun _ => by simp [go_sem, *])
  case run => intro K hK; go_simp; exact hK
  walk_nrm
  co_apply OF.go
  intro K₁ hK w₁ r
  have H₁ := H.rely r
  obtain ⟨⟨s1, ⟨u₂, e₂, hwd, x1, x2, x3⟩, x4⟩, ap⟩ := H₁.st.work hr
  have hcell := wd_cell hwd
  by_cases hx : u₂ = u ∧ e₂ = e
  · obtain ⟨rfl, rfl⟩ := hx
    have hK1 : 1 ≤ K₁ := by have := H₁.st.1; omega
    obtain ⟨K₂, rfl⟩ : ∃ K₂, K₁ = K₂ + 1 := ⟨K₁ - 1, by omega⟩
    refine ⟨_, _, _, ⟨y.own, y.rem - 1, y.deaf, .work c (.busy true true)⟩, K₂, fun b k cs hb hk => stepG_cas_hit rfl (by rfl) hk rfl Try.func78 (by kernel_rfl) (by kernel_rfl) (by kernel_rfl) .u64 (by kernel_rfl) rfl rfl rfl hcell.1 hcell.2.2, fun wk => .get hr hT hwd (by omega) hrem rfl fun x hx => ?_, by omega, ?_⟩
    · simp at hx; rcases hx with rfl | rfl <;> exact atm_mk _ _ _
    have H₂ := H₁.turned (h' := true) (d' := true) hr hwd rfl hrem (u' := u₂ + 1) (e' := true) (by simp [Wp.held]) (by simp [Wp.vac]; omega) (fun _ => rfl)
    clear H₁ r hcell hwd s1 x4 ap H
    walk_nrm
    co_applyP OF.pu rfl (by rfl) (fun _ => run_eq_of ?run) (fun _ => by simp [go_sem, *])
    case run => intro K hK; go_simp; exact hK
    walk_nrm
    co_apply OF.nil
    simp only [thenF]
    co_apply WF.ret
    exact retG_of rfl (resultsC_tmp (by rfl) _) (fun K₃ hK₃ w₃ r₃ => .inl ⟨rfl, by omega, rfl, H₂.rely r₃⟩)
  · have hne : ¬ (wdv (u₂ : Int) e₂).num = (wdv (u : Int) e).num := fun he => hx (wdv_inj (by omega) (by omega) he)
    refine ⟨_, w₁, _, y, K₁, fun b k cs hb hk => stepG_cas_miss rfl (by rfl) hk rfl Try.func78 (by kernel_rfl) (by kernel_rfl) (by kernel_rfl) .u64 (by kernel_rfl) rfl rfl rfl hcell.1 hcell.2.2 hne, fun wk => .plain (plain_atm (c := c) (b := c.wd) (i := 1) (by rw [hr]; rfl) (.inr ⟨rfl, rfl⟩) (fun x hx => ?_) hq), Nat.le_refl _, ?_⟩
    · simp at hx; subst hx; exact atm_mk _ _ _
    have hlt : K₁ < K₀ := Nat.lt_of_le_of_ne H₁.mem.1 fun e => by
      have := wdO_inj (by omega) (by omega) (Option.some.inj (hwd.symm.trans (H₁.mem.2 e)))
      exact hx this
    replace H := H₁.t0
    clear H₁ r hcell hwd s1 x4 ap
    walk_nrm
    co_applyP OF.pu rfl (by rfl) (fun _ => run_eq_of ?run) (fun _ => by simp [go_sem, *])
    case run => intro K hK; go_simp; exact hK
    walk_nrm
    co_apply OF.nil
    simp only [thenF]
    co_apply WF.ret
    exact retG_of rfl (resultsC_tmp (by rfl) _) (fun K₃ hK₃ w₃ r₃ => .inr ⟨rfl, by omega, rfl, H.rely r₃⟩)

set_option maxRecDepth 100000 in
theorem cas_put : ∃ nf, ∀ {N : Nat} {m : Bool} {y : Gh Role} {K : Nat} {w : World} {l : List Row} (c : Cfg) (d : Bool) (K₀ u : Nat) (_ : u < 16) (_ : y.role = .work c (.busy true d)) (_ : 0 < y.rem) (_ : Ctx N (Seen c K₀ (u + 1) true) y K w l), CJ (S N) m 59 #[.pointer (some ⟨c.wd, 1, none⟩), .int .u64 (wdv ((u + 1 : Nat) : Int) true).num, .int .u64 (wdv (u : Int) true).num] nf (fun r K' y' w' =>
    (r = .bool true ∧ K' < K ∧ y' = ⟨y.own, y.rem - 1, y.deaf, .work c (.busy false d)⟩ ∧ Ctx N T0 y' K' w' l) ∨ (r = .bool false ∧ K' < K₀ ∧ y' = y ∧ Ctx N T0 y' K' w' l)) K y w := by
  co_apply Exists.intro
  intro N m y K w l c d K₀ u hu hr hrem H
  have hq : y.role.quiet = false := by rw [hr]; rfl
  co_apply CJ.of_WF Try.func59 (by kernel_rfl) (by rfl)
  simp only [show Try.f59.ntmps = 13 from rfl]
  walk_nrm
  co_apply WF.seq
  co_apply WF.region
  try simp only [List.size_toArray, List.length_cons, List.length_nil, Nat.zero_add, List.range, List.range.loop]
  co_applyP OF.pu rfl (by rfl) (fun _ => run_eq_of ?run) (fun _ => by simp [go_sem, *])
  case run => intro K hK; go_simp; exact hK
  walk_nrm
  co_apply OF.nil
  simp only [thenF]
  co_apply WF.seq
  co_apply WF.region
  try simp only [List.size_toArray, List.length_cons, List.length_nil, Nat.reduceAdd, Nat.zero_add, List.range, List.range.loop]
  co_applyP OF.pu rfl (by rfl) (fun _ => run_eq_of ?run) (fun _ => by simp [go_sem, *])
  case run => intro K hK; go_simp; exact hK
  walk_nrm
  co_applyP OF.pu rfl (by rfl) (fun _ => run_eq_of ?run) (fun _ => by simp [go_sem, *])
  case run => intro K hK; go_simp; exact hK
  walk_nrm
  co_applyP OF.pu rfl (by rfl) (fun _ => run_eq_of ?run) (fun _ => by simp [go_sem, *])
  case run => intro K hK; go_simp; exact hK
  walk_nrm
  co_applyP OF.pu rfl (by rfl) (fun _ => run_eq_of ?run) (fun _ => by simp [go_sem, *])
  case run => intro K hK; go_simp; exact hK
  walk_nrm
  co_applyP OF.pu rfl (by rfl) (fun _ => run_eq_of ?run) (fun _ => by simp [go_sem, *])
  case run => intro K hK; go_simp; exact hK
  walk_nrm
  co_apply OF.go
  intro K₁ hK w₁ r
  have H₁ := H.rely r
  obtain ⟨⟨s1, ⟨u₂, e₂, hwd, x1, x2, x3⟩, x4⟩, ap⟩ := H₁.st.work hr
  have hcell := wd_cell hwd
  by_cases hx : u₂ = u + 1 ∧ e₂ = true
  · obtain ⟨rfl, rfl⟩ := hx
    have hK1 : 1 ≤ K₁ := by have := H₁.st.1; omega
    obtain ⟨K₂, rfl⟩ : ∃ K₂, K₁ = K₂ + 1 := ⟨K₁ - 1, by omega⟩
    refine ⟨_, _, _, ⟨y.own, y.rem - 1, y.deaf, .work c (.busy false d)⟩, K₂, fun b k cs hb hk => stepG_cas_hit rfl (by rfl) hk rfl Try.func78 (by kernel_rfl) (by kernel_rfl) (by kernel_rfl) .u64 (by kernel_rfl) rfl rfl rfl hcell.1 hcell.2.2, fun wk => .put hr hwd (by omega) hrem rfl fun x hx => ?_, by omega, ?_⟩
    · simp at hx; rcases hx with rfl | rfl <;> exact atm_mk _ _ _
    have H₂ := H₁.turned (h' := false) (d' := d) hr hwd rfl hrem (u' := u) (e' := true) (by simp [Wp.held]) (by simp [Wp.vac]; omega) (fun _ => rfl)
    clear H₁ r hcell hwd s1 x4 ap H
    walk_nrm
    co_applyP OF.pu rfl (by rfl) (fun _ => run_eq_of ?run) (fun _ => by simp [go_sem, *])
    case run => intro K hK; go_simp; exact hK
    walk_nrm
    co_apply OF.nil
    simp only [thenF]
    co_apply WF.ret
    exact retG_of rfl (resultsC_tmp (by rfl) _) (fun K₃ hK₃ w₃ r₃ => .inl ⟨rfl, by omega, rfl, H₂.rely r₃⟩)
  · have hne : ¬ (wdv (u₂ : Int) e₂).num = (wdv ((u + 1 : Nat) : Int) true).num := fun he => hx (wdv_inj (by omega) (by omega) he)
    refine ⟨_, w₁, _, y, K₁, fun b k cs hb hk => stepG_cas_miss rfl (by rfl) hk rfl Try.func78 (by kernel_rfl) (by kernel_rfl) (by kernel_rfl) .u64 (by kernel_rfl) rfl rfl rfl hcell.1 hcell.2.2 hne, fun wk => .plain (plain_atm (c := c) (b := c.wd) (i := 1) (by rw [hr]; rfl) (.inr ⟨rfl, rfl⟩) (fun x hx => ?_) hq), Nat.le_refl _, ?_⟩
    · simp at hx; subst hx; exact atm_mk _ _ _
    have hlt : K₁ < K₀ := Nat.lt_of_le_of_ne H₁.mem.1 fun e => by
      have := wdO_inj (by omega) (by omega) (Option.some.inj (hwd.symm.trans (H₁.mem.2 e)))
      exact hx this
    replace H := H₁.t0
    clear H₁ r hcell hwd s1 x4 ap
    walk_nrm
    co_applyP OF.pu rfl (by rfl) (fun _ => run_eq_of ?run) (fun _ => by simp [go_sem, *])
    case run => intro K hK; go_simp; exact hK
    walk_nrm
    co_apply OF.nil
    simp only [thenF]
    co_apply WF.ret
    exact retG_of rfl (resultsC_tmp (by rfl) _) (fun K₃ hK₃ w₃ r₃ => .inr ⟨rfl, by omega, rfl, H.rely r₃⟩)

end Go.Proofs.Ytgnhddnhcfmipaa.Ids
