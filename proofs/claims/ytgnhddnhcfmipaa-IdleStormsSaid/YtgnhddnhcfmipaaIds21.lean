/- IdleStorms: the word in its owner's hand. Printed by wip/tools/gen_ids21.py. -/
import Derived.Test.YtgnhddnhcfmipaaIds14
namespace Go.Proofs.Ytgnhddnhcfmipaa.Ids
open Go Go.Conc Go.RowKit Go.Proofs.Ytgnhddnhcfmipaa.Eg Go.Proofs.Ytgnhddnhcfmipaa

section
variable {N : Nat} {F : Nat → World → Prop} {m : Bool} {fn : FuncId} {Q : PostF (S N)} {K n : Nat} {y : Gh Role} {a : Act} {w : World} {l l' : List Row} {ops : Array Oper} {i : Nat} {rest : List Nat} {o : Oper}
/-- A step of its own on own rows, whatever its law. -/
theorem OF.goOwn {v : Value} (H : Ctx N F y K w l) (hq : y.role.quiet = false)
    (h : ∀ w, Rows y.own w l → ∃ w' es, (∀ (b : Frame) (k : List Item) (cs : List Frame), b.fn = fn → b.kind ≠ .early → stepG Try.prog m (Conc.G (b.at a (.inRegion ops (i :: rest) :: k)) cs) w = .go (Conc.G (b.at (a.put o.dst v) (.inRegion ops rest :: k)) cs) w' es) ∧ Upd y.own w w' l' ∧ ∀ e ∈ es, OwnEv y.own e)
    (hn : ∀ K₁ w', K₁ ≤ K → Ctx N F y K₁ w' l' → OF (S N) m fn ops rest n Q K₁ y (a.put o.dst v) w') : OF (S N) m fn ops (i :: rest) (n + 1) Q K y a w := by
  refine OF.go fun K₁ hK w₁ r => ?_
  have H₁ := H.rely r
  obtain ⟨w', es, h1, h2, hev⟩ := h w₁ H₁.rows
  have hb : Below N w₁ w' := ⟨h2.os, h2.tape, h2.output, by rw [h2.size]; exact Nat.le_refl _, fun k hk => h2.far k fun hx => by have := H.hi k hx; omega⟩
  refine ⟨_, w', es, y, K₁, h1, fun wk => .plain ⟨rfl, rfl, rfl, (own_deaf hev _).symm, hb, fun _ h => h, fun _ h => .inl h, fun b _ h => h2.far b h, fun e hm => (hev e hm).ok, fun h => by rw [hq] at h; cases h⟩, Nat.le_refl _, hn K₁ w' hK ?_⟩
  exact ⟨h2.rows, H₁.st.kept rfl rfl (fun _ h => .inl h) (fun b _ h => h2.far b h) (by rw [h2.size]; exact Nat.le_refl _), H₁.hi, fun b hb => by rw [h2.size]; exact H₁.lo b hb, by rw [h2.size]; exact H₁.big, H₁.keeps, H₁.keeps.own _ _ _ _ rfl H₁.st (fun b _ h => h2.far b h) H₁.mem⟩
end

set_option maxHeartbeats 8000000 in
set_option maxRecDepth 100000 in
theorem load_o : ∃ nf, ∀ {N : Nat} {F : Nat → World → Prop} {m : Bool} {y : Gh Role} {K : Nat} {w : World} {l : List Row} (sh : Nat → Prop) (g : Nat) (d x : Int) (_ : y.role = .alone sh) (_ : Ctx N F y K w ((g, #[.int .i64 d, .int .u64 x], 100) :: l)), CJ (S N) m 43 #[.pointer (some ⟨g, 1, none⟩)] nf (fun r K' y' w' => r = .int .u64 x ∧ Gr y y' ∧ Ctx N F y' K' w' ((g, #[.int .i64 d, .int .u64 x], 100) :: l)) K y w := by
  co_apply Exists.intro
  intro N F m y K w l sh g d x hr H
  have hg := Gr.refl y
  have hq : y.role.quiet = false := by rw [hr]; rfl
  co_apply CJ.of_WF Try.func43 (by kernel_rfl) (by rfl)
  simp only [show Try.f43.ntmps = 7 from rfl]
  try walk_nrm
  co_apply WF.seqP
  co_apply WF.region
  try simp only [List.size_toArray, List.length_cons, List.length_nil, Nat.zero_add, List.range, List.range.loop]
  co_applyP OF.pu rfl (by rfl) (fun _ => run_eq_of ?run) (fun _ => by simp [go_sem, *])
  case run => intro K hK; go_simp; exact hK
  try walk_nrm
  co_apply OF.nil
  try simp only [thenF]
  co_apply WF.seqP
  co_apply WF.region
  try simp only [List.size_toArray, List.length_cons, List.length_nil, Nat.reduceAdd, Nat.zero_add, List.range, List.range.loop]
  co_applyP OF.pu rfl (by rfl) (fun _ => run_eq_of ?run) (fun _ => by simp [go_sem, *])
  case run => intro K hK; go_simp; exact hK
  try walk_nrm
  co_applyP OF.pu rfl (by rfl) (fun _ => run_eq_of ?run) (fun _ => by simp [go_sem, *])
  case run => intro K hK; go_simp; exact hK
  try walk_nrm
  co_applyP OF.pu rfl (by rfl) (fun _ => run_eq_of ?run) (fun _ => by simp [go_sem, *])
  case run => intro K hK; go_simp; exact hK
  try walk_nrm
  co_applyP OF.goOwn H hq (fun w hF => ⟨_, _, fun b k cs hb hk => stepG_load_atomic rfl (by rfl) hk rfl Try.func58 (by kernel_rfl) (by kernel_rfl) (by kernel_rfl) .u64 (by kernel_rfl) rfl (hF.cell 0 1 rfl rfl), Upd.refl hF, fun e he => ?ev⟩)
  case ev => simp at he; subst he; exact ⟨_, hF.mine 0 rfl, rfl⟩
  intro K w hK1 H1
  replace H := H1
  clear hK1 H1
  try walk_nrm
  co_applyP OF.pu rfl (by rfl) (fun _ => run_eq_of ?run) (fun _ => by simp [go_sem, *])
  case run => intro K hK; go_simp; exact hK
  try walk_nrm
  co_apply OF.nil
  try simp only [thenF]
  co_apply WF.ret
  exact retG_of rfl (resultsC_tmp (by rfl) _) (fun K₂ hK₂ w₂ r₂ => ⟨rfl, hg, H.rely r₂⟩)

set_option maxHeartbeats 8000000 in
set_option maxRecDepth 100000 in
theorem cas_o : ∃ nf, ∀ {N : Nat} {F : Nat → World → Prop} {m : Bool} {y : Gh Role} {K : Nat} {w : World} {l : List Row} (sh : Nat → Prop) (g : Nat) (d x x2 : Int) (_ : y.role = .alone sh) (_ : Ctx N F y K w ((g, #[.int .i64 d, .int .u64 x], 100) :: l)), CJ (S N) m 59 #[.pointer (some ⟨g, 1, none⟩), .int .u64 x, .int .u64 x2] nf (fun r K' y' w' => r = .bool true ∧ Gr y y' ∧ Ctx N F y' K' w' ((g, #[.int .i64 d, .int .u64 x2], 100) :: l)) K y w := by
  co_apply Exists.intro
  intro N F m y K w l sh g d x x2 hr H
  have hg := Gr.refl y
  have hq : y.role.quiet = false := by rw [hr]; rfl
  co_apply CJ.of_WF Try.func59 (by kernel_rfl) (by rfl)
  simp only [show Try.f59.ntmps = 13 from rfl]
  try walk_nrm
  co_apply WF.seqP
  co_apply WF.region
  try simp only [List.size_toArray, List.length_cons, List.length_nil, Nat.zero_add, List.range, List.range.loop]
  co_applyP OF.pu rfl (by rfl) (fun _ => run_eq_of ?run) (fun _ => by simp [go_sem, *])
  case run => intro K hK; go_simp; exact hK
  try walk_nrm
  co_apply OF.nil
  try simp only [thenF]
  co_apply WF.seqP
  co_apply WF.region
  try simp only [List.size_toArray, List.length_cons, List.length_nil, Nat.reduceAdd, Nat.zero_add, List.range, List.range.loop]
  co_applyP OF.pu rfl (by rfl) (fun _ => run_eq_of ?run) (fun _ => by simp [go_sem, *])
  case run => intro K hK; go_simp; exact hK
  try walk_nrm
  co_applyP OF.pu rfl (by rfl) (fun _ => run_eq_of ?run) (fun _ => by simp [go_sem, *])
  case run => intro K hK; go_simp; exact hK
  try walk_nrm
  co_applyP OF.pu rfl (by rfl) (fun _ => run_eq_of ?run) (fun _ => by simp [go_sem, *])
  case run => intro K hK; go_simp; exact hK
  try walk_nrm
  co_applyP OF.pu rfl (by rfl) (fun _ => run_eq_of ?run) (fun _ => by simp [go_sem, *])
  case run => intro K hK; go_simp; exact hK
  try walk_nrm
  co_applyP OF.pu rfl (by rfl) (fun _ => run_eq_of ?run) (fun _ => by simp [go_sem, *])
  case run => intro K hK; go_simp; exact hK
  try walk_nrm
  co_applyP OF.goOwn H hq (fun w hF => ⟨_, _, fun b k cs hb hk => stepG_cas_hit rfl (by rfl) hk rfl Try.func78 (by kernel_rfl) (by kernel_rfl) (by kernel_rfl) .u64 (by kernel_rfl) rfl rfl rfl (hF.cell 0 1 rfl rfl) (hF.free 0 1 rfl), (Upd.refl hF).set 0 1 rfl _, fun e he => ?ev⟩)
  case ev => simp at he; rcases he with rfl | rfl <;> exact ⟨_, hF.mine 0 rfl, rfl⟩
  intro K w hK1 H1
  replace H := H1
  clear hK1 H1
  simp only [List.set_cons_zero, List.set_cons_succ, List.setIfInBounds_toArray] at H
  try walk_nrm
  co_applyP OF.pu rfl (by rfl) (fun _ => run_eq_of ?run) (fun _ => by simp [go_sem, *])
  case run => intro K hK; go_simp; exact hK
  try walk_nrm
  co_apply OF.nil
  try simp only [thenF]
  co_apply WF.ret
  exact retG_of rfl (resultsC_tmp (by rfl) _) (fun K₂ hK₂ w₂ r₂ => ⟨rfl, hg, H.rely r₂⟩)

end Go.Proofs.Ytgnhddnhcfmipaa.Ids
