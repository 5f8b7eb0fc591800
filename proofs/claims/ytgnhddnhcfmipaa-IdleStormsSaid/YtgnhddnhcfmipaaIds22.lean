/- IdleStorms: a step of a call in the owner's hand. Printed by wip/tools/gen_ids22.py. -/
import Derived.Test.YtgnhddnhcfmipaaIds21
namespace Go.Proofs.Ytgnhddnhcfmipaa.Ids
open Go Go.Conc Go.RowKit Go.Proofs.Ytgnhddnhcfmipaa.Eg Go.Proofs.Ytgnhddnhcfmipaa

theorem Ctx.swap {N : Nat} {F : Nat → World → Prop} {y : Gh Role} {K : Nat} {w : World} {p q : Row} {l : List Row} (H : Ctx N F y K w (p :: q :: l)) : Ctx N F y K w (q :: p :: l) :=
  ⟨⟨by have := H.rows.nd; simp only [List.map_cons, List.nodup_cons, List.mem_cons, not_or] at this ⊢; exact ⟨⟨fun e => this.1.1 e.symm, this.2.1⟩, this.1.2, this.2.2⟩, fun x hx => H.rows.at_ x (by simp only [List.mem_cons] at hx ⊢; rcases hx with h | h | h <;> simp [h])⟩, H.st, H.hi, H.lo, H.big, H.keeps, H.mem⟩
theorem wdv_injL {u v : Nat} {e e' : Bool} (hu : u ≤ 65535) (hv : v ≤ 65535) (h : (wdv u e).num = (wdv v e').num) : u = v ∧ e = e' := by
  cases e <;> cases e' <;> simp [wdv, VW.num, VW.low] at h ⊢ <;> omega
theorem view_wL : ∃ nf, ∀ {N : Nat} {F : Nat → World → Prop} {m : Bool} {y : Gh Role} {K : Nat} {w : World} {l : List Row} (u : Nat) (e : Bool) (_ : u ≤ 65535) (_ : Ctx N F y K w l) (_ : y.role.quiet = false),
    CJ (S N) m 44 #[.int .u64 (wdv (u : Int) e).num] nf (fun r K' y' w' => r = .agg #[.int .i64 u, .bool e, .int .i64 0, .int .i64 (kOf e)] ∧ Gr y y' ∧ Ctx N F y' K' w' l) K y w := by
  obtain ⟨n, h⟩ := view_c
  exact ⟨n, fun u e hu H hq => h (wdv u e) (wdv_ok (by omega)) H hq⟩
theorem get_wL : ∃ nf, ∀ {N : Nat} {F : Nat → World → Prop} {m : Bool} {y : Gh Role} {K : Nat} {w : World} {l : List Row} (d : Int) (u : Nat) (e : Bool) (_ : u < 65535) (_ : Ctx N F y K w l) (_ : y.role.quiet = false),
    CJ (S N) m 79 #[.int .i64 d, .int .i64 0, .agg #[.int .i64 u, .bool e, .int .i64 0, .int .i64 (kOf e)]] nf (fun r K' y' w' => r = .tuple #[.agg #[.int .i64 ((u + 1 : Nat) : Int), .bool true, .int .i64 0, .int .i64 1], .int .i64 0] ∧ Gr y y' ∧ Ctx N F y' K' w' l) K y w := by
  obtain ⟨n, h⟩ := get_t
  obtain ⟨n', h'⟩ := get_f
  refine ⟨n + n', fun d u e hu H hq => ?_⟩
  cases e with
  | true => exact (h d 0 u 0 1 (wdv_ok (u := u) (e := true) (by omega)) (by omega) H hq).more (by omega)
  | false => exact (h' d 0 u 0 0 (wdv_ok (u := u) (e := false) (by omega)) (by omega) H hq).more (by omega)
theorem packed_wL : ∃ nf, ∀ {N : Nat} {F : Nat → World → Prop} {m : Bool} {y : Gh Role} {K : Nat} {w : World} {l : List Row} (u : Nat) (e : Bool) (_ : u ≤ 65535) (_ : Ctx N F y K w l) (_ : y.role.quiet = false),
    CJ (S N) m 61 #[.agg #[.int .i64 (u : Int), .bool e, .int .i64 0, .int .i64 (kOf e)]] nf (fun r K' y' w' => r = .int .u64 (wdv (u : Int) e).num ∧ Gr y y' ∧ Ctx N F y' K' w' l) K y w := by
  obtain ⟨n, h⟩ := packed_t
  obtain ⟨n', h'⟩ := packed_f
  refine ⟨n + n', fun u e hu H hq => ?_⟩
  cases e with
  | true => exact (h u 0 1 (wdv_ok (u := u) (e := true) (by omega)) H hq).more (by omega)
  | false => exact (h' u 0 0 (wdv_ok (u := u) (e := false) (by omega)) H hq).more (by omega)
/-- the word asleep again -/
def slept : VW := ⟨0, false, 0, 1⟩
theorem sweep0_w : ∃ nf, ∀ {N : Nat} {F : Nat → World → Prop} {m : Bool} {y : Gh Role} {K : Nat} {w : World} {l : List Row} (d : Int) (_ : 0 ≤ d ∧ d ≤ 2147483647) (_ : Ctx N F y K w l) (_ : y.role.quiet = false),
    CJ (S N) m 81 #[.int .i64 d, .int .i64 2147483647, .agg #[.int .i64 ((0 : Nat) : Int), .bool true, .int .i64 0, .int .i64 (kOf true)]] nf (fun r K' y' w' => r = .tuple #[.agg #[.int .i64 0, .bool false, .int .i64 0, .int .i64 1], .int .i64 0] ∧ Gr y y' ∧ Ctx N F y' K' w' l) K y w := by
  obtain ⟨n, h⟩ := sweep_0
  exact ⟨n, fun d hd H hq => h d 1 hd H hq⟩
theorem sweepu_w : ∃ nf, ∀ {N : Nat} {F : Nat → World → Prop} {m : Bool} {y : Gh Role} {K : Nat} {w : World} {l : List Row} (d : Int) (u : Nat) (e : Bool) (_ : 0 < u ∨ e = false) (_ : Ctx N F y K w l) (_ : y.role.quiet = false),
    CJ (S N) m 81 #[.int .i64 d, .int .i64 2147483647, .agg #[.int .i64 (u : Int), .bool e, .int .i64 0, .int .i64 (kOf e)]] nf (fun r K' y' w' => r = .tuple #[.agg #[.int .i64 (u : Int), .bool e, .int .i64 0, .int .i64 (kOf e)], .int .i64 0] ∧ Gr y y' ∧ Ctx N F y' K' w' l) K y w := by
  obtain ⟨n, h⟩ := sweep_u
  obtain ⟨n', h'⟩ := sweep_f
  refine ⟨n + n', fun d u e hu H hq => ?_⟩
  cases e with
  | true => exact (h d u 0 1 (by rcases hu with h | h <;> first | omega | cases h) H hq).more (by omega)
  | false => exact (h' d u 0 0 H hq).more (by omega)
theorem packed_s : ∃ nf, ∀ {N : Nat} {F : Nat → World → Prop} {m : Bool} {y : Gh Role} {K : Nat} {w : World} {l : List Row} (_ : Ctx N F y K w l) (_ : y.role.quiet = false),
    CJ (S N) m 61 #[.agg #[.int .i64 0, .bool false, .int .i64 0, .int .i64 1]] nf (fun r K' y' w' => r = .int .u64 slept.num ∧ Gr y y' ∧ Ctx N F y' K' w' l) K y w := by
  obtain ⟨n, h⟩ := packed_f
  exact ⟨n, fun H hq => h 0 0 1 ⟨by decide, by decide, by decide, by decide, by decide, by decide⟩ H hq⟩

set_option maxHeartbeats 8000000 in
set_option maxRecDepth 100000 in
theorem oread_get : ∃ nf, ∀ {N : Nat} {F : Nat → World → Prop} {m : Bool} {y : Gh Role} {K : Nat} {w : World} {l : List Row} (sh : Nat → Prop) (g ba : Nat) (d was nxt code tries : Int) (u : Nat) (e : Bool) (_ : u < 65535) (_ : y.role = .alone sh) (_ : Ctx N F y K w ((ba, #[.pointer (some ⟨g, 0, none⟩), .int .u8 1, .int .i64 0, .int .u64 was, .int .u64 nxt, .bool false, .bool false, .int .i64 code, .int .i64 tries], 106) :: (g, #[.int .i64 d, .int .u64 (wdv (u : Int) e).num], 100) :: l)),
    CJ (S N) m 45 #[.pointer (some ⟨ba, 0, none⟩)] nf (fun r K' y' w' => r = .tuple #[] ∧ Gr y y' ∧ ∃ code' : Int, Ctx N F y' K' w' ((ba, #[.pointer (some ⟨g, 0, none⟩), .int .u8 1, .int .i64 0, .int .u64 (wdv (u : Int) e).num, .int .u64 (wdv ((u + 1 : Nat) : Int) true).num, .bool true, .bool false, .int .i64 code', .int .i64 tries], 106) :: (g, #[.int .i64 d, .int .u64 (wdv (u : Int) e).num], 100) :: l)) K y w := by
  obtain ⟨nl, hload⟩ := load_o
  obtain ⟨nd, hdeeds⟩ := deeds_c
  obtain ⟨nv, hview⟩ := view_wL
  obtain ⟨ng, hdeed⟩ := get_wL
  obtain ⟨np, hpacked⟩ := packed_wL
  obtain ⟨B, hB⟩ : ∃ B, 40 * (nd + nv + ng + 1) + 2 ≤ B := ⟨_, Nat.le_refl _⟩
  co_apply Exists.intro
  intro N F m y K w l sh g ba d was nxt code tries u e hu hr H
  have hg := Gr.refl y
  have hq : y.role.quiet = false := by rw [hr]; rfl
  co_apply CJ.of_WF Try.func45 (by kernel_rfl) (by rfl)
  simp only [show Try.f45.ntmps = 102 from rfl]
  try walk_nrm
  co_apply WF.seqP
  co_apply WF.seqP
  co_apply WF.region
  try simp only [List.size_toArray, List.length_cons, List.length_nil, Nat.reduceAdd, Nat.zero_add, List.range, List.range.loop]
  co_applyP OF.pu rfl (by rfl) (fun _ => run_eq_of ?run) (fun _ => by simp [go_sem, *])
  case run => intro K hK; go_simp; exact hK
  try walk_nrm
  co_applyP OF.pu rfl (by rfl) (fun _ => run_eq_of ?run) (fun _ => by simp [go_sem, *])
  case run => intro K hK; go_simp; exact hK
  try walk_nrm
  co_applyP OF.pu rfl (by rfl) (fun _ => run_eq_of ?run) (fun _ => by simp [go_sem, *])
  case run => intro K hK; go_simp; exact hK
  try walk_nrm
  co_applyP OF.ld1 0 5 rfl (by rfl) rfl H hq rfl rfl rfl Try.underlying4 rfl
  intro K w hK1 hr1 H1
  replace H := H1
  clear hr1 hK1 H1
  try walk_nrm
  co_apply OF.nil
  try simp only [thenF]
  co_apply WF.cond (t := false) rfl
  simp only [Bool.false_eq_true, ↓reduceIte]
  co_apply WF.skip
  try simp only [thenF]
  co_apply WF.seqP
  co_apply WF.region
  try simp only [List.size_toArray, List.length_cons, List.length_nil, Nat.reduceAdd, Nat.zero_add, List.range, List.range.loop]
  co_applyP OF.pu rfl (by rfl) (fun _ => run_eq_of ?run) (fun _ => by simp [go_sem, *])
  case run => intro K hK; go_simp; exact hK
  try walk_nrm
  co_applyP OF.pu rfl (by rfl) (fun _ => run_eq_of ?run) (fun _ => by simp [go_sem, *])
  case run => intro K hK; go_simp; exact hK
  try walk_nrm
  co_applyP OF.pu rfl (by rfl) (fun _ => run_eq_of ?run) (fun _ => by simp [go_sem, *])
  case run => intro K hK; go_simp; exact hK
  try walk_nrm
  co_applyP OF.pu rfl (by rfl) (fun _ => run_eq_of ?run) (fun _ => by simp [go_sem, *])
  case run => intro K hK; go_simp; exact hK
  try walk_nrm
  co_applyP OF.ld1 0 0 rfl (by rfl) rfl H hq rfl rfl rfl Try.underlying23 rfl
  intro K w hK1 hr1 H1
  replace H := H1
  clear hr1 hK1 H1
  try walk_nrm
  co_applyP OF.pu rfl (by rfl) (fun _ => run_eq_of ?run) (fun _ => by simp [go_sem, *])
  case run => intro K hK; go_simp; exact hK
  try walk_nrm
  co_applyP OF.pu rfl (by rfl) (fun _ => run_eq_of ?run) (fun _ => by simp [go_sem, *])
  case run => intro K hK; go_simp; exact hK
  try walk_nrm
  co_applyP OF.callJ rfl (by rfl) rfl
  · walk_nrm
    exact hload sh g d _ hr H.swap
  rintro _ K y' w hK1 ⟨rfl, hg1, H1⟩
  replace hg := hg.trans hg1
  replace hr := hg1.role.trans hr
  have hq1 : y'.role.quiet = false := by rw [hr]; rfl
  replace hq := hq1
  replace H := H1
  replace H := H.swap
  clear hg1 H1 hq1 hK1
  try walk_nrm
  co_applyP OF.pu rfl (by rfl) (fun _ => run_eq_of ?run) (fun _ => by simp [go_sem, *])
  case run => intro K hK; go_simp; exact hK
  try walk_nrm
  co_applyP OF.pu rfl (by rfl) (fun _ => run_eq_of ?run) (fun _ => by simp [go_sem, *])
  case run => intro K hK; go_simp; exact hK
  try walk_nrm
  co_applyP OF.st1 0 3 rfl (by rfl) rfl H hq rfl rfl rfl rfl rfl (by kernel_rfl)
  intro K w₁ w hK1 hr1 hu1 H1
  replace H := H1
  clear hr1 hK1 hu1 H1
  simp only [List.set_cons_zero, List.set_cons_succ, List.setIfInBounds_toArray] at H
  try walk_nrm
  co_apply OF.nil
  try simp only [thenF]
  co_apply WF.seqP
  co_apply WF.drawnB B (nd + nv + ng) (Sd N _ _ _) (by simp only [List.size_toArray, List.length_cons, List.length_nil, Nat.reduceAdd, Nat.zero_add]; omega) (by kernel_rfl)
  intro K hK1 w₀ hr1
  replace H := (H.rely hr1).drew
  clear hr1 hK1
  generalize ({ w₀ with drawn := w₀.drawn + 1 } : World) = w at H ⊢
  try simp only [List.size_toArray, List.length_cons, List.length_nil, Nat.reduceAdd, Nat.zero_add]
  co_applyP AnyF.take Sd.rely (i := 1) rfl (by kernel_rfl) (by kernel_rfl) (by kernel_rfl) (YF.pu (by rfl) (fun _ => run_eq_of ?run) (fun _ => by simp [go_sem, *])) ⟨H.sub (A := [_, _]) (List.Sublist.cons_cons _ (List.Sublist.cons_cons _ (List.nil_sublist _))), hr⟩
  case run => intro K hK; go_simp; exact hK
  try walk_nrm
  co_applyP AnyF.take Sd.rely (i := 2) rfl (by kernel_rfl) (by kernel_rfl) (by kernel_rfl) (YF.pu (by rfl) (fun _ => run_eq_of ?run) (fun _ => by simp [go_sem, *])) ⟨H.sub (A := [_, _]) (List.Sublist.cons_cons _ (List.Sublist.cons_cons _ (List.nil_sublist _))), hr⟩
  case run => intro K hK; go_simp; exact hK
  try walk_nrm
  co_applyP AnyF.take Sd.rely (i := 3) rfl (by kernel_rfl) (by kernel_rfl) (by kernel_rfl) (YF.pu (by rfl) (fun _ => run_eq_of ?run) (fun _ => by simp [go_sem, *])) ⟨H.sub (A := [_, _]) (List.Sublist.cons_cons _ (List.Sublist.cons_cons _ (List.nil_sublist _))), hr⟩
  case run => intro K hK; go_simp; exact hK
  try walk_nrm
  co_applyP AnyF.take Sd.rely (i := 4) rfl (by kernel_rfl) (by kernel_rfl) (by kernel_rfl) (YF.pu (by rfl) (fun _ => run_eq_of ?run) (fun _ => by simp [go_sem, *])) ⟨H.sub (A := [_, _]) (List.Sublist.cons_cons _ (List.Sublist.cons_cons _ (List.nil_sublist _))), hr⟩
  case run => intro K hK; go_simp; exact hK
  try walk_nrm
  co_applyP AnyF.take Sd.rely (i := 5) rfl (by kernel_rfl) (by kernel_rfl) (by kernel_rfl) (YF.ld1 0 1 (by rfl) rfl (by rfl) rfl rfl rfl Try.underlying5 rfl) ⟨H.sub (A := [_, _]) (List.Sublist.cons_cons _ (List.Sublist.cons_cons _ (List.nil_sublist _))), hr⟩
  try walk_nrm
  co_applyP AnyF.take Sd.rely (i := 8) rfl (by kernel_rfl) (by kernel_rfl) (by kernel_rfl) (YF.pu (by rfl) (fun _ => run_eq_of ?run) (fun _ => by simp [go_sem, *])) ⟨H.sub (A := [_, _]) (List.Sublist.cons_cons _ (List.Sublist.cons_cons _ (List.nil_sublist _))), hr⟩
  case run => intro K hK; go_simp; exact hK
  try walk_nrm
  co_applyP AnyF.take Sd.rely (i := 9) rfl (by kernel_rfl) (by kernel_rfl) (by kernel_rfl) (YF.pu (by rfl) (fun _ => run_eq_of ?run) (fun _ => by simp [go_sem, *])) ⟨H.sub (A := [_, _]) (List.Sublist.cons_cons _ (List.Sublist.cons_cons _ (List.nil_sublist _))), hr⟩
  case run => intro K hK; go_simp; exact hK
  try walk_nrm
  co_applyP AnyF.take Sd.rely (i := 10) rfl (by kernel_rfl) (by kernel_rfl) (by kernel_rfl) (YF.pu (by rfl) (fun _ => run_eq_of ?run) (fun _ => by simp [go_sem, *])) ⟨H.sub (A := [_, _]) (List.Sublist.cons_cons _ (List.Sublist.cons_cons _ (List.nil_sublist _))), hr⟩
  case run => intro K hK; go_simp; exact hK
  try walk_nrm
  co_applyP AnyF.take Sd.rely (i := 11) rfl (by kernel_rfl) (by kernel_rfl) (by kernel_rfl) (YF.ld1 0 0 (by rfl) rfl (by rfl) rfl rfl rfl Try.underlying23 rfl) ⟨H.sub (A := [_, _]) (List.Sublist.cons_cons _ (List.Sublist.cons_cons _ (List.nil_sublist _))), hr⟩
  try walk_nrm
  co_applyP AnyF.take Sd.rely (i := 12) rfl (by kernel_rfl) (by kernel_rfl) (by kernel_rfl) (YF.pu (by rfl) (fun _ => run_eq_of ?run) (fun _ => by simp [go_sem, *])) ⟨H.sub (A := [_, _]) (List.Sublist.cons_cons _ (List.Sublist.cons_cons _ (List.nil_sublist _))), hr⟩
  case run => intro K hK; go_simp; exact hK
  try walk_nrm
  co_applyP AnyF.take Sd.rely (i := 13) rfl (by kernel_rfl) (by kernel_rfl) (by kernel_rfl) (YF.pu (by rfl) (fun _ => run_eq_of ?run) (fun _ => by simp [go_sem, *])) ⟨H.sub (A := [_, _]) (List.Sublist.cons_cons _ (List.Sublist.cons_cons _ (List.nil_sublist _))), hr⟩
  case run => intro K hK; go_simp; exact hK
  try walk_nrm
  co_applyP AnyF.take Sd.rely (i := 14) rfl (by kernel_rfl) (by kernel_rfl) (by kernel_rfl) (YF.ld1 1 0 (by rfl) rfl (by rfl) rfl rfl rfl Try.underlying3 rfl) ⟨H.sub (A := [_, _]) (List.Sublist.cons_cons _ (List.Sublist.cons_cons _ (List.nil_sublist _))), hr⟩
  try walk_nrm
  co_applyP AnyF.take Sd.rely (i := 15) rfl (by kernel_rfl) (by kernel_rfl) (by kernel_rfl) (YF.pu (by rfl) (fun _ => run_eq_of ?run) (fun _ => by simp [go_sem, *])) ⟨H.sub (A := [_, _]) (List.Sublist.cons_cons _ (List.Sublist.cons_cons _ (List.nil_sublist _))), hr⟩
  case run => intro K hK; go_simp; exact hK
  try walk_nrm
  co_applyP AnyF.take Sd.rely (i := 16) rfl (by kernel_rfl) (by kernel_rfl) (by kernel_rfl) (YF.pu (by rfl) (fun _ => run_eq_of ?run) (fun _ => by simp [go_sem, *])) ⟨H.sub (A := [_, _]) (List.Sublist.cons_cons _ (List.Sublist.cons_cons _ (List.nil_sublist _))), hr⟩
  case run => intro K hK; go_simp; exact hK
  try walk_nrm
  co_applyP AnyF.take Sd.rely (i := 17) rfl (by kernel_rfl) (by kernel_rfl) (by kernel_rfl) (YF.pu (by rfl) (fun _ => run_eq_of ?run) (fun _ => by simp [go_sem, *])) ⟨H.sub (A := [_, _]) (List.Sublist.cons_cons _ (List.Sublist.cons_cons _ (List.nil_sublist _))), hr⟩
  case run => intro K hK; go_simp; exact hK
  try walk_nrm
  co_applyP AnyF.take Sd.rely (i := 18) rfl (by kernel_rfl) (by kernel_rfl) (by kernel_rfl) (YF.pu (by rfl) (fun _ => run_eq_of ?run) (fun _ => by simp [go_sem, *])) ⟨H.sub (A := [_, _]) (List.Sublist.cons_cons _ (List.Sublist.cons_cons _ (List.nil_sublist _))), hr⟩
  case run => intro K hK; go_simp; exact hK
  try walk_nrm
  co_applyP AnyF.take Sd.rely (i := 19) rfl (by kernel_rfl) (by kernel_rfl) (by kernel_rfl) (YF.ld1 0 2 (by rfl) rfl (by rfl) rfl rfl rfl Try.underlying3 rfl) ⟨H.sub (A := [_, _]) (List.Sublist.cons_cons _ (List.Sublist.cons_cons _ (List.nil_sublist _))), hr⟩
  try walk_nrm
  co_applyP AnyF.take Sd.rely (i := 20) rfl (by kernel_rfl) (by kernel_rfl) (by kernel_rfl) (YF.pu (by rfl) (fun _ => run_eq_of ?run) (fun _ => by simp [go_sem, *])) ⟨H.sub (A := [_, _]) (List.Sublist.cons_cons _ (List.Sublist.cons_cons _ (List.nil_sublist _))), hr⟩
  case run => intro K hK; go_simp; exact hK
  try walk_nrm
  co_applyP AnyF.take Sd.rely (i := 21) rfl (by kernel_rfl) (by kernel_rfl) (by kernel_rfl) (YF.pu (by rfl) (fun _ => run_eq_of ?run) (fun _ => by simp [go_sem, *])) ⟨H.sub (A := [_, _]) (List.Sublist.cons_cons _ (List.Sublist.cons_cons _ (List.nil_sublist _))), hr⟩
  case run => intro K hK; go_simp; exact hK
  try walk_nrm
  co_applyP AnyF.take Sd.rely (i := 22) rfl (by kernel_rfl) (by kernel_rfl) (by kernel_rfl) (YF.pu (by rfl) (fun _ => run_eq_of ?run) (fun _ => by simp [go_sem, *])) ⟨H.sub (A := [_, _]) (List.Sublist.cons_cons _ (List.Sublist.cons_cons _ (List.nil_sublist _))), hr⟩
  case run => intro K hK; go_simp; exact hK
  try walk_nrm
  co_applyP AnyF.take Sd.rely (i := 23) rfl (by kernel_rfl) (by kernel_rfl) (by kernel_rfl) (YF.ld1 0 3 (by rfl) rfl (by rfl) rfl rfl rfl Try.underlying102 rfl) ⟨H.sub (A := [_, _]) (List.Sublist.cons_cons _ (List.Sublist.cons_cons _ (List.nil_sublist _))), hr⟩
  try walk_nrm
  refine AnyF.all (rs := [0, 29]) (by kernel_rfl) (by simp) ?_
  intro i hi
  simp only [List.mem_cons, List.not_mem_nil, or_false] at hi
  rcases hi with rfl | rfl
  · skip
    co_applyP OpF.cJ rfl (by rfl) rfl Try.func60 (by kernel_rfl) (by kernel_rfl) H
    intro K₀ w₁ hK0 H0
    co_apply Exists.intro
    co_apply And.intro
    · walk_nrm
      exact (hdeeds H0 hq).more (by omega)
    rintro _ K y' w hK2 ⟨rfl, hg1, H1⟩
    have hK1 := Nat.le_trans hK2 hK0
    clear hK2 hK0 H0
    replace hg := hg.trans hg1
    replace hr := hg1.role.trans hr
    have hq1 : y'.role.quiet = false := by rw [hr]; rfl
    replace hq := hq1
    replace H := H1
    clear hg1 H1 hq1 hK1
    try walk_nrm
    refine ⟨⟨H.sub (A := [_, _]) (List.Sublist.cons_cons _ (List.Sublist.cons_cons _ (List.nil_sublist _))), hr⟩, ?_⟩
    try walk_nrm
    co_applyP AnyF.take Sd.rely (i := 6) rfl (by kernel_rfl) (by kernel_rfl) (by kernel_rfl) (YF.pu (v := .agg #[.func (.func 79) #[] #[]]) (by rfl) (fun _ => by kernel_rfl) (fun _ => by kernel_rfl)) ⟨H.sub (A := [_, _]) (List.Sublist.cons_cons _ (List.Sublist.cons_cons _ (List.nil_sublist _))), hr⟩
    try walk_nrm
    co_applyP AnyF.take Sd.rely (i := 7) rfl (by kernel_rfl) (by kernel_rfl) (by kernel_rfl) (YF.pu (v := .func (.func 79) #[] #[]) (by rfl) (fun _ => by kernel_rfl) (fun _ => by kernel_rfl)) ⟨H.sub (A := [_, _]) (List.Sublist.cons_cons _ (List.Sublist.cons_cons _ (List.nil_sublist _))), hr⟩
    try walk_nrm
    refine AnyF.all (rs := [24, 29]) (by kernel_rfl) (by simp) ?_
    intro i hi
    simp only [List.mem_cons, List.not_mem_nil, or_false] at hi
    rcases hi with rfl | rfl
    · skip
      co_applyP OpF.cJ rfl (by rfl) rfl Try.func44 (by kernel_rfl) (by kernel_rfl) H
      intro K₀ w₁ hK0 H0
      co_apply Exists.intro
      co_apply And.intro
      · walk_nrm
        exact (hview u e (by omega) H0 hq).more (by omega)
      rintro _ K y' w hK2 ⟨rfl, hg1, H1⟩
      have hK1 := Nat.le_trans hK2 hK0
      clear hK2 hK0 H0
      replace hg := hg.trans hg1
      replace hr := hg1.role.trans hr
      have hq1 : y'.role.quiet = false := by rw [hr]; rfl
      replace hq := hq1
      replace H := H1
      clear hg1 H1 hq1 hK1
      try walk_nrm
      refine ⟨⟨H.sub (A := [_, _]) (List.Sublist.cons_cons _ (List.Sublist.cons_cons _ (List.nil_sublist _))), hr⟩, ?_⟩
      try walk_nrm
      refine AnyF.all (rs := [25, 29]) (by kernel_rfl) (by simp) ?_
      intro i hi
      simp only [List.mem_cons, List.not_mem_nil, or_false] at hi
      rcases hi with rfl | rfl
      · skip
        co_applyP OpF.cV rfl (by rfl) rfl rfl Try.func79 (by kernel_rfl) (by kernel_rfl) H
        intro K₀ w₁ hK0 H0
        co_apply Exists.intro
        co_apply And.intro
        · walk_nrm
          exact (hdeed _ u e hu H0 hq).more (by omega)
        rintro _ K y' w hK2 ⟨rfl, hg1, H1⟩
        have hK1 := Nat.le_trans hK2 hK0
        clear hK2 hK0 H0
        replace hg := hg.trans hg1
        replace hr := hg1.role.trans hr
        have hq1 : y'.role.quiet = false := by rw [hr]; rfl
        replace hq := hq1
        replace H := H1
        clear hg1 H1 hq1 hK1
        try walk_nrm
        refine ⟨⟨H.sub (A := [_, _]) (List.Sublist.cons_cons _ (List.Sublist.cons_cons _ (List.nil_sublist _))), hr⟩, ?_⟩
        try walk_nrm
        co_applyP AnyF.take Sd.rely (i := 26) rfl (by kernel_rfl) (by kernel_rfl) (by kernel_rfl) (YF.pu (by rfl) (fun _ => run_eq_of ?run) (fun _ => by simp [go_sem, *])) ⟨H.sub (A := [_, _]) (List.Sublist.cons_cons _ (List.Sublist.cons_cons _ (List.nil_sublist _))), hr⟩
        case run => intro K hK; go_simp; exact hK
        try walk_nrm
        co_applyP AnyF.take Sd.rely (i := 27) rfl (by kernel_rfl) (by kernel_rfl) (by kernel_rfl) (YF.pu (by rfl) (fun _ => run_eq_of ?run) (fun _ => by simp [go_sem, *])) ⟨H.sub (A := [_, _]) (List.Sublist.cons_cons _ (List.Sublist.cons_cons _ (List.nil_sublist _))), hr⟩
        case run => intro K hK; go_simp; exact hK
        try walk_nrm
        co_applyP AnyF.take Sd.rely (i := 28) rfl (by kernel_rfl) (by kernel_rfl) (by kernel_rfl) (YF.pu (by rfl) (fun _ => run_eq_of ?run) (fun _ => by simp [go_sem, *])) ⟨H.sub (A := [_, _]) (List.Sublist.cons_cons _ (List.Sublist.cons_cons _ (List.nil_sublist _))), hr⟩
        case run => intro K hK; go_simp; exact hK
        try walk_nrm
        refine AnyF.all (rs := [29]) (by kernel_rfl) (by simp) ?_
        intro i hi
        simp only [List.mem_cons, List.not_mem_nil, or_false] at hi
        subst hi
        co_applyP OpF.al rfl (by rfl) H (fun _ => run_eq_of ?run) (fun _ => by simp [go_sem, *])
        case run => intro K hK; go_simp; exact hK
        intro K y' w b2 hK1 hg1 H1
        replace hg := hg.trans hg1
        replace hr := hg1.role.trans hr
        have hq1 : y'.role.quiet = false := by rw [hr]; rfl
        replace hq := hq1
        replace H := H1
        clear hg1 H1 hq1 hK1
        try walk_nrm
        refine ⟨⟨H.sub (A := [_, _]) (List.Sublist.cons _ (List.Sublist.cons_cons _ (List.Sublist.cons_cons _ (List.nil_sublist _)))), hr⟩, ?_⟩
        try walk_nrm
        refine AnyF.all (rs := [30]) (by kernel_rfl) (by simp) ?_
        intro i hi
        simp only [List.mem_cons, List.not_mem_nil, or_false] at hi
        subst hi
        co_applyP OpF.str 0 rfl (by rfl) rfl H hq rfl rfl rfl (by kernel_rfl) (by rfl) (by kernel_rfl)
        intro K w hK1 H1
        replace H := H1
        clear hK1 H1
        simp only [List.set_cons_zero] at H
        refine ⟨⟨H.sub (A := [_, _]) (List.Sublist.cons _ (List.Sublist.cons_cons _ (List.Sublist.cons_cons _ (List.nil_sublist _)))), hr⟩, ?_⟩
        try walk_nrm
        co_applyP AnyF.take Sd.rely (i := 31) rfl (by kernel_rfl) (by kernel_rfl) (by kernel_rfl) (YF.pu (by rfl) (fun _ => run_eq_of ?run) (fun _ => by simp [go_sem, *])) ⟨H.sub (A := [_, _]) (List.Sublist.cons _ (List.Sublist.cons_cons _ (List.Sublist.cons_cons _ (List.nil_sublist _)))), hr⟩
        case run => intro K hK; go_simp; exact hK
        try walk_nrm
        co_apply AnyF.done (by kernel_rfl)
        intro K hK1 w hr1
        replace H := H.rely hr1
        clear hr1 hK1
        try simp only [thenF]
        co_apply WF.seqP
        co_apply WF.region
        try simp only [List.size_toArray, List.length_cons, List.length_nil, Nat.reduceAdd, Nat.zero_add, List.range, List.range.loop]
        co_applyP OF.pu rfl (by rfl) (fun _ => run_eq_of ?run) (fun _ => by simp [go_sem, *])
        case run => intro K hK; go_simp; exact hK
        try walk_nrm
        co_applyP OF.ldr 0 rfl (by rfl) rfl H hq rfl rfl Try.underlying38 rfl (by kernel_rfl)
        intro K w hK1 hr1 H1
        replace H := H1
        clear hr1 hK1 H1
        try walk_nrm
        co_applyP OF.callJ rfl (by rfl) rfl
        · walk_nrm
          exact hpacked (u + 1) true (by omega) H hq
        rintro _ K y' w hK1 ⟨rfl, hg1, H1⟩
        replace hg := hg.trans hg1
        replace hr := hg1.role.trans hr
        have hq1 : y'.role.quiet = false := by rw [hr]; rfl
        replace hq := hq1
        replace H := H1
        clear hg1 H1 hq1 hK1
        try walk_nrm
        co_applyP OF.pu rfl (by rfl) (fun _ => run_eq_of ?run) (fun _ => by simp [go_sem, *])
        case run => intro K hK; go_simp; exact hK
        try walk_nrm
        co_applyP OF.pu rfl (by rfl) (fun _ => run_eq_of ?run) (fun _ => by simp [go_sem, *])
        case run => intro K hK; go_simp; exact hK
        try walk_nrm
        co_applyP OF.st1 1 4 rfl (by rfl) rfl H hq rfl rfl rfl rfl rfl (by kernel_rfl)
        intro K w₁ w hK1 hr1 hu1 H1
        replace H := H1
        clear hr1 hK1 hu1 H1
        simp only [List.set_cons_zero, List.set_cons_succ, List.setIfInBounds_toArray] at H
        try walk_nrm
        co_apply OF.nil
        try simp only [thenF]
        co_apply WF.seqP
        co_apply WF.seqP
        have hne : ((wdv ((u + 1 : Nat) : Int) true).num == (wdv (u : Int) e).num) = false := by
          have : ¬ (wdv ((u + 1 : Nat) : Int) true).num = (wdv (u : Int) e).num := fun he => by have := (wdv_injL (by omega) (by omega) he).1; omega
          simpa using this
        have hne2 : ((wdv ((u : Int) + 1) true).num == (wdv (u : Int) e).num) = false := hne
        co_apply WF.drawnB B (nd + nv + ng) (Sd N _ _ _) (by simp only [List.size_toArray, List.length_cons, List.length_nil, Nat.reduceAdd, Nat.zero_add]; omega) (by kernel_rfl)
        intro K hK1 w₀ hr1
        replace H := (H.rely hr1).drew
        clear hr1 hK1
        generalize ({ w₀ with drawn := w₀.drawn + 1 } : World) = w at H ⊢
        try simp only [List.size_toArray, List.length_cons, List.length_nil, Nat.reduceAdd, Nat.zero_add]
        co_applyP AnyF.take Sd.rely (i := 0) rfl (by kernel_rfl) (by kernel_rfl) (by kernel_rfl) (YF.pu (by rfl) (fun _ => run_eq_of ?run) (fun _ => by simp [go_sem, *])) ⟨H.sub (A := [_, _]) (List.Sublist.cons _ (List.Sublist.cons_cons _ (List.Sublist.cons_cons _ (List.nil_sublist _)))), hr⟩
        case run => intro K hK; go_simp; exact hK
        try walk_nrm
        co_applyP AnyF.take Sd.rely (i := 1) rfl (by kernel_rfl) (by kernel_rfl) (by kernel_rfl) (YF.pu (by rfl) (fun _ => run_eq_of ?run) (fun _ => by simp [go_sem, *])) ⟨H.sub (A := [_, _]) (List.Sublist.cons _ (List.Sublist.cons_cons _ (List.Sublist.cons_cons _ (List.nil_sublist _)))), hr⟩
        case run => intro K hK; go_simp; exact hK
        try walk_nrm
        co_applyP AnyF.take Sd.rely (i := 2) rfl (by kernel_rfl) (by kernel_rfl) (by kernel_rfl) (YF.pu (by rfl) (fun _ => run_eq_of ?run) (fun _ => by simp [go_sem, *])) ⟨H.sub (A := [_, _]) (List.Sublist.cons _ (List.Sublist.cons_cons _ (List.Sublist.cons_cons _ (List.nil_sublist _)))), hr⟩
        case run => intro K hK; go_simp; exact hK
        try walk_nrm
        co_applyP AnyF.take Sd.rely (i := 3) rfl (by kernel_rfl) (by kernel_rfl) (by kernel_rfl) (YF.ld1 0 4 (by rfl) rfl (by rfl) rfl rfl rfl Try.underlying102 rfl) ⟨H.sub (A := [_, _]) (List.Sublist.cons _ (List.Sublist.cons_cons _ (List.Sublist.cons_cons _ (List.nil_sublist _)))), hr⟩
        try walk_nrm
        co_applyP AnyF.take Sd.rely (i := 4) rfl (by kernel_rfl) (by kernel_rfl) (by kernel_rfl) (YF.pu (by rfl) (fun _ => run_eq_of ?run) (fun _ => by simp [go_sem, *])) ⟨H.sub (A := [_, _]) (List.Sublist.cons _ (List.Sublist.cons_cons _ (List.Sublist.cons_cons _ (List.nil_sublist _)))), hr⟩
        case run => intro K hK; go_simp; exact hK
        try walk_nrm
        co_applyP AnyF.take Sd.rely (i := 5) rfl (by kernel_rfl) (by kernel_rfl) (by kernel_rfl) (YF.pu (by rfl) (fun _ => run_eq_of ?run) (fun _ => by simp [go_sem, *])) ⟨H.sub (A := [_, _]) (List.Sublist.cons _ (List.Sublist.cons_cons _ (List.Sublist.cons_cons _ (List.nil_sublist _)))), hr⟩
        case run => intro K hK; go_simp; exact hK
        try walk_nrm
        co_applyP AnyF.take Sd.rely (i := 6) rfl (by kernel_rfl) (by kernel_rfl) (by kernel_rfl) (YF.pu (by rfl) (fun _ => run_eq_of ?run) (fun _ => by simp [go_sem, *])) ⟨H.sub (A := [_, _]) (List.Sublist.cons _ (List.Sublist.cons_cons _ (List.Sublist.cons_cons _ (List.nil_sublist _)))), hr⟩
        case run => intro K hK; go_simp; exact hK
        try walk_nrm
        co_applyP AnyF.take Sd.rely (i := 7) rfl (by kernel_rfl) (by kernel_rfl) (by kernel_rfl) (YF.ld1 0 3 (by rfl) rfl (by rfl) rfl rfl rfl Try.underlying102 rfl) ⟨H.sub (A := [_, _]) (List.Sublist.cons _ (List.Sublist.cons_cons _ (List.Sublist.cons_cons _ (List.nil_sublist _)))), hr⟩
        try walk_nrm
        co_applyP AnyF.take Sd.rely (i := 8) rfl (by kernel_rfl) (by kernel_rfl) (by kernel_rfl) (YF.pu (by rfl) (fun _ => run_eq_of ?run) (fun _ => by simp [go_sem, *])) ⟨H.sub (A := [_, _]) (List.Sublist.cons _ (List.Sublist.cons_cons _ (List.Sublist.cons_cons _ (List.nil_sublist _)))), hr⟩
        case run => intro K hK; go_simp; exact hK
        try walk_nrm
        co_apply AnyF.done (by kernel_rfl)
        intro K hK1 w hr1
        replace H := H.rely hr1
        clear hr1 hK1
        try simp only [thenF]
        co_apply WF.cond (t := false) rfl
        simp only [Bool.false_eq_true, ↓reduceIte]
        co_apply WF.skip
        try simp only [thenF]
        co_apply WF.region
        try simp only [List.size_toArray, List.length_cons, List.length_nil, Nat.reduceAdd, Nat.zero_add, List.range, List.range.loop]
        co_applyP OF.pu rfl (by rfl) (fun _ => run_eq_of ?run) (fun _ => by simp [go_sem, *])
        case run => intro K hK; go_simp; exact hK
        try walk_nrm
        co_applyP OF.pu rfl (by rfl) (fun _ => run_eq_of ?run) (fun _ => by simp [go_sem, *])
        case run => intro K hK; go_simp; exact hK
        try walk_nrm
        co_applyP OF.pu rfl (by rfl) (fun _ => run_eq_of ?run) (fun _ => by simp [go_sem, *])
        case run => intro K hK; go_simp; exact hK
        try walk_nrm
        co_applyP OF.st1 1 5 rfl (by rfl) rfl H hq rfl rfl rfl rfl rfl (by kernel_rfl)
        intro K w₁ w hK1 hr1 hu1 H1
        replace H := H1
        clear hr1 hK1 hu1 H1
        simp only [List.set_cons_zero, List.set_cons_succ, List.setIfInBounds_toArray] at H
        try walk_nrm
        co_apply OF.nil
        exact retG_of rfl (resultsC_none (by rfl) _) (fun K₂ hK₂ w₂ r₂ => ⟨rfl, hg, _, (H.rely r₂).tail⟩)
      · skip
        co_applyP OpF.al rfl (by rfl) H (fun _ => run_eq_of ?run) (fun _ => by simp [go_sem, *])
        case run => intro K hK; go_simp; exact hK
        intro K y' w b2 hK1 hg1 H1
        replace hg := hg.trans hg1
        replace hr := hg1.role.trans hr
        have hq1 : y'.role.quiet = false := by rw [hr]; rfl
        replace hq := hq1
        replace H := H1
        clear hg1 H1 hq1 hK1
        try walk_nrm
        refine ⟨⟨H.sub (A := [_, _]) (List.Sublist.cons _ (List.Sublist.cons_cons _ (List.Sublist.cons_cons _ (List.nil_sublist _)))), hr⟩, ?_⟩
        try walk_nrm
        refine AnyF.all (rs := [25]) (by kernel_rfl) (by simp) ?_
        intro i hi
        simp only [List.mem_cons, List.not_mem_nil, or_false] at hi
        subst hi
        co_applyP OpF.cV rfl (by rfl) rfl rfl Try.func79 (by kernel_rfl) (by kernel_rfl) H
        intro K₀ w₁ hK0 H0
        co_apply Exists.intro
        co_apply And.intro
        · walk_nrm
          exact (hdeed _ u e hu H0 hq).more (by omega)
        rintro _ K y' w hK2 ⟨rfl, hg1, H1⟩
        have hK1 := Nat.le_trans hK2 hK0
        clear hK2 hK0 H0
        replace hg := hg.trans hg1
        replace hr := hg1.role.trans hr
        have hq1 : y'.role.quiet = false := by rw [hr]; rfl
        replace hq := hq1
        replace H := H1
        clear hg1 H1 hq1 hK1
        try walk_nrm
        refine ⟨⟨H.sub (A := [_, _]) (List.Sublist.cons _ (List.Sublist.cons_cons _ (List.Sublist.cons_cons _ (List.nil_sublist _)))), hr⟩, ?_⟩
        try walk_nrm
        co_applyP AnyF.take Sd.rely (i := 26) rfl (by kernel_rfl) (by kernel_rfl) (by kernel_rfl) (YF.pu (by rfl) (fun _ => run_eq_of ?run) (fun _ => by simp [go_sem, *])) ⟨H.sub (A := [_, _]) (List.Sublist.cons _ (List.Sublist.cons_cons _ (List.Sublist.cons_cons _ (List.nil_sublist _)))), hr⟩
        case run => intro K hK; go_simp; exact hK
        try walk_nrm
        co_applyP AnyF.take Sd.rely (i := 27) rfl (by kernel_rfl) (by kernel_rfl) (by kernel_rfl) (YF.pu (by rfl) (fun _ => run_eq_of ?run) (fun _ => by simp [go_sem, *])) ⟨H.sub (A := [_, _]) (List.Sublist.cons _ (List.Sublist.cons_cons _ (List.Sublist.cons_cons _ (List.nil_sublist _)))), hr⟩
        case run => intro K hK; go_simp; exact hK
        try walk_nrm
        co_applyP AnyF.take Sd.rely (i := 28) rfl (by kernel_rfl) (by kernel_rfl) (by kernel_rfl) (YF.pu (by rfl) (fun _ => run_eq_of ?run) (fun _ => by simp [go_sem, *])) ⟨H.sub (A := [_, _]) (List.Sublist.cons _ (List.Sublist.cons_cons _ (List.Sublist.cons_cons _ (List.nil_sublist _)))), hr⟩
        case run => intro K hK; go_simp; exact hK
        try walk_nrm
        refine AnyF.all (rs := [30]) (by kernel_rfl) (by simp) ?_
        intro i hi
        simp only [List.mem_cons, List.not_mem_nil, or_false] at hi
        subst hi
        co_applyP OpF.str 0 rfl (by rfl) rfl H hq rfl rfl rfl (by kernel_rfl) (by rfl) (by kernel_rfl)
        intro K w hK1 H1
        replace H := H1
        clear hK1 H1
        simp only [List.set_cons_zero] at H
        refine ⟨⟨H.sub (A := [_, _]) (List.Sublist.cons _ (List.Sublist.cons_cons _ (List.Sublist.cons_cons _ (List.nil_sublist _)))), hr⟩, ?_⟩
        try walk_nrm
        co_applyP AnyF.take Sd.rely (i := 31) rfl (by kernel_rfl) (by kernel_rfl) (by kernel_rfl) (YF.pu (by rfl) (fun _ => run_eq_of ?run) (fun _ => by simp [go_sem, *])) ⟨H.sub (A := [_, _]) (List.Sublist.cons _ (List.Sublist.cons_cons _ (List.Sublist.cons_cons _ (List.nil_sublist _)))), hr⟩
        case run => intro K hK; go_simp; exact hK
        try walk_nrm
        co_apply AnyF.done (by kernel_rfl)
        intro K hK1 w hr1
        replace H := H.rely hr1
        clear hr1 hK1
        try simp only [thenF]
        co_apply WF.seqP
        co_apply WF.region
        try simp only [List.size_toArray, List.length_cons, List.length_nil, Nat.reduceAdd, Nat.zero_add, List.range, List.range.loop]
        co_applyP OF.pu rfl (by rfl) (fun _ => run_eq_of ?run) (fun _ => by simp [go_sem, *])
        case run => intro K hK; go_simp; exact hK
        try walk_nrm
        co_applyP OF.ldr 0 rfl (by rfl) rfl H hq rfl rfl Try.underlying38 rfl (by kernel_rfl)
        intro K w hK1 hr1 H1
        replace H := H1
        clear hr1 hK1 H1
        try walk_nrm
        co_applyP OF.callJ rfl (by rfl) rfl
        · walk_nrm
          exact hpacked (u + 1) true (by omega) H hq
        rintro _ K y' w hK1 ⟨rfl, hg1, H1⟩
        replace hg := hg.trans hg1
        replace hr := hg1.role.trans hr
        have hq1 : y'.role.quiet = false := by rw [hr]; rfl
        replace hq := hq1
        replace H := H1
        clear hg1 H1 hq1 hK1
        try walk_nrm
        co_applyP OF.pu rfl (by rfl) (fun _ => run_eq_of ?run) (fun _ => by simp [go_sem, *])
        case run => intro K hK; go_simp; exact hK
        try walk_nrm
        co_applyP OF.pu rfl (by rfl) (fun _ => run_eq_of ?run) (fun _ => by simp [go_sem, *])
        case run => intro K hK; go_simp; exact hK
        try walk_nrm
        co_applyP OF.st1 1 4 rfl (by rfl) rfl H hq rfl rfl rfl rfl rfl (by kernel_rfl)
        intro K w₁ w hK1 hr1 hu1 H1
        replace H := H1
        clear hr1 hK1 hu1 H1
        simp only [List.set_cons_zero, List.set_cons_succ, List.setIfInBounds_toArray] at H
        try walk_nrm
        co_apply OF.nil
        try simp only [thenF]
        co_apply WF.seqP
        co_apply WF.seqP
        have hne : ((wdv ((u + 1 : Nat) : Int) true).num == (wdv (u : Int) e).num) = false := by
          have : ¬ (wdv ((u + 1 : Nat) : Int) true).num = (wdv (u : Int) e).num := fun he => by have := (wdv_injL (by omega) (by omega) he).1; omega
          simpa using this
        have hne2 : ((wdv ((u : Int) + 1) true).num == (wdv (u : Int) e).num) = false := hne
        co_apply WF.drawnB B (nd + nv + ng) (Sd N _ _ _) (by simp only [List.size_toArray, List.length_cons, List.length_nil, Nat.reduceAdd, Nat.zero_add]; omega) (by kernel_rfl)
        intro K hK1 w₀ hr1
        replace H := (H.rely hr1).drew
        clear hr1 hK1
        generalize ({ w₀ with drawn := w₀.drawn + 1 } : World) = w at H ⊢
        try simp only [List.size_toArray, List.length_cons, List.length_nil, Nat.reduceAdd, Nat.zero_add]
        co_applyP AnyF.take Sd.rely (i := 0) rfl (by kernel_rfl) (by kernel_rfl) (by kernel_rfl) (YF.pu (by rfl) (fun _ => run_eq_of ?run) (fun _ => by simp [go_sem, *])) ⟨H.sub (A := [_, _]) (List.Sublist.cons _ (List.Sublist.cons_cons _ (List.Sublist.cons_cons _ (List.nil_sublist _)))), hr⟩
        case run => intro K hK; go_simp; exact hK
        try walk_nrm
        co_applyP AnyF.take Sd.rely (i := 1) rfl (by kernel_rfl) (by kernel_rfl) (by kernel_rfl) (YF.pu (by rfl) (fun _ => run_eq_of ?run) (fun _ => by simp [go_sem, *])) ⟨H.sub (A := [_, _]) (List.Sublist.cons _ (List.Sublist.cons_cons _ (List.Sublist.cons_cons _ (List.nil_sublist _)))), hr⟩
        case run => intro K hK; go_simp; exact hK
        try walk_nrm
        co_applyP AnyF.take Sd.rely (i := 2) rfl (by kernel_rfl) (by kernel_rfl) (by kernel_rfl) (YF.pu (by rfl) (fun _ => run_eq_of ?run) (fun _ => by simp [go_sem, *])) ⟨H.sub (A := [_, _]) (List.Sublist.cons _ (List.Sublist.cons_cons _ (List.Sublist.cons_cons _ (List.nil_sublist _)))), hr⟩
        case run => intro K hK; go_simp; exact hK
        try walk_nrm
        co_applyP AnyF.take Sd.rely (i := 3) rfl (by kernel_rfl) (by kernel_rfl) (by kernel_rfl) (YF.ld1 0 4 (by rfl) rfl (by rfl) rfl rfl rfl Try.underlying102 rfl) ⟨H.sub (A := [_, _]) (List.Sublist.cons _ (List.Sublist.cons_cons _ (List.Sublist.cons_cons _ (List.nil_sublist _)))), hr⟩
        try walk_nrm
        co_applyP AnyF.take Sd.rely (i := 4) rfl (by kernel_rfl) (by kernel_rfl) (by kernel_rfl) (YF.pu (by rfl) (fun _ => run_eq_of ?run) (fun _ => by simp [go_sem, *])) ⟨H.sub (A := [_, _]) (List.Sublist.cons _ (List.Sublist.cons_cons _ (List.Sublist.cons_cons _ (List.nil_sublist _)))), hr⟩
        case run => intro K hK; go_simp; exact hK
        try walk_nrm
        co_applyP AnyF.take Sd.rely (i := 5) rfl (by kernel_rfl) (by kernel_rfl) (by kernel_rfl) (YF.pu (by rfl) (fun _ => run_eq_of ?run) (fun _ => by simp [go_sem, *])) ⟨H.sub (A := [_, _]) (List.Sublist.cons _ (List.Sublist.cons_cons _ (List.Sublist.cons_cons _ (List.nil_sublist _)))), hr⟩
        case run => intro K hK; go_simp; exact hK
        try walk_nrm
        co_applyP AnyF.take Sd.rely (i := 6) rfl (by kernel_rfl) (by kernel_rfl) (by kernel_rfl) (YF.pu (by rfl) (fun _ => run_eq_of ?run) (fun _ => by simp [go_sem, *])) ⟨H.sub (A := [_, _]) (List.Sublist.cons _ (List.Sublist.cons_cons _ (List.Sublist.cons_cons _ (List.nil_sublist _)))), hr⟩
        case run => intro K hK; go_simp; exact hK
        try walk_nrm
        co_applyP AnyF.take Sd.rely (i := 7) rfl (by kernel_rfl) (by kernel_rfl) (by kernel_rfl) (YF.ld1 0 3 (by rfl) rfl (by rfl) rfl rfl rfl Try.underlying102 rfl) ⟨H.sub (A := [_, _]) (List.Sublist.cons _ (List.Sublist.cons_cons _ (List.Sublist.cons_cons _ (List.nil_sublist _)))), hr⟩
        try walk_nrm
        co_applyP AnyF.take Sd.rely (i := 8) rfl (by kernel_rfl) (by kernel_rfl) (by kernel_rfl) (YF.pu (by rfl) (fun _ => run_eq_of ?run) (fun _ => by simp [go_sem, *])) ⟨H.sub (A := [_, _]) (List.Sublist.cons _ (List.Sublist.cons_cons _ (List.Sublist.cons_cons _ (List.nil_sublist _)))), hr⟩
        case run => intro K hK; go_simp; exact hK
        try walk_nrm
        co_apply AnyF.done (by kernel_rfl)
        intro K hK1 w hr1
        replace H := H.rely hr1
        clear hr1 hK1
        try simp only [thenF]
        co_apply WF.cond (t := false) rfl
        simp only [Bool.false_eq_true, ↓reduceIte]
        co_apply WF.skip
        try simp only [thenF]
        co_apply WF.region
        try simp only [List.size_toArray, List.length_cons, List.length_nil, Nat.reduceAdd, Nat.zero_add, List.range, List.range.loop]
        co_applyP OF.pu rfl (by rfl) (fun _ => run_eq_of ?run) (fun _ => by simp [go_sem, *])
        case run => intro K hK; go_simp; exact hK
        try walk_nrm
        co_applyP OF.pu rfl (by rfl) (fun _ => run_eq_of ?run) (fun _ => by simp [go_sem, *])
        case run => intro K hK; go_simp; exact hK
        try walk_nrm
        co_applyP OF.pu rfl (by rfl) (fun _ => run_eq_of ?run) (fun _ => by simp [go_sem, *])
        case run => intro K hK; go_simp; exact hK
        try walk_nrm
        co_applyP OF.st1 1 5 rfl (by rfl) rfl H hq rfl rfl rfl rfl rfl (by kernel_rfl)
        intro K w₁ w hK1 hr1 hu1 H1
        replace H := H1
        clear hr1 hK1 hu1 H1
        simp only [List.set_cons_zero, List.set_cons_succ, List.setIfInBounds_toArray] at H
        try walk_nrm
        co_apply OF.nil
        exact retG_of rfl (resultsC_none (by rfl) _) (fun K₂ hK₂ w₂ r₂ => ⟨rfl, hg, _, (H.rely r₂).tail⟩)
    · skip
      co_applyP OpF.al rfl (by rfl) H (fun _ => run_eq_of ?run) (fun _ => by simp [go_sem, *])
      case run => intro K hK; go_simp; exact hK
      intro K y' w b2 hK1 hg1 H1
      replace hg := hg.trans hg1
      replace hr := hg1.role.trans hr
      have hq1 : y'.role.quiet = false := by rw [hr]; rfl
      replace hq := hq1
      replace H := H1
      clear hg1 H1 hq1 hK1
      try walk_nrm
      refine ⟨⟨H.sub (A := [_, _]) (List.Sublist.cons _ (List.Sublist.cons_cons _ (List.Sublist.cons_cons _ (List.nil_sublist _)))), hr⟩, ?_⟩
      try walk_nrm
      refine AnyF.all (rs := [24]) (by kernel_rfl) (by simp) ?_
      intro i hi
      simp only [List.mem_cons, List.not_mem_nil, or_false] at hi
      subst hi
      co_applyP OpF.cJ rfl (by rfl) rfl Try.func44 (by kernel_rfl) (by kernel_rfl) H
      intro K₀ w₁ hK0 H0
      co_apply Exists.intro
      co_apply And.intro
      · walk_nrm
        exact (hview u e (by omega) H0 hq).more (by omega)
      rintro _ K y' w hK2 ⟨rfl, hg1, H1⟩
      have hK1 := Nat.le_trans hK2 hK0
      clear hK2 hK0 H0
      replace hg := hg.trans hg1
      replace hr := hg1.role.trans hr
      have hq1 : y'.role.quiet = false := by rw [hr]; rfl
      replace hq := hq1
      replace H := H1
      clear hg1 H1 hq1 hK1
      try walk_nrm
      refine ⟨⟨H.sub (A := [_, _]) (List.Sublist.cons _ (List.Sublist.cons_cons _ (List.Sublist.cons_cons _ (List.nil_sublist _)))), hr⟩, ?_⟩
      try walk_nrm
      refine AnyF.all (rs := [25]) (by kernel_rfl) (by simp) ?_
      intro i hi
      simp only [List.mem_cons, List.not_mem_nil, or_false] at hi
      subst hi
      co_applyP OpF.cV rfl (by rfl) rfl rfl Try.func79 (by kernel_rfl) (by kernel_rfl) H
      intro K₀ w₁ hK0 H0
      co_apply Exists.intro
      co_apply And.intro
      · walk_nrm
        exact (hdeed _ u e hu H0 hq).more (by omega)
      rintro _ K y' w hK2 ⟨rfl, hg1, H1⟩
      have hK1 := Nat.le_trans hK2 hK0
      clear hK2 hK0 H0
      replace hg := hg.trans hg1
      replace hr := hg1.role.trans hr
      have hq1 : y'.role.quiet = false := by rw [hr]; rfl
      replace hq := hq1
      replace H := H1
      clear hg1 H1 hq1 hK1
      try walk_nrm
      refine ⟨⟨H.sub (A := [_, _]) (List.Sublist.cons _ (List.Sublist.cons_cons _ (List.Sublist.cons_cons _ (List.nil_sublist _)))), hr⟩, ?_⟩
      try walk_nrm
      co_applyP AnyF.take Sd.rely (i := 26) rfl (by kernel_rfl) (by kernel_rfl) (by kernel_rfl) (YF.pu (by rfl) (fun _ => run_eq_of ?run) (fun _ => by simp [go_sem, *])) ⟨H.sub (A := [_, _]) (List.Sublist.cons _ (List.Sublist.cons_cons _ (List.Sublist.cons_cons _ (List.nil_sublist _)))), hr⟩
      case run => intro K hK; go_simp; exact hK
      try walk_nrm
      co_applyP AnyF.take Sd.rely (i := 27) rfl (by kernel_rfl) (by kernel_rfl) (by kernel_rfl) (YF.pu (by rfl) (fun _ => run_eq_of ?run) (fun _ => by simp [go_sem, *])) ⟨H.sub (A := [_, _]) (List.Sublist.cons _ (List.Sublist.cons_cons _ (List.Sublist.cons_cons _ (List.nil_sublist _)))), hr⟩
      case run => intro K hK; go_simp; exact hK
      try walk_nrm
      co_applyP AnyF.take Sd.rely (i := 28) rfl (by kernel_rfl) (by kernel_rfl) (by kernel_rfl) (YF.pu (by rfl) (fun _ => run_eq_of ?run) (fun _ => by simp [go_sem, *])) ⟨H.sub (A := [_, _]) (List.Sublist.cons _ (List.Sublist.cons_cons _ (List.Sublist.cons_cons _ (List.nil_sublist _)))), hr⟩
      case run => intro K hK; go_simp; exact hK
      try walk_nrm
      refine AnyF.all (rs := [30]) (by kernel_rfl) (by simp) ?_
      intro i hi
      simp only [List.mem_cons, List.not_mem_nil, or_false] at hi
      subst hi
      co_applyP OpF.str 0 rfl (by rfl) rfl H hq rfl rfl rfl (by kernel_rfl) (by rfl) (by kernel_rfl)
      intro K w hK1 H1
      replace H := H1
      clear hK1 H1
      simp only [List.set_cons_zero] at H
      refine ⟨⟨H.sub (A := [_, _]) (List.Sublist.cons _ (List.Sublist.cons_cons _ (List.Sublist.cons_cons _ (List.nil_sublist _)))), hr⟩, ?_⟩
      try walk_nrm
      co_applyP AnyF.take Sd.rely (i := 31) rfl (by kernel_rfl) (by kernel_rfl) (by kernel_rfl) (YF.pu (by rfl) (fun _ => run_eq_of ?run) (fun _ => by simp [go_sem, *])) ⟨H.sub (A := [_, _]) (List.Sublist.cons _ (List.Sublist.cons_cons _ (List.Sublist.cons_cons _ (List.nil_sublist _)))), hr⟩
      case run => intro K hK; go_simp; exact hK
      try walk_nrm
      co_apply AnyF.done (by kernel_rfl)
      intro K hK1 w hr1
      replace H := H.rely hr1
      clear hr1 hK1
      try simp only [thenF]
      co_apply WF.seqP
      co_apply WF.region
      try simp only [List.size_toArray, List.length_cons, List.length_nil, Nat.reduceAdd, Nat.zero_add, List.range, List.range.loop]
      co_applyP OF.pu rfl (by rfl) (fun _ => run_eq_of ?run) (fun _ => by simp [go_sem, *])
      case run => intro K hK; go_simp; exact hK
      try walk_nrm
      co_applyP OF.ldr 0 rfl (by rfl) rfl H hq rfl rfl Try.underlying38 rfl (by kernel_rfl)
      intro K w hK1 hr1 H1
      replace H := H1
      clear hr1 hK1 H1
      try walk_nrm
      co_applyP OF.callJ rfl (by rfl) rfl
      · walk_nrm
        exact hpacked (u + 1) true (by omega) H hq
      rintro _ K y' w hK1 ⟨rfl, hg1, H1⟩
      replace hg := hg.trans hg1
      replace hr := hg1.role.trans hr
      have hq1 : y'.role.quiet = false := by rw [hr]; rfl
      replace hq := hq1
      replace H := H1
      clear hg1 H1 hq1 hK1
      try walk_nrm
      co_applyP OF.pu rfl (by rfl) (fun _ => run_eq_of ?run) (fun _ => by simp [go_sem, *])
      case run => intro K hK; go_simp; exact hK
      try walk_nrm
      co_applyP OF.pu rfl (by rfl) (fun _ => run_eq_of ?run) (fun _ => by simp [go_sem, *])
      case run => intro K hK; go_simp; exact hK
      try walk_nrm
      co_applyP OF.st1 1 4 rfl (by rfl) rfl H hq rfl rfl rfl rfl rfl (by kernel_rfl)
      intro K w₁ w hK1 hr1 hu1 H1
      replace H := H1
      clear hr1 hK1 hu1 H1
      simp only [List.set_cons_zero, List.set_cons_succ, List.setIfInBounds_toArray] at H
      try walk_nrm
      co_apply OF.nil
      try simp only [thenF]
      co_apply WF.seqP
      co_apply WF.seqP
      have hne : ((wdv ((u + 1 : Nat) : Int) true).num == (wdv (u : Int) e).num) = false := by
        have : ¬ (wdv ((u + 1 : Nat) : Int) true).num = (wdv (u : Int) e).num := fun he => by have := (wdv_injL (by omega) (by omega) he).1; omega
        simpa using this
      have hne2 : ((wdv ((u : Int) + 1) true).num == (wdv (u : Int) e).num) = false := hne
      co_apply WF.drawnB B (nd + nv + ng) (Sd N _ _ _) (by simp only [List.size_toArray, List.length_cons, List.length_nil, Nat.reduceAdd, Nat.zero_add]; omega) (by kernel_rfl)
      intro K hK1 w₀ hr1
      replace H := (H.rely hr1).drew
      clear hr1 hK1
      generalize ({ w₀ with drawn := w₀.drawn + 1 } : World) = w at H ⊢
      try simp only [List.size_toArray, List.length_cons, List.length_nil, Nat.reduceAdd, Nat.zero_add]
      co_applyP AnyF.take Sd.rely (i := 0) rfl (by kernel_rfl) (by kernel_rfl) (by kernel_rfl) (YF.pu (by rfl) (fun _ => run_eq_of ?run) (fun _ => by simp [go_sem, *])) ⟨H.sub (A := [_, _]) (List.Sublist.cons _ (List.Sublist.cons_cons _ (List.Sublist.cons_cons _ (List.nil_sublist _)))), hr⟩
      case run => intro K hK; go_simp; exact hK
      try walk_nrm
      co_applyP AnyF.take Sd.rely (i := 1) rfl (by kernel_rfl) (by kernel_rfl) (by kernel_rfl) (YF.pu (by rfl) (fun _ => run_eq_of ?run) (fun _ => by simp [go_sem, *])) ⟨H.sub (A := [_, _]) (List.Sublist.cons _ (List.Sublist.cons_cons _ (List.Sublist.cons_cons _ (List.nil_sublist _)))), hr⟩
      case run => intro K hK; go_simp; exact hK
      try walk_nrm
      co_applyP AnyF.take Sd.rely (i := 2) rfl (by kernel_rfl) (by kernel_rfl) (by kernel_rfl) (YF.pu (by rfl) (fun _ => run_eq_of ?run) (fun _ => by simp [go_sem, *])) ⟨H.sub (A := [_, _]) (List.Sublist.cons _ (List.Sublist.cons_cons _ (List.Sublist.cons_cons _ (List.nil_sublist _)))), hr⟩
      case run => intro K hK; go_simp; exact hK
      try walk_nrm
      co_applyP AnyF.take Sd.rely (i := 3) rfl (by kernel_rfl) (by kernel_rfl) (by kernel_rfl) (YF.ld1 0 4 (by rfl) rfl (by rfl) rfl rfl rfl Try.underlying102 rfl) ⟨H.sub (A := [_, _]) (List.Sublist.cons _ (List.Sublist.cons_cons _ (List.Sublist.cons_cons _ (List.nil_sublist _)))), hr⟩
      try walk_nrm
      co_applyP AnyF.take Sd.rely (i := 4) rfl (by kernel_rfl) (by kernel_rfl) (by kernel_rfl) (YF.pu (by rfl) (fun _ => run_eq_of ?run) (fun _ => by simp [go_sem, *])) ⟨H.sub (A := [_, _]) (List.Sublist.cons _ (List.Sublist.cons_cons _ (List.Sublist.cons_cons _ (List.nil_sublist _)))), hr⟩
      case run => intro K hK; go_simp; exact hK
      try walk_nrm
      co_applyP AnyF.take Sd.rely (i := 5) rfl (by kernel_rfl) (by kernel_rfl) (by kernel_rfl) (YF.pu (by rfl) (fun _ => run_eq_of ?run) (fun _ => by simp [go_sem, *])) ⟨H.sub (A := [_, _]) (List.Sublist.cons _ (List.Sublist.cons_cons _ (List.Sublist.cons_cons _ (List.nil_sublist _)))), hr⟩
      case run => intro K hK; go_simp; exact hK
      try walk_nrm
      co_applyP AnyF.take Sd.rely (i := 6) rfl (by kernel_rfl) (by kernel_rfl) (by kernel_rfl) (YF.pu (by rfl) (fun _ => run_eq_of ?run) (fun _ => by simp [go_sem, *])) ⟨H.sub (A := [_, _]) (List.Sublist.cons _ (List.Sublist.cons_cons _ (List.Sublist.cons_cons _ (List.nil_sublist _)))), hr⟩
      case run => intro K hK; go_simp; exact hK
      try walk_nrm
      co_applyP AnyF.take Sd.rely (i := 7) rfl (by kernel_rfl) (by kernel_rfl) (by kernel_rfl) (YF.ld1 0 3 (by rfl) rfl (by rfl) rfl rfl rfl Try.underlying102 rfl) ⟨H.sub (A := [_, _]) (List.Sublist.cons _ (List.Sublist.cons_cons _ (List.Sublist.cons_cons _ (List.nil_sublist _)))), hr⟩
      try walk_nrm
      co_applyP AnyF.take Sd.rely (i := 8) rfl (by kernel_rfl) (by kernel_rfl) (by kernel_rfl) (YF.pu (by rfl) (fun _ => run_eq_of ?run) (fun _ => by simp [go_sem, *])) ⟨H.sub (A := [_, _]) (List.Sublist.cons _ (List.Sublist.cons_cons _ (List.Sublist.cons_cons _ (List.nil_sublist _)))), hr⟩
      case run => intro K hK; go_simp; exact hK
      try walk_nrm
      co_apply AnyF.done (by kernel_rfl)
      intro K hK1 w hr1
      replace H := H.rely hr1
      clear hr1 hK1
      try simp only [thenF]
      co_apply WF.cond (t := false) rfl
      simp only [Bool.false_eq_true, ↓reduceIte]
      co_apply WF.skip
      try simp only [thenF]
      co_apply WF.region
      try simp only [List.size_toArray, List.length_cons, List.length_nil, Nat.reduceAdd, Nat.zero_add, List.range, List.range.loop]
      co_applyP OF.pu rfl (by rfl) (fun _ => run_eq_of ?run) (fun _ => by simp [go_sem, *])
      case run => intro K hK; go_simp; exact hK
      try walk_nrm
      co_applyP OF.pu rfl (by rfl) (fun _ => run_eq_of ?run) (fun _ => by simp [go_sem, *])
      case run => intro K hK; go_simp; exact hK
      try walk_nrm
      co_applyP OF.pu rfl (by rfl) (fun _ => run_eq_of ?run) (fun _ => by simp [go_sem, *])
      case run => intro K hK; go_simp; exact hK
      try walk_nrm
      co_applyP OF.st1 1 5 rfl (by rfl) rfl H hq rfl rfl rfl rfl rfl (by kernel_rfl)
      intro K w₁ w hK1 hr1 hu1 H1
      replace H := H1
      clear hr1 hK1 hu1 H1
      simp only [List.set_cons_zero, List.set_cons_succ, List.setIfInBounds_toArray] at H
      try walk_nrm
      co_apply OF.nil
      exact retG_of rfl (resultsC_none (by rfl) _) (fun K₂ hK₂ w₂ r₂ => ⟨rfl, hg, _, (H.rely r₂).tail⟩)
  · skip
    co_applyP OpF.al rfl (by rfl) H (fun _ => run_eq_of ?run) (fun _ => by simp [go_sem, *])
    case run => intro K hK; go_simp; exact hK
    intro K y' w b2 hK1 hg1 H1
    replace hg := hg.trans hg1
    replace hr := hg1.role.trans hr
    have hq1 : y'.role.quiet = false := by rw [hr]; rfl
    replace hq := hq1
    replace H := H1
    clear hg1 H1 hq1 hK1
    try walk_nrm
    refine ⟨⟨H.sub (A := [_, _]) (List.Sublist.cons _ (List.Sublist.cons_cons _ (List.Sublist.cons_cons _ (List.nil_sublist _)))), hr⟩, ?_⟩
    try walk_nrm
    refine AnyF.all (rs := [0]) (by kernel_rfl) (by simp) ?_
    intro i hi
    simp only [List.mem_cons, List.not_mem_nil, or_false] at hi
    subst hi
    co_applyP OpF.cJ rfl (by rfl) rfl Try.func60 (by kernel_rfl) (by kernel_rfl) H
    intro K₀ w₁ hK0 H0
    co_apply Exists.intro
    co_apply And.intro
    · walk_nrm
      exact (hdeeds H0 hq).more (by omega)
    rintro _ K y' w hK2 ⟨rfl, hg1, H1⟩
    have hK1 := Nat.le_trans hK2 hK0
    clear hK2 hK0 H0
    replace hg := hg.trans hg1
    replace hr := hg1.role.trans hr
    have hq1 : y'.role.quiet = false := by rw [hr]; rfl
    replace hq := hq1
    replace H := H1
    clear hg1 H1 hq1 hK1
    try walk_nrm
    refine ⟨⟨H.sub (A := [_, _]) (List.Sublist.cons _ (List.Sublist.cons_cons _ (List.Sublist.cons_cons _ (List.nil_sublist _)))), hr⟩, ?_⟩
    try walk_nrm
    co_applyP AnyF.take Sd.rely (i := 6) rfl (by kernel_rfl) (by kernel_rfl) (by kernel_rfl) (YF.pu (v := .agg #[.func (.func 79) #[] #[]]) (by rfl) (fun _ => by kernel_rfl) (fun _ => by kernel_rfl)) ⟨H.sub (A := [_, _]) (List.Sublist.cons _ (List.Sublist.cons_cons _ (List.Sublist.cons_cons _ (List.nil_sublist _)))), hr⟩
    try walk_nrm
    co_applyP AnyF.take Sd.rely (i := 7) rfl (by kernel_rfl) (by kernel_rfl) (by kernel_rfl) (YF.pu (v := .func (.func 79) #[] #[]) (by rfl) (fun _ => by kernel_rfl) (fun _ => by kernel_rfl)) ⟨H.sub (A := [_, _]) (List.Sublist.cons _ (List.Sublist.cons_cons _ (List.Sublist.cons_cons _ (List.nil_sublist _)))), hr⟩
    try walk_nrm
    refine AnyF.all (rs := [24]) (by kernel_rfl) (by simp) ?_
    intro i hi
    simp only [List.mem_cons, List.not_mem_nil, or_false] at hi
    subst hi
    co_applyP OpF.cJ rfl (by rfl) rfl Try.func44 (by kernel_rfl) (by kernel_rfl) H
    intro K₀ w₁ hK0 H0
    co_apply Exists.intro
    co_apply And.intro
    · walk_nrm
      exact (hview u e (by omega) H0 hq).more (by omega)
    rintro _ K y' w hK2 ⟨rfl, hg1, H1⟩
    have hK1 := Nat.le_trans hK2 hK0
    clear hK2 hK0 H0
    replace hg := hg.trans hg1
    replace hr := hg1.role.trans hr
    have hq1 : y'.role.quiet = false := by rw [hr]; rfl
    replace hq := hq1
    replace H := H1
    clear hg1 H1 hq1 hK1
    try walk_nrm
    refine ⟨⟨H.sub (A := [_, _]) (List.Sublist.cons _ (List.Sublist.cons_cons _ (List.Sublist.cons_cons _ (List.nil_sublist _)))), hr⟩, ?_⟩
    try walk_nrm
    refine AnyF.all (rs := [25]) (by kernel_rfl) (by simp) ?_
    intro i hi
    simp only [List.mem_cons, List.not_mem_nil, or_false] at hi
    subst hi
    co_applyP OpF.cV rfl (by rfl) rfl rfl Try.func79 (by kernel_rfl) (by kernel_rfl) H
    intro K₀ w₁ hK0 H0
    co_apply Exists.intro
    co_apply And.intro
    · walk_nrm
      exact (hdeed _ u e hu H0 hq).more (by omega)
    rintro _ K y' w hK2 ⟨rfl, hg1, H1⟩
    have hK1 := Nat.le_trans hK2 hK0
    clear hK2 hK0 H0
    replace hg := hg.trans hg1
    replace hr := hg1.role.trans hr
    have hq1 : y'.role.quiet = false := by rw [hr]; rfl
    replace hq := hq1
    replace H := H1
    clear hg1 H1 hq1 hK1
    try walk_nrm
    refine ⟨⟨H.sub (A := [_, _]) (List.Sublist.cons _ (List.Sublist.cons_cons _ (List.Sublist.cons_cons _ (List.nil_sublist _)))), hr⟩, ?_⟩
    try walk_nrm
    co_applyP AnyF.take Sd.rely (i := 26) rfl (by kernel_rfl) (by kernel_rfl) (by kernel_rfl) (YF.pu (by rfl) (fun _ => run_eq_of ?run) (fun _ => by simp [go_sem, *])) ⟨H.sub (A := [_, _]) (List.Sublist.cons _ (List.Sublist.cons_cons _ (List.Sublist.cons_cons _ (List.nil_sublist _)))), hr⟩
    case run => intro K hK; go_simp; exact hK
    try walk_nrm
    co_applyP AnyF.take Sd.rely (i := 27) rfl (by kernel_rfl) (by kernel_rfl) (by kernel_rfl) (YF.pu (by rfl) (fun _ => run_eq_of ?run) (fun _ => by simp [go_sem, *])) ⟨H.sub (A := [_, _]) (List.Sublist.cons _ (List.Sublist.cons_cons _ (List.Sublist.cons_cons _ (List.nil_sublist _)))), hr⟩
    case run => intro K hK; go_simp; exact hK
    try walk_nrm
    co_applyP AnyF.take Sd.rely (i := 28) rfl (by kernel_rfl) (by kernel_rfl) (by kernel_rfl) (YF.pu (by rfl) (fun _ => run_eq_of ?run) (fun _ => by simp [go_sem, *])) ⟨H.sub (A := [_, _]) (List.Sublist.cons _ (List.Sublist.cons_cons _ (List.Sublist.cons_cons _ (List.nil_sublist _)))), hr⟩
    case run => intro K hK; go_simp; exact hK
    try walk_nrm
    refine AnyF.all (rs := [30]) (by kernel_rfl) (by simp) ?_
    intro i hi
    simp only [List.mem_cons, List.not_mem_nil, or_false] at hi
    subst hi
    co_applyP OpF.str 0 rfl (by rfl) rfl H hq rfl rfl rfl (by kernel_rfl) (by rfl) (by kernel_rfl)
    intro K w hK1 H1
    replace H := H1
    clear hK1 H1
    simp only [List.set_cons_zero] at H
    refine ⟨⟨H.sub (A := [_, _]) (List.Sublist.cons _ (List.Sublist.cons_cons _ (List.Sublist.cons_cons _ (List.nil_sublist _)))), hr⟩, ?_⟩
    try walk_nrm
    co_applyP AnyF.take Sd.rely (i := 31) rfl (by kernel_rfl) (by kernel_rfl) (by kernel_rfl) (YF.pu (by rfl) (fun _ => run_eq_of ?run) (fun _ => by simp [go_sem, *])) ⟨H.sub (A := [_, _]) (List.Sublist.cons _ (List.Sublist.cons_cons _ (List.Sublist.cons_cons _ (List.nil_sublist _)))), hr⟩
    case run => intro K hK; go_simp; exact hK
    try walk_nrm
    co_apply AnyF.done (by kernel_rfl)
    intro K hK1 w hr1
    replace H := H.rely hr1
    clear hr1 hK1
    try simp only [thenF]
    co_apply WF.seqP
    co_apply WF.region
    try simp only [List.size_toArray, List.length_cons, List.length_nil, Nat.reduceAdd, Nat.zero_add, List.range, List.range.loop]
    co_applyP OF.pu rfl (by rfl) (fun _ => run_eq_of ?run) (fun _ => by simp [go_sem, *])
    case run => intro K hK; go_simp; exact hK
    try walk_nrm
    co_applyP OF.ldr 0 rfl (by rfl) rfl H hq rfl rfl Try.underlying38 rfl (by kernel_rfl)
    intro K w hK1 hr1 H1
    replace H := H1
    clear hr1 hK1 H1
    try walk_nrm
    co_applyP OF.callJ rfl (by rfl) rfl
    · walk_nrm
      exact hpacked (u + 1) true (by omega) H hq
    rintro _ K y' w hK1 ⟨rfl, hg1, H1⟩
    replace hg := hg.trans hg1
    replace hr := hg1.role.trans hr
    have hq1 : y'.role.quiet = false := by rw [hr]; rfl
    replace hq := hq1
    replace H := H1
    clear hg1 H1 hq1 hK1
    try walk_nrm
    co_applyP OF.pu rfl (by rfl) (fun _ => run_eq_of ?run) (fun _ => by simp [go_sem, *])
    case run => intro K hK; go_simp; exact hK
    try walk_nrm
    co_applyP OF.pu rfl (by rfl) (fun _ => run_eq_of ?run) (fun _ => by simp [go_sem, *])
    case run => intro K hK; go_simp; exact hK
    try walk_nrm
    co_applyP OF.st1 1 4 rfl (by rfl) rfl H hq rfl rfl rfl rfl rfl (by kernel_rfl)
    intro K w₁ w hK1 hr1 hu1 H1
    replace H := H1
    clear hr1 hK1 hu1 H1
    simp only [List.set_cons_zero, List.set_cons_succ, List.setIfInBounds_toArray] at H
    try walk_nrm
    co_apply OF.nil
    try simp only [thenF]
    co_apply WF.seqP
    co_apply WF.seqP
    have hne : ((wdv ((u + 1 : Nat) : Int) true).num == (wdv (u : Int) e).num) = false := by
      have : ¬ (wdv ((u + 1 : Nat) : Int) true).num = (wdv (u : Int) e).num := fun he => by have := (wdv_injL (by omega) (by omega) he).1; omega
      simpa using this
    have hne2 : ((wdv ((u : Int) + 1) true).num == (wdv (u : Int) e).num) = false := hne
    co_apply WF.drawnB B (nd + nv + ng) (Sd N _ _ _) (by simp only [List.size_toArray, List.length_cons, List.length_nil, Nat.reduceAdd, Nat.zero_add]; omega) (by kernel_rfl)
    intro K hK1 w₀ hr1
    replace H := (H.rely hr1).drew
    clear hr1 hK1
    generalize ({ w₀ with drawn := w₀.drawn + 1 } : World) = w at H ⊢
    try simp only [List.size_toArray, List.length_cons, List.length_nil, Nat.reduceAdd, Nat.zero_add]
    co_applyP AnyF.take Sd.rely (i := 0) rfl (by kernel_rfl) (by kernel_rfl) (by kernel_rfl) (YF.pu (by rfl) (fun _ => run_eq_of ?run) (fun _ => by simp [go_sem, *])) ⟨H.sub (A := [_, _]) (List.Sublist.cons _ (List.Sublist.cons_cons _ (List.Sublist.cons_cons _ (List.nil_sublist _)))), hr⟩
    case run => intro K hK; go_simp; exact hK
    try walk_nrm
    co_applyP AnyF.take Sd.rely (i := 1) rfl (by kernel_rfl) (by kernel_rfl) (by kernel_rfl) (YF.pu (by rfl) (fun _ => run_eq_of ?run) (fun _ => by simp [go_sem, *])) ⟨H.sub (A := [_, _]) (List.Sublist.cons _ (List.Sublist.cons_cons _ (List.Sublist.cons_cons _ (List.nil_sublist _)))), hr⟩
    case run => intro K hK; go_simp; exact hK
    try walk_nrm
    co_applyP AnyF.take Sd.rely (i := 2) rfl (by kernel_rfl) (by kernel_rfl) (by kernel_rfl) (YF.pu (by rfl) (fun _ => run_eq_of ?run) (fun _ => by simp [go_sem, *])) ⟨H.sub (A := [_, _]) (List.Sublist.cons _ (List.Sublist.cons_cons _ (List.Sublist.cons_cons _ (List.nil_sublist _)))), hr⟩
    case run => intro K hK; go_simp; exact hK
    try walk_nrm
    co_applyP AnyF.take Sd.rely (i := 3) rfl (by kernel_rfl) (by kernel_rfl) (by kernel_rfl) (YF.ld1 0 4 (by rfl) rfl (by rfl) rfl rfl rfl Try.underlying102 rfl) ⟨H.sub (A := [_, _]) (List.Sublist.cons _ (List.Sublist.cons_cons _ (List.Sublist.cons_cons _ (List.nil_sublist _)))), hr⟩
    try walk_nrm
    co_applyP AnyF.take Sd.rely (i := 4) rfl (by kernel_rfl) (by kernel_rfl) (by kernel_rfl) (YF.pu (by rfl) (fun _ => run_eq_of ?run) (fun _ => by simp [go_sem, *])) ⟨H.sub (A := [_, _]) (List.Sublist.cons _ (List.Sublist.cons_cons _ (List.Sublist.cons_cons _ (List.nil_sublist _)))), hr⟩
    case run => intro K hK; go_simp; exact hK
    try walk_nrm
    co_applyP AnyF.take Sd.rely (i := 5) rfl (by kernel_rfl) (by kernel_rfl) (by kernel_rfl) (YF.pu (by rfl) (fun _ => run_eq_of ?run) (fun _ => by simp [go_sem, *])) ⟨H.sub (A := [_, _]) (List.Sublist.cons _ (List.Sublist.cons_cons _ (List.Sublist.cons_cons _ (List.nil_sublist _)))), hr⟩
    case run => intro K hK; go_simp; exact hK
    try walk_nrm
    co_applyP AnyF.take Sd.rely (i := 6) rfl (by kernel_rfl) (by kernel_rfl) (by kernel_rfl) (YF.pu (by rfl) (fun _ => run_eq_of ?run) (fun _ => by simp [go_sem, *])) ⟨H.sub (A := [_, _]) (List.Sublist.cons _ (List.Sublist.cons_cons _ (List.Sublist.cons_cons _ (List.nil_sublist _)))), hr⟩
    case run => intro K hK; go_simp; exact hK
    try walk_nrm
    co_applyP AnyF.take Sd.rely (i := 7) rfl (by kernel_rfl) (by kernel_rfl) (by kernel_rfl) (YF.ld1 0 3 (by rfl) rfl (by rfl) rfl rfl rfl Try.underlying102 rfl) ⟨H.sub (A := [_, _]) (List.Sublist.cons _ (List.Sublist.cons_cons _ (List.Sublist.cons_cons _ (List.nil_sublist _)))), hr⟩
    try walk_nrm
    co_applyP AnyF.take Sd.rely (i := 8) rfl (by kernel_rfl) (by kernel_rfl) (by kernel_rfl) (YF.pu (by rfl) (fun _ => run_eq_of ?run) (fun _ => by simp [go_sem, *])) ⟨H.sub (A := [_, _]) (List.Sublist.cons _ (List.Sublist.cons_cons _ (List.Sublist.cons_cons _ (List.nil_sublist _)))), hr⟩
    case run => intro K hK; go_simp; exact hK
    try walk_nrm
    co_apply AnyF.done (by kernel_rfl)
    intro K hK1 w hr1
    replace H := H.rely hr1
    clear hr1 hK1
    try simp only [thenF]
    co_apply WF.cond (t := false) rfl
    simp only [Bool.false_eq_true, ↓reduceIte]
    co_apply WF.skip
    try simp only [thenF]
    co_apply WF.region
    try simp only [List.size_toArray, List.length_cons, List.length_nil, Nat.reduceAdd, Nat.zero_add, List.range, List.range.loop]
    co_applyP OF.pu rfl (by rfl) (fun _ => run_eq_of ?run) (fun _ => by simp [go_sem, *])
    case run => intro K hK; go_simp; exact hK
    try walk_nrm
    co_applyP OF.pu rfl (by rfl) (fun _ => run_eq_of ?run) (fun _ => by simp [go_sem, *])
    case run => intro K hK; go_simp; exact hK
    try walk_nrm
    co_applyP OF.pu rfl (by rfl) (fun _ => run_eq_of ?run) (fun _ => by simp [go_sem, *])
    case run => intro K hK; go_simp; exact hK
    try walk_nrm
    co_applyP OF.st1 1 5 rfl (by rfl) rfl H hq rfl rfl rfl rfl rfl (by kernel_rfl)
    intro K w₁ w hK1 hr1 hu1 H1
    replace H := H1
    clear hr1 hK1 hu1 H1
    simp only [List.set_cons_zero, List.set_cons_succ, List.setIfInBounds_toArray] at H
    try walk_nrm
    co_apply OF.nil
    exact retG_of rfl (resultsC_none (by rfl) _) (fun K₂ hK₂ w₂ r₂ => ⟨rfl, hg, _, (H.rely r₂).tail⟩)

set_option maxHeartbeats 8000000 in
set_option maxRecDepth 100000 in
theorem osweep_same : ∃ nf, ∀ {N : Nat} {F : Nat → World → Prop} {m : Bool} {y : Gh Role} {K : Nat} {w : World} {l : List Row} (sh : Nat → Prop) (g ba : Nat) (d was nxt code tries : Int) (u : Nat) (e : Bool) (_ : u < 65535) (_ : 0 < u ∨ e = false) (_ : y.role = .alone sh) (_ : Ctx N F y K w ((ba, #[.pointer (some ⟨g, 0, none⟩), .int .u8 3, .int .i64 2147483647, .int .u64 was, .int .u64 nxt, .bool false, .bool false, .int .i64 code, .int .i64 tries], 106) :: (g, #[.int .i64 d, .int .u64 (wdv (u : Int) e).num], 100) :: l)),
    CJ (S N) m 45 #[.pointer (some ⟨ba, 0, none⟩)] nf (fun r K' y' w' => r = .tuple #[] ∧ Gr y y' ∧ ∃ code' : Int, Ctx N F y' K' w' ((ba, #[.pointer (some ⟨g, 0, none⟩), .int .u8 3, .int .i64 2147483647, .int .u64 (wdv (u : Int) e).num, .int .u64 (wdv (u : Int) e).num, .bool false, .bool true, .int .i64 code', .int .i64 tries], 106) :: (g, #[.int .i64 d, .int .u64 (wdv (u : Int) e).num], 100) :: l)) K y w := by
  obtain ⟨nl, hload⟩ := load_o
  obtain ⟨nd, hdeeds⟩ := deeds_c
  obtain ⟨nv, hview⟩ := view_wL
  obtain ⟨ng, hdeed⟩ := sweepu_w
  obtain ⟨np, hpacked⟩ := packed_wL
  obtain ⟨B, hB⟩ : ∃ B, 40 * (nd + nv + ng + 1) + 2 ≤ B := ⟨_, Nat.le_refl _⟩
  co_apply Exists.intro
  intro N F m y K w l sh g ba d was nxt code tries u e hu hu2 hr H
  have hg := Gr.refl y
  have hq : y.role.quiet = false := by rw [hr]; rfl
  co_apply CJ.of_WF Try.func45 (by kernel_rfl) (by rfl)
  simp only [show Try.f45.ntmps = 102 from rfl]
  try walk_nrm
  co_apply WF.seqP
  co_apply WF.seqP
  co_apply WF.region
  try simp only [List.size_toArray, List.length_cons, List.length_nil, Nat.reduceAdd, Nat.zero_add, List.range, List.range.loop]
  co_applyP OF.pu rfl (by rfl) (fun _ => run_eq_of ?run) (fun _ => by simp [go_sem, *])
  case run => intro K hK; go_simp; exact hK
  try walk_nrm
  co_applyP OF.pu rfl (by rfl) (fun _ => run_eq_of ?run) (fun _ => by simp [go_sem, *])
  case run => intro K hK; go_simp; exact hK
  try walk_nrm
  co_applyP OF.pu rfl (by rfl) (fun _ => run_eq_of ?run) (fun _ => by simp [go_sem, *])
  case run => intro K hK; go_simp; exact hK
  try walk_nrm
  co_applyP OF.ld1 0 5 rfl (by rfl) rfl H hq rfl rfl rfl Try.underlying4 rfl
  intro K w hK1 hr1 H1
  replace H := H1
  clear hr1 hK1 H1
  try walk_nrm
  co_apply OF.nil
  try simp only [thenF]
  co_apply WF.cond (t := false) rfl
  simp only [Bool.false_eq_true, ↓reduceIte]
  co_apply WF.skip
  try simp only [thenF]
  co_apply WF.seqP
  co_apply WF.region
  try simp only [List.size_toArray, List.length_cons, List.length_nil, Nat.reduceAdd, Nat.zero_add, List.range, List.range.loop]
  co_applyP OF.pu rfl (by rfl) (fun _ => run_eq_of ?run) (fun _ => by simp [go_sem, *])
  case run => intro K hK; go_simp; exact hK
  try walk_nrm
  co_applyP OF.pu rfl (by rfl) (fun _ => run_eq_of ?run) (fun _ => by simp [go_sem, *])
  case run => intro K hK; go_simp; exact hK
  try walk_nrm
  co_applyP OF.pu rfl (by rfl) (fun _ => run_eq_of ?run) (fun _ => by simp [go_sem, *])
  case run => intro K hK; go_simp; exact hK
  try walk_nrm
  co_applyP OF.pu rfl (by rfl) (fun _ => run_eq_of ?run) (fun _ => by simp [go_sem, *])
  case run => intro K hK; go_simp; exact hK
  try walk_nrm
  co_applyP OF.ld1 0 0 rfl (by rfl) rfl H hq rfl rfl rfl Try.underlying23 rfl
  intro K w hK1 hr1 H1
  replace H := H1
  clear hr1 hK1 H1
  try walk_nrm
  co_applyP OF.pu rfl (by rfl) (fun _ => run_eq_of ?run) (fun _ => by simp [go_sem, *])
  case run => intro K hK; go_simp; exact hK
  try walk_nrm
  co_applyP OF.pu rfl (by rfl) (fun _ => run_eq_of ?run) (fun _ => by simp [go_sem, *])
  case run => intro K hK; go_simp; exact hK
  try walk_nrm
  co_applyP OF.callJ rfl (by rfl) rfl
  · walk_nrm
    exact hload sh g d _ hr H.swap
  rintro _ K y' w hK1 ⟨rfl, hg1, H1⟩
  replace hg := hg.trans hg1
  replace hr := hg1.role.trans hr
  have hq1 : y'.role.quiet = false := by rw [hr]; rfl
  replace hq := hq1
  replace H := H1
  replace H := H.swap
  clear hg1 H1 hq1 hK1
  try walk_nrm
  co_applyP OF.pu rfl (by rfl) (fun _ => run_eq_of ?run) (fun _ => by simp [go_sem, *])
  case run => intro K hK; go_simp; exact hK
  try walk_nrm
  co_applyP OF.pu rfl (by rfl) (fun _ => run_eq_of ?run) (fun _ => by simp [go_sem, *])
  case run => intro K hK; go_simp; exact hK
  try walk_nrm
  co_applyP OF.st1 0 3 rfl (by rfl) rfl H hq rfl rfl rfl rfl rfl (by kernel_rfl)
  intro K w₁ w hK1 hr1 hu1 H1
  replace H := H1
  clear hr1 hK1 hu1 H1
  simp only [List.set_cons_zero, List.set_cons_succ, List.setIfInBounds_toArray] at H
  try walk_nrm
  co_apply OF.nil
  try simp only [thenF]
  co_apply WF.seqP
  co_apply WF.drawnB B (nd + nv + ng) (Sd N _ _ _) (by simp only [List.size_toArray, List.length_cons, List.length_nil, Nat.reduceAdd, Nat.zero_add]; omega) (by kernel_rfl)
  intro K hK1 w₀ hr1
  replace H := (H.rely hr1).drew
  clear hr1 hK1
  generalize ({ w₀ with drawn := w₀.drawn + 1 } : World) = w at H ⊢
  try simp only [List.size_toArray, List.length_cons, List.length_nil, Nat.reduceAdd, Nat.zero_add]
  co_applyP AnyF.take Sd.rely (i := 1) rfl (by kernel_rfl) (by kernel_rfl) (by kernel_rfl) (YF.pu (by rfl) (fun _ => run_eq_of ?run) (fun _ => by simp [go_sem, *])) ⟨H.sub (A := [_, _]) (List.Sublist.cons_cons _ (List.Sublist.cons_cons _ (List.nil_sublist _))), hr⟩
  case run => intro K hK; go_simp; exact hK
  try walk_nrm
  co_applyP AnyF.take Sd.rely (i := 2) rfl (by kernel_rfl) (by kernel_rfl) (by kernel_rfl) (YF.pu (by rfl) (fun _ => run_eq_of ?run) (fun _ => by simp [go_sem, *])) ⟨H.sub (A := [_, _]) (List.Sublist.cons_cons _ (List.Sublist.cons_cons _ (List.nil_sublist _))), hr⟩
  case run => intro K hK; go_simp; exact hK
  try walk_nrm
  co_applyP AnyF.take Sd.rely (i := 3) rfl (by kernel_rfl) (by kernel_rfl) (by kernel_rfl) (YF.pu (by rfl) (fun _ => run_eq_of ?run) (fun _ => by simp [go_sem, *])) ⟨H.sub (A := [_, _]) (List.Sublist.cons_cons _ (List.Sublist.cons_cons _ (List.nil_sublist _))), hr⟩
  case run => intro K hK; go_simp; exact hK
  try walk_nrm
  co_applyP AnyF.take Sd.rely (i := 4) rfl (by kernel_rfl) (by kernel_rfl) (by kernel_rfl) (YF.pu (by rfl) (fun _ => run_eq_of ?run) (fun _ => by simp [go_sem, *])) ⟨H.sub (A := [_, _]) (List.Sublist.cons_cons _ (List.Sublist.cons_cons _ (List.nil_sublist _))), hr⟩
  case run => intro K hK; go_simp; exact hK
  try walk_nrm
  co_applyP AnyF.take Sd.rely (i := 5) rfl (by kernel_rfl) (by kernel_rfl) (by kernel_rfl) (YF.ld1 0 1 (by rfl) rfl (by rfl) rfl rfl rfl Try.underlying5 rfl) ⟨H.sub (A := [_, _]) (List.Sublist.cons_cons _ (List.Sublist.cons_cons _ (List.nil_sublist _))), hr⟩
  try walk_nrm
  co_applyP AnyF.take Sd.rely (i := 8) rfl (by kernel_rfl) (by kernel_rfl) (by kernel_rfl) (YF.pu (by rfl) (fun _ => run_eq_of ?run) (fun _ => by simp [go_sem, *])) ⟨H.sub (A := [_, _]) (List.Sublist.cons_cons _ (List.Sublist.cons_cons _ (List.nil_sublist _))), hr⟩
  case run => intro K hK; go_simp; exact hK
  try walk_nrm
  co_applyP AnyF.take Sd.rely (i := 9) rfl (by kernel_rfl) (by kernel_rfl) (by kernel_rfl) (YF.pu (by rfl) (fun _ => run_eq_of ?run) (fun _ => by simp [go_sem, *])) ⟨H.sub (A := [_, _]) (List.Sublist.cons_cons _ (List.Sublist.cons_cons _ (List.nil_sublist _))), hr⟩
  case run => intro K hK; go_simp; exact hK
  try walk_nrm
  co_applyP AnyF.take Sd.rely (i := 10) rfl (by kernel_rfl) (by kernel_rfl) (by kernel_rfl) (YF.pu (by rfl) (fun _ => run_eq_of ?run) (fun _ => by simp [go_sem, *])) ⟨H.sub (A := [_, _]) (List.Sublist.cons_cons _ (List.Sublist.cons_cons _ (List.nil_sublist _))), hr⟩
  case run => intro K hK; go_simp; exact hK
  try walk_nrm
  co_applyP AnyF.take Sd.rely (i := 11) rfl (by kernel_rfl) (by kernel_rfl) (by kernel_rfl) (YF.ld1 0 0 (by rfl) rfl (by rfl) rfl rfl rfl Try.underlying23 rfl) ⟨H.sub (A := [_, _]) (List.Sublist.cons_cons _ (List.Sublist.cons_cons _ (List.nil_sublist _))), hr⟩
  try walk_nrm
  co_applyP AnyF.take Sd.rely (i := 12) rfl (by kernel_rfl) (by kernel_rfl) (by kernel_rfl) (YF.pu (by rfl) (fun _ => run_eq_of ?run) (fun _ => by simp [go_sem, *])) ⟨H.sub (A := [_, _]) (List.Sublist.cons_cons _ (List.Sublist.cons_cons _ (List.nil_sublist _))), hr⟩
  case run => intro K hK; go_simp; exact hK
  try walk_nrm
  co_applyP AnyF.take Sd.rely (i := 13) rfl (by kernel_rfl) (by kernel_rfl) (by kernel_rfl) (YF.pu (by rfl) (fun _ => run_eq_of ?run) (fun _ => by simp [go_sem, *])) ⟨H.sub (A := [_, _]) (List.Sublist.cons_cons _ (List.Sublist.cons_cons _ (List.nil_sublist _))), hr⟩
  case run => intro K hK; go_simp; exact hK
  try walk_nrm
  co_applyP AnyF.take Sd.rely (i := 14) rfl (by kernel_rfl) (by kernel_rfl) (by kernel_rfl) (YF.ld1 1 0 (by rfl) rfl (by rfl) rfl rfl rfl Try.underlying3 rfl) ⟨H.sub (A := [_, _]) (List.Sublist.cons_cons _ (List.Sublist.cons_cons _ (List.nil_sublist _))), hr⟩
  try walk_nrm
  co_applyP AnyF.take Sd.rely (i := 15) rfl (by kernel_rfl) (by kernel_rfl) (by kernel_rfl) (YF.pu (by rfl) (fun _ => run_eq_of ?run) (fun _ => by simp [go_sem, *])) ⟨H.sub (A := [_, _]) (List.Sublist.cons_cons _ (List.Sublist.cons_cons _ (List.nil_sublist _))), hr⟩
  case run => intro K hK; go_simp; exact hK
  try walk_nrm
  co_applyP AnyF.take Sd.rely (i := 16) rfl (by kernel_rfl) (by kernel_rfl) (by kernel_rfl) (YF.pu (by rfl) (fun _ => run_eq_of ?run) (fun _ => by simp [go_sem, *])) ⟨H.sub (A := [_, _]) (List.Sublist.cons_cons _ (List.Sublist.cons_cons _ (List.nil_sublist _))), hr⟩
  case run => intro K hK; go_simp; exact hK
  try walk_nrm
  co_applyP AnyF.take Sd.rely (i := 17) rfl (by kernel_rfl) (by kernel_rfl) (by kernel_rfl) (YF.pu (by rfl) (fun _ => run_eq_of ?run) (fun _ => by simp [go_sem, *])) ⟨H.sub (A := [_, _]) (List.Sublist.cons_cons _ (List.Sublist.cons_cons _ (List.nil_sublist _))), hr⟩
  case run => intro K hK; go_simp; exact hK
  try walk_nrm
  co_applyP AnyF.take Sd.rely (i := 18) rfl (by kernel_rfl) (by kernel_rfl) (by kernel_rfl) (YF.pu (by rfl) (fun _ => run_eq_of ?run) (fun _ => by simp [go_sem, *])) ⟨H.sub (A := [_, _]) (List.Sublist.cons_cons _ (List.Sublist.cons_cons _ (List.nil_sublist _))), hr⟩
  case run => intro K hK; go_simp; exact hK
  try walk_nrm
  co_applyP AnyF.take Sd.rely (i := 19) rfl (by kernel_rfl) (by kernel_rfl) (by kernel_rfl) (YF.ld1 0 2 (by rfl) rfl (by rfl) rfl rfl rfl Try.underlying3 rfl) ⟨H.sub (A := [_, _]) (List.Sublist.cons_cons _ (List.Sublist.cons_cons _ (List.nil_sublist _))), hr⟩
  try walk_nrm
  co_applyP AnyF.take Sd.rely (i := 20) rfl (by kernel_rfl) (by kernel_rfl) (by kernel_rfl) (YF.pu (by rfl) (fun _ => run_eq_of ?run) (fun _ => by simp [go_sem, *])) ⟨H.sub (A := [_, _]) (List.Sublist.cons_cons _ (List.Sublist.cons_cons _ (List.nil_sublist _))), hr⟩
  case run => intro K hK; go_simp; exact hK
  try walk_nrm
  co_applyP AnyF.take Sd.rely (i := 21) rfl (by kernel_rfl) (by kernel_rfl) (by kernel_rfl) (YF.pu (by rfl) (fun _ => run_eq_of ?run) (fun _ => by simp [go_sem, *])) ⟨H.sub (A := [_, _]) (List.Sublist.cons_cons _ (List.Sublist.cons_cons _ (List.nil_sublist _))), hr⟩
  case run => intro K hK; go_simp; exact hK
  try walk_nrm
  co_applyP AnyF.take Sd.rely (i := 22) rfl (by kernel_rfl) (by kernel_rfl) (by kernel_rfl) (YF.pu (by rfl) (fun _ => run_eq_of ?run) (fun _ => by simp [go_sem, *])) ⟨H.sub (A := [_, _]) (List.Sublist.cons_cons _ (List.Sublist.cons_cons _ (List.nil_sublist _))), hr⟩
  case run => intro K hK; go_simp; exact hK
  try walk_nrm
  co_applyP AnyF.take Sd.rely (i := 23) rfl (by kernel_rfl) (by kernel_rfl) (by kernel_rfl) (YF.ld1 0 3 (by rfl) rfl (by rfl) rfl rfl rfl Try.underlying102 rfl) ⟨H.sub (A := [_, _]) (List.Sublist.cons_cons _ (List.Sublist.cons_cons _ (List.nil_sublist _))), hr⟩
  try walk_nrm
  refine AnyF.all (rs := [0, 29]) (by kernel_rfl) (by simp) ?_
  intro i hi
  simp only [List.mem_cons, List.not_mem_nil, or_false] at hi
  rcases hi with rfl | rfl
  · skip
    co_applyP OpF.cJ rfl (by rfl) rfl Try.func60 (by kernel_rfl) (by kernel_rfl) H
    intro K₀ w₁ hK0 H0
    co_apply Exists.intro
    co_apply And.intro
    · walk_nrm
      exact (hdeeds H0 hq).more (by omega)
    rintro _ K y' w hK2 ⟨rfl, hg1, H1⟩
    have hK1 := Nat.le_trans hK2 hK0
    clear hK2 hK0 H0
    replace hg := hg.trans hg1
    replace hr := hg1.role.trans hr
    have hq1 : y'.role.quiet = false := by rw [hr]; rfl
    replace hq := hq1
    replace H := H1
    clear hg1 H1 hq1 hK1
    try walk_nrm
    refine ⟨⟨H.sub (A := [_, _]) (List.Sublist.cons_cons _ (List.Sublist.cons_cons _ (List.nil_sublist _))), hr⟩, ?_⟩
    try walk_nrm
    co_applyP AnyF.take Sd.rely (i := 6) rfl (by kernel_rfl) (by kernel_rfl) (by kernel_rfl) (YF.pu (v := .agg #[.func (.func 81) #[] #[]]) (by rfl) (fun _ => by kernel_rfl) (fun _ => by kernel_rfl)) ⟨H.sub (A := [_, _]) (List.Sublist.cons_cons _ (List.Sublist.cons_cons _ (List.nil_sublist _))), hr⟩
    try walk_nrm
    co_applyP AnyF.take Sd.rely (i := 7) rfl (by kernel_rfl) (by kernel_rfl) (by kernel_rfl) (YF.pu (v := .func (.func 81) #[] #[]) (by rfl) (fun _ => by kernel_rfl) (fun _ => by kernel_rfl)) ⟨H.sub (A := [_, _]) (List.Sublist.cons_cons _ (List.Sublist.cons_cons _ (List.nil_sublist _))), hr⟩
    try walk_nrm
    refine AnyF.all (rs := [24, 29]) (by kernel_rfl) (by simp) ?_
    intro i hi
    simp only [List.mem_cons, List.not_mem_nil, or_false] at hi
    rcases hi with rfl | rfl
    · skip
      co_applyP OpF.cJ rfl (by rfl) rfl Try.func44 (by kernel_rfl) (by kernel_rfl) H
      intro K₀ w₁ hK0 H0
      co_apply Exists.intro
      co_apply And.intro
      · walk_nrm
        exact (hview u e (by omega) H0 hq).more (by omega)
      rintro _ K y' w hK2 ⟨rfl, hg1, H1⟩
      have hK1 := Nat.le_trans hK2 hK0
      clear hK2 hK0 H0
      replace hg := hg.trans hg1
      replace hr := hg1.role.trans hr
      have hq1 : y'.role.quiet = false := by rw [hr]; rfl
      replace hq := hq1
      replace H := H1
      clear hg1 H1 hq1 hK1
      try walk_nrm
      refine ⟨⟨H.sub (A := [_, _]) (List.Sublist.cons_cons _ (List.Sublist.cons_cons _ (List.nil_sublist _))), hr⟩, ?_⟩
      try walk_nrm
      refine AnyF.all (rs := [25, 29]) (by kernel_rfl) (by simp) ?_
      intro i hi
      simp only [List.mem_cons, List.not_mem_nil, or_false] at hi
      rcases hi with rfl | rfl
      · skip
        co_applyP OpF.cV rfl (by rfl) rfl rfl Try.func81 (by kernel_rfl) (by kernel_rfl) H
        intro K₀ w₁ hK0 H0
        co_apply Exists.intro
        co_apply And.intro
        · walk_nrm
          exact (hdeed _ u e hu2 H0 hq).more (by omega)
        rintro _ K y' w hK2 ⟨rfl, hg1, H1⟩
        have hK1 := Nat.le_trans hK2 hK0
        clear hK2 hK0 H0
        replace hg := hg.trans hg1
        replace hr := hg1.role.trans hr
        have hq1 : y'.role.quiet = false := by rw [hr]; rfl
        replace hq := hq1
        replace H := H1
        clear hg1 H1 hq1 hK1
        try walk_nrm
        refine ⟨⟨H.sub (A := [_, _]) (List.Sublist.cons_cons _ (List.Sublist.cons_cons _ (List.nil_sublist _))), hr⟩, ?_⟩
        try walk_nrm
        co_applyP AnyF.take Sd.rely (i := 26) rfl (by kernel_rfl) (by kernel_rfl) (by kernel_rfl) (YF.pu (by rfl) (fun _ => run_eq_of ?run) (fun _ => by simp [go_sem, *])) ⟨H.sub (A := [_, _]) (List.Sublist.cons_cons _ (List.Sublist.cons_cons _ (List.nil_sublist _))), hr⟩
        case run => intro K hK; go_simp; exact hK
        try walk_nrm
        co_applyP AnyF.take Sd.rely (i := 27) rfl (by kernel_rfl) (by kernel_rfl) (by kernel_rfl) (YF.pu (by rfl) (fun _ => run_eq_of ?run) (fun _ => by simp [go_sem, *])) ⟨H.sub (A := [_, _]) (List.Sublist.cons_cons _ (List.Sublist.cons_cons _ (List.nil_sublist _))), hr⟩
        case run => intro K hK; go_simp; exact hK
        try walk_nrm
        co_applyP AnyF.take Sd.rely (i := 28) rfl (by kernel_rfl) (by kernel_rfl) (by kernel_rfl) (YF.pu (by rfl) (fun _ => run_eq_of ?run) (fun _ => by simp [go_sem, *])) ⟨H.sub (A := [_, _]) (List.Sublist.cons_cons _ (List.Sublist.cons_cons _ (List.nil_sublist _))), hr⟩
        case run => intro K hK; go_simp; exact hK
        try walk_nrm
        refine AnyF.all (rs := [29]) (by kernel_rfl) (by simp) ?_
        intro i hi
        simp only [List.mem_cons, List.not_mem_nil, or_false] at hi
        subst hi
        co_applyP OpF.al rfl (by rfl) H (fun _ => run_eq_of ?run) (fun _ => by simp [go_sem, *])
        case run => intro K hK; go_simp; exact hK
        intro K y' w b2 hK1 hg1 H1
        replace hg := hg.trans hg1
        replace hr := hg1.role.trans hr
        have hq1 : y'.role.quiet = false := by rw [hr]; rfl
        replace hq := hq1
        replace H := H1
        clear hg1 H1 hq1 hK1
        try walk_nrm
        refine ⟨⟨H.sub (A := [_, _]) (List.Sublist.cons _ (List.Sublist.cons_cons _ (List.Sublist.cons_cons _ (List.nil_sublist _)))), hr⟩, ?_⟩
        try walk_nrm
        refine AnyF.all (rs := [30]) (by kernel_rfl) (by simp) ?_
        intro i hi
        simp only [List.mem_cons, List.not_mem_nil, or_false] at hi
        subst hi
        co_applyP OpF.str 0 rfl (by rfl) rfl H hq rfl rfl rfl (by kernel_rfl) (by rfl) (by kernel_rfl)
        intro K w hK1 H1
        replace H := H1
        clear hK1 H1
        simp only [List.set_cons_zero] at H
        refine ⟨⟨H.sub (A := [_, _]) (List.Sublist.cons _ (List.Sublist.cons_cons _ (List.Sublist.cons_cons _ (List.nil_sublist _)))), hr⟩, ?_⟩
        try walk_nrm
        co_applyP AnyF.take Sd.rely (i := 31) rfl (by kernel_rfl) (by kernel_rfl) (by kernel_rfl) (YF.pu (by rfl) (fun _ => run_eq_of ?run) (fun _ => by simp [go_sem, *])) ⟨H.sub (A := [_, _]) (List.Sublist.cons _ (List.Sublist.cons_cons _ (List.Sublist.cons_cons _ (List.nil_sublist _)))), hr⟩
        case run => intro K hK; go_simp; exact hK
        try walk_nrm
        co_apply AnyF.done (by kernel_rfl)
        intro K hK1 w hr1
        replace H := H.rely hr1
        clear hr1 hK1
        try simp only [thenF]
        co_apply WF.seqP
        co_apply WF.region
        try simp only [List.size_toArray, List.length_cons, List.length_nil, Nat.reduceAdd, Nat.zero_add, List.range, List.range.loop]
        co_applyP OF.pu rfl (by rfl) (fun _ => run_eq_of ?run) (fun _ => by simp [go_sem, *])
        case run => intro K hK; go_simp; exact hK
        try walk_nrm
        co_applyP OF.ldr 0 rfl (by rfl) rfl H hq rfl rfl Try.underlying38 rfl (by kernel_rfl)
        intro K w hK1 hr1 H1
        replace H := H1
        clear hr1 hK1 H1
        try walk_nrm
        co_applyP OF.callJ rfl (by rfl) rfl
        · walk_nrm
          exact hpacked u e (by omega) H hq
        rintro _ K y' w hK1 ⟨rfl, hg1, H1⟩
        replace hg := hg.trans hg1
        replace hr := hg1.role.trans hr
        have hq1 : y'.role.quiet = false := by rw [hr]; rfl
        replace hq := hq1
        replace H := H1
        clear hg1 H1 hq1 hK1
        try walk_nrm
        co_applyP OF.pu rfl (by rfl) (fun _ => run_eq_of ?run) (fun _ => by simp [go_sem, *])
        case run => intro K hK; go_simp; exact hK
        try walk_nrm
        co_applyP OF.pu rfl (by rfl) (fun _ => run_eq_of ?run) (fun _ => by simp [go_sem, *])
        case run => intro K hK; go_simp; exact hK
        try walk_nrm
        co_applyP OF.st1 1 4 rfl (by rfl) rfl H hq rfl rfl rfl rfl rfl (by kernel_rfl)
        intro K w₁ w hK1 hr1 hu1 H1
        replace H := H1
        clear hr1 hK1 hu1 H1
        simp only [List.set_cons_zero, List.set_cons_succ, List.setIfInBounds_toArray] at H
        try walk_nrm
        co_apply OF.nil
        try simp only [thenF]
        co_apply WF.seqP (n₂ := 0)
        co_apply WF.seqP
        have hne : ((wdv (u : Int) e).num == (wdv (u : Int) e).num) = true := by simp
        co_apply WF.drawnB B (nd + nv + ng) (Sd N _ _ _) (by simp only [List.size_toArray, List.length_cons, List.length_nil, Nat.reduceAdd, Nat.zero_add]; omega) (by kernel_rfl)
        intro K hK1 w₀ hr1
        replace H := (H.rely hr1).drew
        clear hr1 hK1
        generalize ({ w₀ with drawn := w₀.drawn + 1 } : World) = w at H ⊢
        try simp only [List.size_toArray, List.length_cons, List.length_nil, Nat.reduceAdd, Nat.zero_add]
        co_applyP AnyF.take Sd.rely (i := 0) rfl (by kernel_rfl) (by kernel_rfl) (by kernel_rfl) (YF.pu (by rfl) (fun _ => run_eq_of ?run) (fun _ => by simp [go_sem, *])) ⟨H.sub (A := [_, _]) (List.Sublist.cons _ (List.Sublist.cons_cons _ (List.Sublist.cons_cons _ (List.nil_sublist _)))), hr⟩
        case run => intro K hK; go_simp; exact hK
        try walk_nrm
        co_applyP AnyF.take Sd.rely (i := 1) rfl (by kernel_rfl) (by kernel_rfl) (by kernel_rfl) (YF.pu (by rfl) (fun _ => run_eq_of ?run) (fun _ => by simp [go_sem, *])) ⟨H.sub (A := [_, _]) (List.Sublist.cons _ (List.Sublist.cons_cons _ (List.Sublist.cons_cons _ (List.nil_sublist _)))), hr⟩
        case run => intro K hK; go_simp; exact hK
        try walk_nrm
        co_applyP AnyF.take Sd.rely (i := 2) rfl (by kernel_rfl) (by kernel_rfl) (by kernel_rfl) (YF.pu (by rfl) (fun _ => run_eq_of ?run) (fun _ => by simp [go_sem, *])) ⟨H.sub (A := [_, _]) (List.Sublist.cons _ (List.Sublist.cons_cons _ (List.Sublist.cons_cons _ (List.nil_sublist _)))), hr⟩
        case run => intro K hK; go_simp; exact hK
        try walk_nrm
        co_applyP AnyF.take Sd.rely (i := 3) rfl (by kernel_rfl) (by kernel_rfl) (by kernel_rfl) (YF.ld1 0 4 (by rfl) rfl (by rfl) rfl rfl rfl Try.underlying102 rfl) ⟨H.sub (A := [_, _]) (List.Sublist.cons _ (List.Sublist.cons_cons _ (List.Sublist.cons_cons _ (List.nil_sublist _)))), hr⟩
        try walk_nrm
        co_applyP AnyF.take Sd.rely (i := 4) rfl (by kernel_rfl) (by kernel_rfl) (by kernel_rfl) (YF.pu (by rfl) (fun _ => run_eq_of ?run) (fun _ => by simp [go_sem, *])) ⟨H.sub (A := [_, _]) (List.Sublist.cons _ (List.Sublist.cons_cons _ (List.Sublist.cons_cons _ (List.nil_sublist _)))), hr⟩
        case run => intro K hK; go_simp; exact hK
        try walk_nrm
        co_applyP AnyF.take Sd.rely (i := 5) rfl (by kernel_rfl) (by kernel_rfl) (by kernel_rfl) (YF.pu (by rfl) (fun _ => run_eq_of ?run) (fun _ => by simp [go_sem, *])) ⟨H.sub (A := [_, _]) (List.Sublist.cons _ (List.Sublist.cons_cons _ (List.Sublist.cons_cons _ (List.nil_sublist _)))), hr⟩
        case run => intro K hK; go_simp; exact hK
        try walk_nrm
        co_applyP AnyF.take Sd.rely (i := 6) rfl (by kernel_rfl) (by kernel_rfl) (by kernel_rfl) (YF.pu (by rfl) (fun _ => run_eq_of ?run) (fun _ => by simp [go_sem, *])) ⟨H.sub (A := [_, _]) (List.Sublist.cons _ (List.Sublist.cons_cons _ (List.Sublist.cons_cons _ (List.nil_sublist _)))), hr⟩
        case run => intro K hK; go_simp; exact hK
        try walk_nrm
        co_applyP AnyF.take Sd.rely (i := 7) rfl (by kernel_rfl) (by kernel_rfl) (by kernel_rfl) (YF.ld1 0 3 (by rfl) rfl (by rfl) rfl rfl rfl Try.underlying102 rfl) ⟨H.sub (A := [_, _]) (List.Sublist.cons _ (List.Sublist.cons_cons _ (List.Sublist.cons_cons _ (List.nil_sublist _)))), hr⟩
        try walk_nrm
        co_applyP AnyF.take Sd.rely (i := 8) rfl (by kernel_rfl) (by kernel_rfl) (by kernel_rfl) (YF.pu (by rfl) (fun _ => run_eq_of ?run) (fun _ => by simp [go_sem, *])) ⟨H.sub (A := [_, _]) (List.Sublist.cons _ (List.Sublist.cons_cons _ (List.Sublist.cons_cons _ (List.nil_sublist _)))), hr⟩
        case run => intro K hK; go_simp; exact hK
        try walk_nrm
        co_apply AnyF.done (by kernel_rfl)
        intro K hK1 w hr1
        replace H := H.rely hr1
        clear hr1 hK1
        try simp only [thenF]
        co_apply WF.cond (t := true) rfl
        simp only [↓reduceIte]
        co_apply WF.seqP
        co_apply WF.region
        try simp only [List.size_toArray, List.length_cons, List.length_nil, Nat.reduceAdd, Nat.zero_add, List.range, List.range.loop]
        co_applyP OF.pu rfl (by rfl) (fun _ => run_eq_of ?run) (fun _ => by simp [go_sem, *])
        case run => intro K hK; go_simp; exact hK
        try walk_nrm
        co_applyP OF.pu rfl (by rfl) (fun _ => run_eq_of ?run) (fun _ => by simp [go_sem, *])
        case run => intro K hK; go_simp; exact hK
        try walk_nrm
        co_applyP OF.pu rfl (by rfl) (fun _ => run_eq_of ?run) (fun _ => by simp [go_sem, *])
        case run => intro K hK; go_simp; exact hK
        try walk_nrm
        co_applyP OF.pu rfl (by rfl) (fun _ => run_eq_of ?run) (fun _ => by simp [go_sem, *])
        case run => intro K hK; go_simp; exact hK
        try walk_nrm
        co_applyP OF.pu rfl (by rfl) (fun _ => run_eq_of ?run) (fun _ => by simp [go_sem, *])
        case run => intro K hK; go_simp; exact hK
        try walk_nrm
        co_applyP OF.pu rfl (by rfl) (fun _ => run_eq_of ?run) (fun _ => by simp [go_sem, *])
        case run => intro K hK; go_simp; exact hK
        try walk_nrm
        co_applyP OF.st1 1 7 rfl (by rfl) rfl H hq rfl rfl rfl rfl rfl (by kernel_rfl)
        intro K w₁ w hK1 hr1 hu1 H1
        replace H := H1
        clear hr1 hK1 hu1 H1
        simp only [List.set_cons_zero, List.set_cons_succ, List.setIfInBounds_toArray] at H
        try walk_nrm
        co_applyP OF.pu rfl (by rfl) (fun _ => run_eq_of ?run) (fun _ => by simp [go_sem, *])
        case run => intro K hK; go_simp; exact hK
        try walk_nrm
        co_applyP OF.pu rfl (by rfl) (fun _ => run_eq_of ?run) (fun _ => by simp [go_sem, *])
        case run => intro K hK; go_simp; exact hK
        try walk_nrm
        co_applyP OF.st1 1 6 rfl (by rfl) rfl H hq rfl rfl rfl rfl rfl (by kernel_rfl)
        intro K w₁ w hK1 hr1 hu1 H1
        replace H := H1
        clear hr1 hK1 hu1 H1
        simp only [List.set_cons_zero, List.set_cons_succ, List.setIfInBounds_toArray] at H
        try walk_nrm
        co_apply OF.nil
        try simp only [thenF]
        co_apply WF.ret
        try simp only [thenF]
        exact retG_of rfl (resultsC_none (by rfl) _) (fun K₂ hK₂ w₂ r₂ => ⟨rfl, hg, _, (H.rely r₂).tail⟩)
      · skip
        co_applyP OpF.al rfl (by rfl) H (fun _ => run_eq_of ?run) (fun _ => by simp [go_sem, *])
        case run => intro K hK; go_simp; exact hK
        intro K y' w b2 hK1 hg1 H1
        replace hg := hg.trans hg1
        replace hr := hg1.role.trans hr
        have hq1 : y'.role.quiet = false := by rw [hr]; rfl
        replace hq := hq1
        replace H := H1
        clear hg1 H1 hq1 hK1
        try walk_nrm
        refine ⟨⟨H.sub (A := [_, _]) (List.Sublist.cons _ (List.Sublist.cons_cons _ (List.Sublist.cons_cons _ (List.nil_sublist _)))), hr⟩, ?_⟩
        try walk_nrm
        refine AnyF.all (rs := [25]) (by kernel_rfl) (by simp) ?_
        intro i hi
        simp only [List.mem_cons, List.not_mem_nil, or_false] at hi
        subst hi
        co_applyP OpF.cV rfl (by rfl) rfl rfl Try.func81 (by kernel_rfl) (by kernel_rfl) H
        intro K₀ w₁ hK0 H0
        co_apply Exists.intro
        co_apply And.intro
        · walk_nrm
          exact (hdeed _ u e hu2 H0 hq).more (by omega)
        rintro _ K y' w hK2 ⟨rfl, hg1, H1⟩
        have hK1 := Nat.le_trans hK2 hK0
        clear hK2 hK0 H0
        replace hg := hg.trans hg1
        replace hr := hg1.role.trans hr
        have hq1 : y'.role.quiet = false := by rw [hr]; rfl
        replace hq := hq1
        replace H := H1
        clear hg1 H1 hq1 hK1
        try walk_nrm
        refine ⟨⟨H.sub (A := [_, _]) (List.Sublist.cons _ (List.Sublist.cons_cons _ (List.Sublist.cons_cons _ (List.nil_sublist _)))), hr⟩, ?_⟩
        try walk_nrm
        co_applyP AnyF.take Sd.rely (i := 26) rfl (by kernel_rfl) (by kernel_rfl) (by kernel_rfl) (YF.pu (by rfl) (fun _ => run_eq_of ?run) (fun _ => by simp [go_sem, *])) ⟨H.sub (A := [_, _]) (List.Sublist.cons _ (List.Sublist.cons_cons _ (List.Sublist.cons_cons _ (List.nil_sublist _)))), hr⟩
        case run => intro K hK; go_simp; exact hK
        try walk_nrm
        co_applyP AnyF.take Sd.rely (i := 27) rfl (by kernel_rfl) (by kernel_rfl) (by kernel_rfl) (YF.pu (by rfl) (fun _ => run_eq_of ?run) (fun _ => by simp [go_sem, *])) ⟨H.sub (A := [_, _]) (List.Sublist.cons _ (List.Sublist.cons_cons _ (List.Sublist.cons_cons _ (List.nil_sublist _)))), hr⟩
        case run => intro K hK; go_simp; exact hK
        try walk_nrm
        co_applyP AnyF.take Sd.rely (i := 28) rfl (by kernel_rfl) (by kernel_rfl) (by kernel_rfl) (YF.pu (by rfl) (fun _ => run_eq_of ?run) (fun _ => by simp [go_sem, *])) ⟨H.sub (A := [_, _]) (List.Sublist.cons _ (List.Sublist.cons_cons _ (List.Sublist.cons_cons _ (List.nil_sublist _)))), hr⟩
        case run => intro K hK; go_simp; exact hK
        try walk_nrm
        refine AnyF.all (rs := [30]) (by kernel_rfl) (by simp) ?_
        intro i hi
        simp only [List.mem_cons, List.not_mem_nil, or_false] at hi
        subst hi
        co_applyP OpF.str 0 rfl (by rfl) rfl H hq rfl rfl rfl (by kernel_rfl) (by rfl) (by kernel_rfl)
        intro K w hK1 H1
        replace H := H1
        clear hK1 H1
        simp only [List.set_cons_zero] at H
        refine ⟨⟨H.sub (A := [_, _]) (List.Sublist.cons _ (List.Sublist.cons_cons _ (List.Sublist.cons_cons _ (List.nil_sublist _)))), hr⟩, ?_⟩
        try walk_nrm
        co_applyP AnyF.take Sd.rely (i := 31) rfl (by kernel_rfl) (by kernel_rfl) (by kernel_rfl) (YF.pu (by rfl) (fun _ => run_eq_of ?run) (fun _ => by simp [go_sem, *])) ⟨H.sub (A := [_, _]) (List.Sublist.cons _ (List.Sublist.cons_cons _ (List.Sublist.cons_cons _ (List.nil_sublist _)))), hr⟩
        case run => intro K hK; go_simp; exact hK
        try walk_nrm
        co_apply AnyF.done (by kernel_rfl)
        intro K hK1 w hr1
        replace H := H.rely hr1
        clear hr1 hK1
        try simp only [thenF]
        co_apply WF.seqP
        co_apply WF.region
        try simp only [List.size_toArray, List.length_cons, List.length_nil, Nat.reduceAdd, Nat.zero_add, List.range, List.range.loop]
        co_applyP OF.pu rfl (by rfl) (fun _ => run_eq_of ?run) (fun _ => by simp [go_sem, *])
        case run => intro K hK; go_simp; exact hK
        try walk_nrm
        co_applyP OF.ldr 0 rfl (by rfl) rfl H hq rfl rfl Try.underlying38 rfl (by kernel_rfl)
        intro K w hK1 hr1 H1
        replace H := H1
        clear hr1 hK1 H1
        try walk_nrm
        co_applyP OF.callJ rfl (by rfl) rfl
        · walk_nrm
          exact hpacked u e (by omega) H hq
        rintro _ K y' w hK1 ⟨rfl, hg1, H1⟩
        replace hg := hg.trans hg1
        replace hr := hg1.role.trans hr
        have hq1 : y'.role.quiet = false := by rw [hr]; rfl
        replace hq := hq1
        replace H := H1
        clear hg1 H1 hq1 hK1
        try walk_nrm
        co_applyP OF.pu rfl (by rfl) (fun _ => run_eq_of ?run) (fun _ => by simp [go_sem, *])
        case run => intro K hK; go_simp; exact hK
        try walk_nrm
        co_applyP OF.pu rfl (by rfl) (fun _ => run_eq_of ?run) (fun _ => by simp [go_sem, *])
        case run => intro K hK; go_simp; exact hK
        try walk_nrm
        co_applyP OF.st1 1 4 rfl (by rfl) rfl H hq rfl rfl rfl rfl rfl (by kernel_rfl)
        intro K w₁ w hK1 hr1 hu1 H1
        replace H := H1
        clear hr1 hK1 hu1 H1
        simp only [List.set_cons_zero, List.set_cons_succ, List.setIfInBounds_toArray] at H
        try walk_nrm
        co_apply OF.nil
        try simp only [thenF]
        co_apply WF.seqP (n₂ := 0)
        co_apply WF.seqP
        have hne : ((wdv (u : Int) e).num == (wdv (u : Int) e).num) = true := by simp
        co_apply WF.drawnB B (nd + nv + ng) (Sd N _ _ _) (by simp only [List.size_toArray, List.length_cons, List.length_nil, Nat.reduceAdd, Nat.zero_add]; omega) (by kernel_rfl)
        intro K hK1 w₀ hr1
        replace H := (H.rely hr1).drew
        clear hr1 hK1
        generalize ({ w₀ with drawn := w₀.drawn + 1 } : World) = w at H ⊢
        try simp only [List.size_toArray, List.length_cons, List.length_nil, Nat.reduceAdd, Nat.zero_add]
        co_applyP AnyF.take Sd.rely (i := 0) rfl (by kernel_rfl) (by kernel_rfl) (by kernel_rfl) (YF.pu (by rfl) (fun _ => run_eq_of ?run) (fun _ => by simp [go_sem, *])) ⟨H.sub (A := [_, _]) (List.Sublist.cons _ (List.Sublist.cons_cons _ (List.Sublist.cons_cons _ (List.nil_sublist _)))), hr⟩
        case run => intro K hK; go_simp; exact hK
        try walk_nrm
        co_applyP AnyF.take Sd.rely (i := 1) rfl (by kernel_rfl) (by kernel_rfl) (by kernel_rfl) (YF.pu (by rfl) (fun _ => run_eq_of ?run) (fun _ => by simp [go_sem, *])) ⟨H.sub (A := [_, _]) (List.Sublist.cons _ (List.Sublist.cons_cons _ (List.Sublist.cons_cons _ (List.nil_sublist _)))), hr⟩
        case run => intro K hK; go_simp; exact hK
        try walk_nrm
        co_applyP AnyF.take Sd.rely (i := 2) rfl (by kernel_rfl) (by kernel_rfl) (by kernel_rfl) (YF.pu (by rfl) (fun _ => run_eq_of ?run) (fun _ => by simp [go_sem, *])) ⟨H.sub (A := [_, _]) (List.Sublist.cons _ (List.Sublist.cons_cons _ (List.Sublist.cons_cons _ (List.nil_sublist _)))), hr⟩
        case run => intro K hK; go_simp; exact hK
        try walk_nrm
        co_applyP AnyF.take Sd.rely (i := 3) rfl (by kernel_rfl) (by kernel_rfl) (by kernel_rfl) (YF.ld1 0 4 (by rfl) rfl (by rfl) rfl rfl rfl Try.underlying102 rfl) ⟨H.sub (A := [_, _]) (List.Sublist.cons _ (List.Sublist.cons_cons _ (List.Sublist.cons_cons _ (List.nil_sublist _)))), hr⟩
        try walk_nrm
        co_applyP AnyF.take Sd.rely (i := 4) rfl (by kernel_rfl) (by kernel_rfl) (by kernel_rfl) (YF.pu (by rfl) (fun _ => run_eq_of ?run) (fun _ => by simp [go_sem, *])) ⟨H.sub (A := [_, _]) (List.Sublist.cons _ (List.Sublist.cons_cons _ (List.Sublist.cons_cons _ (List.nil_sublist _)))), hr⟩
        case run => intro K hK; go_simp; exact hK
        try walk_nrm
        co_applyP AnyF.take Sd.rely (i := 5) rfl (by kernel_rfl) (by kernel_rfl) (by kernel_rfl) (YF.pu (by rfl) (fun _ => run_eq_of ?run) (fun _ => by simp [go_sem, *])) ⟨H.sub (A := [_, _]) (List.Sublist.cons _ (List.Sublist.cons_cons _ (List.Sublist.cons_cons _ (List.nil_sublist _)))), hr⟩
        case run => intro K hK; go_simp; exact hK
        try walk_nrm
        co_applyP AnyF.take Sd.rely (i := 6) rfl (by kernel_rfl) (by kernel_rfl) (by kernel_rfl) (YF.pu (by rfl) (fun _ => run_eq_of ?run) (fun _ => by simp [go_sem, *])) ⟨H.sub (A := [_, _]) (List.Sublist.cons _ (List.Sublist.cons_cons _ (List.Sublist.cons_cons _ (List.nil_sublist _)))), hr⟩
        case run => intro K hK; go_simp; exact hK
        try walk_nrm
        co_applyP AnyF.take Sd.rely (i := 7) rfl (by kernel_rfl) (by kernel_rfl) (by kernel_rfl) (YF.ld1 0 3 (by rfl) rfl (by rfl) rfl rfl rfl Try.underlying102 rfl) ⟨H.sub (A := [_, _]) (List.Sublist.cons _ (List.Sublist.cons_cons _ (List.Sublist.cons_cons _ (List.nil_sublist _)))), hr⟩
        try walk_nrm
        co_applyP AnyF.take Sd.rely (i := 8) rfl (by kernel_rfl) (by kernel_rfl) (by kernel_rfl) (YF.pu (by rfl) (fun _ => run_eq_of ?run) (fun _ => by simp [go_sem, *])) ⟨H.sub (A := [_, _]) (List.Sublist.cons _ (List.Sublist.cons_cons _ (List.Sublist.cons_cons _ (List.nil_sublist _)))), hr⟩
        case run => intro K hK; go_simp; exact hK
        try walk_nrm
        co_apply AnyF.done (by kernel_rfl)
        intro K hK1 w hr1
        replace H := H.rely hr1
        clear hr1 hK1
        try simp only [thenF]
        co_apply WF.cond (t := true) rfl
        simp only [↓reduceIte]
        co_apply WF.seqP
        co_apply WF.region
        try simp only [List.size_toArray, List.length_cons, List.length_nil, Nat.reduceAdd, Nat.zero_add, List.range, List.range.loop]
        co_applyP OF.pu rfl (by rfl) (fun _ => run_eq_of ?run) (fun _ => by simp [go_sem, *])
        case run => intro K hK; go_simp; exact hK
        try walk_nrm
        co_applyP OF.pu rfl (by rfl) (fun _ => run_eq_of ?run) (fun _ => by simp [go_sem, *])
        case run => intro K hK; go_simp; exact hK
        try walk_nrm
        co_applyP OF.pu rfl (by rfl) (fun _ => run_eq_of ?run) (fun _ => by simp [go_sem, *])
        case run => intro K hK; go_simp; exact hK
        try walk_nrm
        co_applyP OF.pu rfl (by rfl) (fun _ => run_eq_of ?run) (fun _ => by simp [go_sem, *])
        case run => intro K hK; go_simp; exact hK
        try walk_nrm
        co_applyP OF.pu rfl (by rfl) (fun _ => run_eq_of ?run) (fun _ => by simp [go_sem, *])
        case run => intro K hK; go_simp; exact hK
        try walk_nrm
        co_applyP OF.pu rfl (by rfl) (fun _ => run_eq_of ?run) (fun _ => by simp [go_sem, *])
        case run => intro K hK; go_simp; exact hK
        try walk_nrm
        co_applyP OF.st1 1 7 rfl (by rfl) rfl H hq rfl rfl rfl rfl rfl (by kernel_rfl)
        intro K w₁ w hK1 hr1 hu1 H1
        replace H := H1
        clear hr1 hK1 hu1 H1
        simp only [List.set_cons_zero, List.set_cons_succ, List.setIfInBounds_toArray] at H
        try walk_nrm
        co_applyP OF.pu rfl (by rfl) (fun _ => run_eq_of ?run) (fun _ => by simp [go_sem, *])
        case run => intro K hK; go_simp; exact hK
        try walk_nrm
        co_applyP OF.pu rfl (by rfl) (fun _ => run_eq_of ?run) (fun _ => by simp [go_sem, *])
        case run => intro K hK; go_simp; exact hK
        try walk_nrm
        co_applyP OF.st1 1 6 rfl (by rfl) rfl H hq rfl rfl rfl rfl rfl (by kernel_rfl)
        intro K w₁ w hK1 hr1 hu1 H1
        replace H := H1
        clear hr1 hK1 hu1 H1
        simp only [List.set_cons_zero, List.set_cons_succ, List.setIfInBounds_toArray] at H
        try walk_nrm
        co_apply OF.nil
        try simp only [thenF]
        co_apply WF.ret
        try simp only [thenF]
        exact retG_of rfl (resultsC_none (by rfl) _) (fun K₂ hK₂ w₂ r₂ => ⟨rfl, hg, _, (H.rely r₂).tail⟩)
    · skip
      co_applyP OpF.al rfl (by rfl) H (fun _ => run_eq_of ?run) (fun _ => by simp [go_sem, *])
      case run => intro K hK; go_simp; exact hK
      intro K y' w b2 hK1 hg1 H1
      replace hg := hg.trans hg1
      replace hr := hg1.role.trans hr
      have hq1 : y'.role.quiet = false := by rw [hr]; rfl
      replace hq := hq1
      replace H := H1
      clear hg1 H1 hq1 hK1
      try walk_nrm
      refine ⟨⟨H.sub (A := [_, _]) (List.Sublist.cons _ (List.Sublist.cons_cons _ (List.Sublist.cons_cons _ (List.nil_sublist _)))), hr⟩, ?_⟩
      try walk_nrm
      refine AnyF.all (rs := [24]) (by kernel_rfl) (by simp) ?_
      intro i hi
      simp only [List.mem_cons, List.not_mem_nil, or_false] at hi
      subst hi
      co_applyP OpF.cJ rfl (by rfl) rfl Try.func44 (by kernel_rfl) (by kernel_rfl) H
      intro K₀ w₁ hK0 H0
      co_apply Exists.intro
      co_apply And.intro
      · walk_nrm
        exact (hview u e (by omega) H0 hq).more (by omega)
      rintro _ K y' w hK2 ⟨rfl, hg1, H1⟩
      have hK1 := Nat.le_trans hK2 hK0
      clear hK2 hK0 H0
      replace hg := hg.trans hg1
      replace hr := hg1.role.trans hr
      have hq1 : y'.role.quiet = false := by rw [hr]; rfl
      replace hq := hq1
      replace H := H1
      clear hg1 H1 hq1 hK1
      try walk_nrm
      refine ⟨⟨H.sub (A := [_, _]) (List.Sublist.cons _ (List.Sublist.cons_cons _ (List.Sublist.cons_cons _ (List.nil_sublist _)))), hr⟩, ?_⟩
      try walk_nrm
      refine AnyF.all (rs := [25]) (by kernel_rfl) (by simp) ?_
      intro i hi
      simp only [List.mem_cons, List.not_mem_nil, or_false] at hi
      subst hi
      co_applyP OpF.cV rfl (by rfl) rfl rfl Try.func81 (by kernel_rfl) (by kernel_rfl) H
      intro K₀ w₁ hK0 H0
      co_apply Exists.intro
      co_apply And.intro
      · walk_nrm
        exact (hdeed _ u e hu2 H0 hq).more (by omega)
      rintro _ K y' w hK2 ⟨rfl, hg1, H1⟩
      have hK1 := Nat.le_trans hK2 hK0
      clear hK2 hK0 H0
      replace hg := hg.trans hg1
      replace hr := hg1.role.trans hr
      have hq1 : y'.role.quiet = false := by rw [hr]; rfl
      replace hq := hq1
      replace H := H1
      clear hg1 H1 hq1 hK1
      try walk_nrm
      refine ⟨⟨H.sub (A := [_, _]) (List.Sublist.cons _ (List.Sublist.cons_cons _ (List.Sublist.cons_cons _ (List.nil_sublist _)))), hr⟩, ?_⟩
      try walk_nrm
      co_applyP AnyF.take Sd.rely (i := 26) rfl (by kernel_rfl) (by kernel_rfl) (by kernel_rfl) (YF.pu (by rfl) (fun _ => run_eq_of ?run) (fun _ => by simp [go_sem, *])) ⟨H.sub (A := [_, _]) (List.Sublist.cons _ (List.Sublist.cons_cons _ (List.Sublist.cons_cons _ (List.nil_sublist _)))), hr⟩
      case run => intro K hK; go_simp; exact hK
      try walk_nrm
      co_applyP AnyF.take Sd.rely (i := 27) rfl (by kernel_rfl) (by kernel_rfl) (by kernel_rfl) (YF.pu (by rfl) (fun _ => run_eq_of ?run) (fun _ => by simp [go_sem, *])) ⟨H.sub (A := [_, _]) (List.Sublist.cons _ (List.Sublist.cons_cons _ (List.Sublist.cons_cons _ (List.nil_sublist _)))), hr⟩
      case run => intro K hK; go_simp; exact hK
      try walk_nrm
      co_applyP AnyF.take Sd.rely (i := 28) rfl (by kernel_rfl) (by kernel_rfl) (by kernel_rfl) (YF.pu (by rfl) (fun _ => run_eq_of ?run) (fun _ => by simp [go_sem, *])) ⟨H.sub (A := [_, _]) (List.Sublist.cons _ (List.Sublist.cons_cons _ (List.Sublist.cons_cons _ (List.nil_sublist _)))), hr⟩
      case run => intro K hK; go_simp; exact hK
      try walk_nrm
      refine AnyF.all (rs := [30]) (by kernel_rfl) (by simp) ?_
      intro i hi
      simp only [List.mem_cons, List.not_mem_nil, or_false] at hi
      subst hi
      co_applyP OpF.str 0 rfl (by rfl) rfl H hq rfl rfl rfl (by kernel_rfl) (by rfl) (by kernel_rfl)
      intro K w hK1 H1
      replace H := H1
      clear hK1 H1
      simp only [List.set_cons_zero] at H
      refine ⟨⟨H.sub (A := [_, _]) (List.Sublist.cons _ (List.Sublist.cons_cons _ (List.Sublist.cons_cons _ (List.nil_sublist _)))), hr⟩, ?_⟩
      try walk_nrm
      co_applyP AnyF.take Sd.rely (i := 31) rfl (by kernel_rfl) (by kernel_rfl) (by kernel_rfl) (YF.pu (by rfl) (fun _ => run_eq_of ?run) (fun _ => by simp [go_sem, *])) ⟨H.sub (A := [_, _]) (List.Sublist.cons _ (List.Sublist.cons_cons _ (List.Sublist.cons_cons _ (List.nil_sublist _)))), hr⟩
      case run => intro K hK; go_simp; exact hK
      try walk_nrm
      co_apply AnyF.done (by kernel_rfl)
      intro K hK1 w hr1
      replace H := H.rely hr1
      clear hr1 hK1
      try simp only [thenF]
      co_apply WF.seqP
      co_apply WF.region
      try simp only [List.size_toArray, List.length_cons, List.length_nil, Nat.reduceAdd, Nat.zero_add, List.range, List.range.loop]
      co_applyP OF.pu rfl (by rfl) (fun _ => run_eq_of ?run) (fun _ => by simp [go_sem, *])
      case run => intro K hK; go_simp; exact hK
      try walk_nrm
      co_applyP OF.ldr 0 rfl (by rfl) rfl H hq rfl rfl Try.underlying38 rfl (by kernel_rfl)
      intro K w hK1 hr1 H1
      replace H := H1
      clear hr1 hK1 H1
      try walk_nrm
      co_applyP OF.callJ rfl (by rfl) rfl
      · walk_nrm
        exact hpacked u e (by omega) H hq
      rintro _ K y' w hK1 ⟨rfl, hg1, H1⟩
      replace hg := hg.trans hg1
      replace hr := hg1.role.trans hr
      have hq1 : y'.role.quiet = false := by rw [hr]; rfl
      replace hq := hq1
      replace H := H1
      clear hg1 H1 hq1 hK1
      try walk_nrm
      co_applyP OF.pu rfl (by rfl) (fun _ => run_eq_of ?run) (fun _ => by simp [go_sem, *])
      case run => intro K hK; go_simp; exact hK
      try walk_nrm
      co_applyP OF.pu rfl (by rfl) (fun _ => run_eq_of ?run) (fun _ => by simp [go_sem, *])
      case run => intro K hK; go_simp; exact hK
      try walk_nrm
      co_applyP OF.st1 1 4 rfl (by rfl) rfl H hq rfl rfl rfl rfl rfl (by kernel_rfl)
      intro K w₁ w hK1 hr1 hu1 H1
      replace H := H1
      clear hr1 hK1 hu1 H1
      simp only [List.set_cons_zero, List.set_cons_succ, List.setIfInBounds_toArray] at H
      try walk_nrm
      co_apply OF.nil
      try simp only [thenF]
      co_apply WF.seqP (n₂ := 0)
      co_apply WF.seqP
      have hne : ((wdv (u : Int) e).num == (wdv (u : Int) e).num) = true := by simp
      co_apply WF.drawnB B (nd + nv + ng) (Sd N _ _ _) (by simp only [List.size_toArray, List.length_cons, List.length_nil, Nat.reduceAdd, Nat.zero_add]; omega) (by kernel_rfl)
      intro K hK1 w₀ hr1
      replace H := (H.rely hr1).drew
      clear hr1 hK1
      generalize ({ w₀ with drawn := w₀.drawn + 1 } : World) = w at H ⊢
      try simp only [List.size_toArray, List.length_cons, List.length_nil, Nat.reduceAdd, Nat.zero_add]
      co_applyP AnyF.take Sd.rely (i := 0) rfl (by kernel_rfl) (by kernel_rfl) (by kernel_rfl) (YF.pu (by rfl) (fun _ => run_eq_of ?run) (fun _ => by simp [go_sem, *])) ⟨H.sub (A := [_, _]) (List.Sublist.cons _ (List.Sublist.cons_cons _ (List.Sublist.cons_cons _ (List.nil_sublist _)))), hr⟩
      case run => intro K hK; go_simp; exact hK
      try walk_nrm
      co_applyP AnyF.take Sd.rely (i := 1) rfl (by kernel_rfl) (by kernel_rfl) (by kernel_rfl) (YF.pu (by rfl) (fun _ => run_eq_of ?run) (fun _ => by simp [go_sem, *])) ⟨H.sub (A := [_, _]) (List.Sublist.cons _ (List.Sublist.cons_cons _ (List.Sublist.cons_cons _ (List.nil_sublist _)))), hr⟩
      case run => intro K hK; go_simp; exact hK
      try walk_nrm
      co_applyP AnyF.take Sd.rely (i := 2) rfl (by kernel_rfl) (by kernel_rfl) (by kernel_rfl) (YF.pu (by rfl) (fun _ => run_eq_of ?run) (fun _ => by simp [go_sem, *])) ⟨H.sub (A := [_, _]) (List.Sublist.cons _ (List.Sublist.cons_cons _ (List.Sublist.cons_cons _ (List.nil_sublist _)))), hr⟩
      case run => intro K hK; go_simp; exact hK
      try walk_nrm
      co_applyP AnyF.take Sd.rely (i := 3) rfl (by kernel_rfl) (by kernel_rfl) (by kernel_rfl) (YF.ld1 0 4 (by rfl) rfl (by rfl) rfl rfl rfl Try.underlying102 rfl) ⟨H.sub (A := [_, _]) (List.Sublist.cons _ (List.Sublist.cons_cons _ (List.Sublist.cons_cons _ (List.nil_sublist _)))), hr⟩
      try walk_nrm
      co_applyP AnyF.take Sd.rely (i := 4) rfl (by kernel_rfl) (by kernel_rfl) (by kernel_rfl) (YF.pu (by rfl) (fun _ => run_eq_of ?run) (fun _ => by simp [go_sem, *])) ⟨H.sub (A := [_, _]) (List.Sublist.cons _ (List.Sublist.cons_cons _ (List.Sublist.cons_cons _ (List.nil_sublist _)))), hr⟩
      case run => intro K hK; go_simp; exact hK
      try walk_nrm
      co_applyP AnyF.take Sd.rely (i := 5) rfl (by kernel_rfl) (by kernel_rfl) (by kernel_rfl) (YF.pu (by rfl) (fun _ => run_eq_of ?run) (fun _ => by simp [go_sem, *])) ⟨H.sub (A := [_, _]) (List.Sublist.cons _ (List.Sublist.cons_cons _ (List.Sublist.cons_cons _ (List.nil_sublist _)))), hr⟩
      case run => intro K hK; go_simp; exact hK
      try walk_nrm
      co_applyP AnyF.take Sd.rely (i := 6) rfl (by kernel_rfl) (by kernel_rfl) (by kernel_rfl) (YF.pu (by rfl) (fun _ => run_eq_of ?run) (fun _ => by simp [go_sem, *])) ⟨H.sub (A := [_, _]) (List.Sublist.cons _ (List.Sublist.cons_cons _ (List.Sublist.cons_cons _ (List.nil_sublist _)))), hr⟩
      case run => intro K hK; go_simp; exact hK
      try walk_nrm
      co_applyP AnyF.take Sd.rely (i := 7) rfl (by kernel_rfl) (by kernel_rfl) (by kernel_rfl) (YF.ld1 0 3 (by rfl) rfl (by rfl) rfl rfl rfl Try.underlying102 rfl) ⟨H.sub (A := [_, _]) (List.Sublist.cons _ (List.Sublist.cons_cons _ (List.Sublist.cons_cons _ (List.nil_sublist _)))), hr⟩
      try walk_nrm
      co_applyP AnyF.take Sd.rely (i := 8) rfl (by kernel_rfl) (by kernel_rfl) (by kernel_rfl) (YF.pu (by rfl) (fun _ => run_eq_of ?run) (fun _ => by simp [go_sem, *])) ⟨H.sub (A := [_, _]) (List.Sublist.cons _ (List.Sublist.cons_cons _ (List.Sublist.cons_cons _ (List.nil_sublist _)))), hr⟩
      case run => intro K hK; go_simp; exact hK
      try walk_nrm
      co_apply AnyF.done (by kernel_rfl)
      intro K hK1 w hr1
      replace H := H.rely hr1
      clear hr1 hK1
      try simp only [thenF]
      co_apply WF.cond (t := true) rfl
      simp only [↓reduceIte]
      co_apply WF.seqP
      co_apply WF.region
      try simp only [List.size_toArray, List.length_cons, List.length_nil, Nat.reduceAdd, Nat.zero_add, List.range, List.range.loop]
      co_applyP OF.pu rfl (by rfl) (fun _ => run_eq_of ?run) (fun _ => by simp [go_sem, *])
      case run => intro K hK; go_simp; exact hK
      try walk_nrm
      co_applyP OF.pu rfl (by rfl) (fun _ => run_eq_of ?run) (fun _ => by simp [go_sem, *])
      case run => intro K hK; go_simp; exact hK
      try walk_nrm
      co_applyP OF.pu rfl (by rfl) (fun _ => run_eq_of ?run) (fun _ => by simp [go_sem, *])
      case run => intro K hK; go_simp; exact hK
      try walk_nrm
      co_applyP OF.pu rfl (by rfl) (fun _ => run_eq_of ?run) (fun _ => by simp [go_sem, *])
      case run => intro K hK; go_simp; exact hK
      try walk_nrm
      co_applyP OF.pu rfl (by rfl) (fun _ => run_eq_of ?run) (fun _ => by simp [go_sem, *])
      case run => intro K hK; go_simp; exact hK
      try walk_nrm
      co_applyP OF.pu rfl (by rfl) (fun _ => run_eq_of ?run) (fun _ => by simp [go_sem, *])
      case run => intro K hK; go_simp; exact hK
      try walk_nrm
      co_applyP OF.st1 1 7 rfl (by rfl) rfl H hq rfl rfl rfl rfl rfl (by kernel_rfl)
      intro K w₁ w hK1 hr1 hu1 H1
      replace H := H1
      clear hr1 hK1 hu1 H1
      simp only [List.set_cons_zero, List.set_cons_succ, List.setIfInBounds_toArray] at H
      try walk_nrm
      co_applyP OF.pu rfl (by rfl) (fun _ => run_eq_of ?run) (fun _ => by simp [go_sem, *])
      case run => intro K hK; go_simp; exact hK
      try walk_nrm
      co_applyP OF.pu rfl (by rfl) (fun _ => run_eq_of ?run) (fun _ => by simp [go_sem, *])
      case run => intro K hK; go_simp; exact hK
      try walk_nrm
      co_applyP OF.st1 1 6 rfl (by rfl) rfl H hq rfl rfl rfl rfl rfl (by kernel_rfl)
      intro K w₁ w hK1 hr1 hu1 H1
      replace H := H1
      clear hr1 hK1 hu1 H1
      simp only [List.set_cons_zero, List.set_cons_succ, List.setIfInBounds_toArray] at H
      try walk_nrm
      co_apply OF.nil
      try simp only [thenF]
      co_apply WF.ret
      try simp only [thenF]
      exact retG_of rfl (resultsC_none (by rfl) _) (fun K₂ hK₂ w₂ r₂ => ⟨rfl, hg, _, (H.rely r₂).tail⟩)
  · skip
    co_applyP OpF.al rfl (by rfl) H (fun _ => run_eq_of ?run) (fun _ => by simp [go_sem, *])
    case run => intro K hK; go_simp; exact hK
    intro K y' w b2 hK1 hg1 H1
    replace hg := hg.trans hg1
    replace hr := hg1.role.trans hr
    have hq1 : y'.role.quiet = false := by rw [hr]; rfl
    replace hq := hq1
    replace H := H1
    clear hg1 H1 hq1 hK1
    try walk_nrm
    refine ⟨⟨H.sub (A := [_, _]) (List.Sublist.cons _ (List.Sublist.cons_cons _ (List.Sublist.cons_cons _ (List.nil_sublist _)))), hr⟩, ?_⟩
    try walk_nrm
    refine AnyF.all (rs := [0]) (by kernel_rfl) (by simp) ?_
    intro i hi
    simp only [List.mem_cons, List.not_mem_nil, or_false] at hi
    subst hi
    co_applyP OpF.cJ rfl (by rfl) rfl Try.func60 (by kernel_rfl) (by kernel_rfl) H
    intro K₀ w₁ hK0 H0
    co_apply Exists.intro
    co_apply And.intro
    · walk_nrm
      exact (hdeeds H0 hq).more (by omega)
    rintro _ K y' w hK2 ⟨rfl, hg1, H1⟩
    have hK1 := Nat.le_trans hK2 hK0
    clear hK2 hK0 H0
    replace hg := hg.trans hg1
    replace hr := hg1.role.trans hr
    have hq1 : y'.role.quiet = false := by rw [hr]; rfl
    replace hq := hq1
    replace H := H1
    clear hg1 H1 hq1 hK1
    try walk_nrm
    refine ⟨⟨H.sub (A := [_, _]) (List.Sublist.cons _ (List.Sublist.cons_cons _ (List.Sublist.cons_cons _ (List.nil_sublist _)))), hr⟩, ?_⟩
    try walk_nrm
    co_applyP AnyF.take Sd.rely (i := 6) rfl (by kernel_rfl) (by kernel_rfl) (by kernel_rfl) (YF.pu (v := .agg #[.func (.func 81) #[] #[]]) (by rfl) (fun _ => by kernel_rfl) (fun _ => by kernel_rfl)) ⟨H.sub (A := [_, _]) (List.Sublist.cons _ (List.Sublist.cons_cons _ (List.Sublist.cons_cons _ (List.nil_sublist _)))), hr⟩
    try walk_nrm
    co_applyP AnyF.take Sd.rely (i := 7) rfl (by kernel_rfl) (by kernel_rfl) (by kernel_rfl) (YF.pu (v := .func (.func 81) #[] #[]) (by rfl) (fun _ => by kernel_rfl) (fun _ => by kernel_rfl)) ⟨H.sub (A := [_, _]) (List.Sublist.cons _ (List.Sublist.cons_cons _ (List.Sublist.cons_cons _ (List.nil_sublist _)))), hr⟩
    try walk_nrm
    refine AnyF.all (rs := [24]) (by kernel_rfl) (by simp) ?_
    intro i hi
    simp only [List.mem_cons, List.not_mem_nil, or_false] at hi
    subst hi
    co_applyP OpF.cJ rfl (by rfl) rfl Try.func44 (by kernel_rfl) (by kernel_rfl) H
    intro K₀ w₁ hK0 H0
    co_apply Exists.intro
    co_apply And.intro
    · walk_nrm
      exact (hview u e (by omega) H0 hq).more (by omega)
    rintro _ K y' w hK2 ⟨rfl, hg1, H1⟩
    have hK1 := Nat.le_trans hK2 hK0
    clear hK2 hK0 H0
    replace hg := hg.trans hg1
    replace hr := hg1.role.trans hr
    have hq1 : y'.role.quiet = false := by rw [hr]; rfl
    replace hq := hq1
    replace H := H1
    clear hg1 H1 hq1 hK1
    try walk_nrm
    refine ⟨⟨H.sub (A := [_, _]) (List.Sublist.cons _ (List.Sublist.cons_cons _ (List.Sublist.cons_cons _ (List.nil_sublist _)))), hr⟩, ?_⟩
    try walk_nrm
    refine AnyF.all (rs := [25]) (by kernel_rfl) (by simp) ?_
    intro i hi
    simp only [List.mem_cons, List.not_mem_nil, or_false] at hi
    subst hi
    co_applyP OpF.cV rfl (by rfl) rfl rfl Try.func81 (by kernel_rfl) (by kernel_rfl) H
    intro K₀ w₁ hK0 H0
    co_apply Exists.intro
    co_apply And.intro
    · walk_nrm
      exact (hdeed _ u e hu2 H0 hq).more (by omega)
    rintro _ K y' w hK2 ⟨rfl, hg1, H1⟩
    have hK1 := Nat.le_trans hK2 hK0
    clear hK2 hK0 H0
    replace hg := hg.trans hg1
    replace hr := hg1.role.trans hr
    have hq1 : y'.role.quiet = false := by rw [hr]; rfl
    replace hq := hq1
    replace H := H1
    clear hg1 H1 hq1 hK1
    try walk_nrm
    refine ⟨⟨H.sub (A := [_, _]) (List.Sublist.cons _ (List.Sublist.cons_cons _ (List.Sublist.cons_cons _ (List.nil_sublist _)))), hr⟩, ?_⟩
    try walk_nrm
    co_applyP AnyF.take Sd.rely (i := 26) rfl (by kernel_rfl) (by kernel_rfl) (by kernel_rfl) (YF.pu (by rfl) (fun _ => run_eq_of ?run) (fun _ => by simp [go_sem, *])) ⟨H.sub (A := [_, _]) (List.Sublist.cons _ (List.Sublist.cons_cons _ (List.Sublist.cons_cons _ (List.nil_sublist _)))), hr⟩
    case run => intro K hK; go_simp; exact hK
    try walk_nrm
    co_applyP AnyF.take Sd.rely (i := 27) rfl (by kernel_rfl) (by kernel_rfl) (by kernel_rfl) (YF.pu (by rfl) (fun _ => run_eq_of ?run) (fun _ => by simp [go_sem, *])) ⟨H.sub (A := [_, _]) (List.Sublist.cons _ (List.Sublist.cons_cons _ (List.Sublist.cons_cons _ (List.nil_sublist _)))), hr⟩
    case run => intro K hK; go_simp; exact hK
    try walk_nrm
    co_applyP AnyF.take Sd.rely (i := 28) rfl (by kernel_rfl) (by kernel_rfl) (by kernel_rfl) (YF.pu (by rfl) (fun _ => run_eq_of ?run) (fun _ => by simp [go_sem, *])) ⟨H.sub (A := [_, _]) (List.Sublist.cons _ (List.Sublist.cons_cons _ (List.Sublist.cons_cons _ (List.nil_sublist _)))), hr⟩
    case run => intro K hK; go_simp; exact hK
    try walk_nrm
    refine AnyF.all (rs := [30]) (by kernel_rfl) (by simp) ?_
    intro i hi
    simp only [List.mem_cons, List.not_mem_nil, or_false] at hi
    subst hi
    co_applyP OpF.str 0 rfl (by rfl) rfl H hq rfl rfl rfl (by kernel_rfl) (by rfl) (by kernel_rfl)
    intro K w hK1 H1
    replace H := H1
    clear hK1 H1
    simp only [List.set_cons_zero] at H
    refine ⟨⟨H.sub (A := [_, _]) (List.Sublist.cons _ (List.Sublist.cons_cons _ (List.Sublist.cons_cons _ (List.nil_sublist _)))), hr⟩, ?_⟩
    try walk_nrm
    co_applyP AnyF.take Sd.rely (i := 31) rfl (by kernel_rfl) (by kernel_rfl) (by kernel_rfl) (YF.pu (by rfl) (fun _ => run_eq_of ?run) (fun _ => by simp [go_sem, *])) ⟨H.sub (A := [_, _]) (List.Sublist.cons _ (List.Sublist.cons_cons _ (List.Sublist.cons_cons _ (List.nil_sublist _)))), hr⟩
    case run => intro K hK; go_simp; exact hK
    try walk_nrm
    co_apply AnyF.done (by kernel_rfl)
    intro K hK1 w hr1
    replace H := H.rely hr1
    clear hr1 hK1
    try simp only [thenF]
    co_apply WF.seqP
    co_apply WF.region
    try simp only [List.size_toArray, List.length_cons, List.length_nil, Nat.reduceAdd, Nat.zero_add, List.range, List.range.loop]
    co_applyP OF.pu rfl (by rfl) (fun _ => run_eq_of ?run) (fun _ => by simp [go_sem, *])
    case run => intro K hK; go_simp; exact hK
    try walk_nrm
    co_applyP OF.ldr 0 rfl (by rfl) rfl H hq rfl rfl Try.underlying38 rfl (by kernel_rfl)
    intro K w hK1 hr1 H1
    replace H := H1
    clear hr1 hK1 H1
    try walk_nrm
    co_applyP OF.callJ rfl (by rfl) rfl
    · walk_nrm
      exact hpacked u e (by omega) H hq
    rintro _ K y' w hK1 ⟨rfl, hg1, H1⟩
    replace hg := hg.trans hg1
    replace hr := hg1.role.trans hr
    have hq1 : y'.role.quiet = false := by rw [hr]; rfl
    replace hq := hq1
    replace H := H1
    clear hg1 H1 hq1 hK1
    try walk_nrm
    co_applyP OF.pu rfl (by rfl) (fun _ => run_eq_of ?run) (fun _ => by simp [go_sem, *])
    case run => intro K hK; go_simp; exact hK
    try walk_nrm
    co_applyP OF.pu rfl (by rfl) (fun _ => run_eq_of ?run) (fun _ => by simp [go_sem, *])
    case run => intro K hK; go_simp; exact hK
    try walk_nrm
    co_applyP OF.st1 1 4 rfl (by rfl) rfl H hq rfl rfl rfl rfl rfl (by kernel_rfl)
    intro K w₁ w hK1 hr1 hu1 H1
    replace H := H1
    clear hr1 hK1 hu1 H1
    simp only [List.set_cons_zero, List.set_cons_succ, List.setIfInBounds_toArray] at H
    try walk_nrm
    co_apply OF.nil
    try simp only [thenF]
    co_apply WF.seqP (n₂ := 0)
    co_apply WF.seqP
    have hne : ((wdv (u : Int) e).num == (wdv (u : Int) e).num) = true := by simp
    co_apply WF.drawnB B (nd + nv + ng) (Sd N _ _ _) (by simp only [List.size_toArray, List.length_cons, List.length_nil, Nat.reduceAdd, Nat.zero_add]; omega) (by kernel_rfl)
    intro K hK1 w₀ hr1
    replace H := (H.rely hr1).drew
    clear hr1 hK1
    generalize ({ w₀ with drawn := w₀.drawn + 1 } : World) = w at H ⊢
    try simp only [List.size_toArray, List.length_cons, List.length_nil, Nat.reduceAdd, Nat.zero_add]
    co_applyP AnyF.take Sd.rely (i := 0) rfl (by kernel_rfl) (by kernel_rfl) (by kernel_rfl) (YF.pu (by rfl) (fun _ => run_eq_of ?run) (fun _ => by simp [go_sem, *])) ⟨H.sub (A := [_, _]) (List.Sublist.cons _ (List.Sublist.cons_cons _ (List.Sublist.cons_cons _ (List.nil_sublist _)))), hr⟩
    case run => intro K hK; go_simp; exact hK
    try walk_nrm
    co_applyP AnyF.take Sd.rely (i := 1) rfl (by kernel_rfl) (by kernel_rfl) (by kernel_rfl) (YF.pu (by rfl) (fun _ => run_eq_of ?run) (fun _ => by simp [go_sem, *])) ⟨H.sub (A := [_, _]) (List.Sublist.cons _ (List.Sublist.cons_cons _ (List.Sublist.cons_cons _ (List.nil_sublist _)))), hr⟩
    case run => intro K hK; go_simp; exact hK
    try walk_nrm
    co_applyP AnyF.take Sd.rely (i := 2) rfl (by kernel_rfl) (by kernel_rfl) (by kernel_rfl) (YF.pu (by rfl) (fun _ => run_eq_of ?run) (fun _ => by simp [go_sem, *])) ⟨H.sub (A := [_, _]) (List.Sublist.cons _ (List.Sublist.cons_cons _ (List.Sublist.cons_cons _ (List.nil_sublist _)))), hr⟩
    case run => intro K hK; go_simp; exact hK
    try walk_nrm
    co_applyP AnyF.take Sd.rely (i := 3) rfl (by kernel_rfl) (by kernel_rfl) (by kernel_rfl) (YF.ld1 0 4 (by rfl) rfl (by rfl) rfl rfl rfl Try.underlying102 rfl) ⟨H.sub (A := [_, _]) (List.Sublist.cons _ (List.Sublist.cons_cons _ (List.Sublist.cons_cons _ (List.nil_sublist _)))), hr⟩
    try walk_nrm
    co_applyP AnyF.take Sd.rely (i := 4) rfl (by kernel_rfl) (by kernel_rfl) (by kernel_rfl) (YF.pu (by rfl) (fun _ => run_eq_of ?run) (fun _ => by simp [go_sem, *])) ⟨H.sub (A := [_, _]) (List.Sublist.cons _ (List.Sublist.cons_cons _ (List.Sublist.cons_cons _ (List.nil_sublist _)))), hr⟩
    case run => intro K hK; go_simp; exact hK
    try walk_nrm
    co_applyP AnyF.take Sd.rely (i := 5) rfl (by kernel_rfl) (by kernel_rfl) (by kernel_rfl) (YF.pu (by rfl) (fun _ => run_eq_of ?run) (fun _ => by simp [go_sem, *])) ⟨H.sub (A := [_, _]) (List.Sublist.cons _ (List.Sublist.cons_cons _ (List.Sublist.cons_cons _ (List.nil_sublist _)))), hr⟩
    case run => intro K hK; go_simp; exact hK
    try walk_nrm
    co_applyP AnyF.take Sd.rely (i := 6) rfl (by kernel_rfl) (by kernel_rfl) (by kernel_rfl) (YF.pu (by rfl) (fun _ => run_eq_of ?run) (fun _ => by simp [go_sem, *])) ⟨H.sub (A := [_, _]) (List.Sublist.cons _ (List.Sublist.cons_cons _ (List.Sublist.cons_cons _ (List.nil_sublist _)))), hr⟩
    case run => intro K hK; go_simp; exact hK
    try walk_nrm
    co_applyP AnyF.take Sd.rely (i := 7) rfl (by kernel_rfl) (by kernel_rfl) (by kernel_rfl) (YF.ld1 0 3 (by rfl) rfl (by rfl) rfl rfl rfl Try.underlying102 rfl) ⟨H.sub (A := [_, _]) (List.Sublist.cons _ (List.Sublist.cons_cons _ (List.Sublist.cons_cons _ (List.nil_sublist _)))), hr⟩
    try walk_nrm
    co_applyP AnyF.take Sd.rely (i := 8) rfl (by kernel_rfl) (by kernel_rfl) (by kernel_rfl) (YF.pu (by rfl) (fun _ => run_eq_of ?run) (fun _ => by simp [go_sem, *])) ⟨H.sub (A := [_, _]) (List.Sublist.cons _ (List.Sublist.cons_cons _ (List.Sublist.cons_cons _ (List.nil_sublist _)))), hr⟩
    case run => intro K hK; go_simp; exact hK
    try walk_nrm
    co_apply AnyF.done (by kernel_rfl)
    intro K hK1 w hr1
    replace H := H.rely hr1
    clear hr1 hK1
    try simp only [thenF]
    co_apply WF.cond (t := true) rfl
    simp only [↓reduceIte]
    co_apply WF.seqP
    co_apply WF.region
    try simp only [List.size_toArray, List.length_cons, List.length_nil, Nat.reduceAdd, Nat.zero_add, List.range, List.range.loop]
    co_applyP OF.pu rfl (by rfl) (fun _ => run_eq_of ?run) (fun _ => by simp [go_sem, *])
    case run => intro K hK; go_simp; exact hK
    try walk_nrm
    co_applyP OF.pu rfl (by rfl) (fun _ => run_eq_of ?run) (fun _ => by simp [go_sem, *])
    case run => intro K hK; go_simp; exact hK
    try walk_nrm
    co_applyP OF.pu rfl (by rfl) (fun _ => run_eq_of ?run) (fun _ => by simp [go_sem, *])
    case run => intro K hK; go_simp; exact hK
    try walk_nrm
    co_applyP OF.pu rfl (by rfl) (fun _ => run_eq_of ?run) (fun _ => by simp [go_sem, *])
    case run => intro K hK; go_simp; exact hK
    try walk_nrm
    co_applyP OF.pu rfl (by rfl) (fun _ => run_eq_of ?run) (fun _ => by simp [go_sem, *])
    case run => intro K hK; go_simp; exact hK
    try walk_nrm
    co_applyP OF.pu rfl (by rfl) (fun _ => run_eq_of ?run) (fun _ => by simp [go_sem, *])
    case run => intro K hK; go_simp; exact hK
    try walk_nrm
    co_applyP OF.st1 1 7 rfl (by rfl) rfl H hq rfl rfl rfl rfl rfl (by kernel_rfl)
    intro K w₁ w hK1 hr1 hu1 H1
    replace H := H1
    clear hr1 hK1 hu1 H1
    simp only [List.set_cons_zero, List.set_cons_succ, List.setIfInBounds_toArray] at H
    try walk_nrm
    co_applyP OF.pu rfl (by rfl) (fun _ => run_eq_of ?run) (fun _ => by simp [go_sem, *])
    case run => intro K hK; go_simp; exact hK
    try walk_nrm
    co_applyP OF.pu rfl (by rfl) (fun _ => run_eq_of ?run) (fun _ => by simp [go_sem, *])
    case run => intro K hK; go_simp; exact hK
    try walk_nrm
    co_applyP OF.st1 1 6 rfl (by rfl) rfl H hq rfl rfl rfl rfl rfl (by kernel_rfl)
    intro K w₁ w hK1 hr1 hu1 H1
    replace H := H1
    clear hr1 hK1 hu1 H1
    simp only [List.set_cons_zero, List.set_cons_succ, List.setIfInBounds_toArray] at H
    try walk_nrm
    co_apply OF.nil
    try simp only [thenF]
    co_apply WF.ret
    try simp only [thenF]
    exact retG_of rfl (resultsC_none (by rfl) _) (fun K₂ hK₂ w₂ r₂ => ⟨rfl, hg, _, (H.rely r₂).tail⟩)

set_option maxHeartbeats 8000000 in
set_option maxRecDepth 100000 in
theorem osweep_0 : ∃ nf, ∀ {N : Nat} {F : Nat → World → Prop} {m : Bool} {y : Gh Role} {K : Nat} {w : World} {l : List Row} (sh : Nat → Prop) (g ba : Nat) (d was nxt code tries : Int) (_ : 0 ≤ d ∧ d ≤ 2147483647) (_ : y.role = .alone sh) (_ : Ctx N F y K w ((ba, #[.pointer (some ⟨g, 0, none⟩), .int .u8 3, .int .i64 2147483647, .int .u64 was, .int .u64 nxt, .bool false, .bool false, .int .i64 code, .int .i64 tries], 106) :: (g, #[.int .i64 d, .int .u64 (wdv ((0 : Nat) : Int) true).num], 100) :: l)),
    CJ (S N) m 45 #[.pointer (some ⟨ba, 0, none⟩)] nf (fun r K' y' w' => r = .tuple #[] ∧ Gr y y' ∧ ∃ code' : Int, Ctx N F y' K' w' ((ba, #[.pointer (some ⟨g, 0, none⟩), .int .u8 3, .int .i64 2147483647, .int .u64 (wdv ((0 : Nat) : Int) true).num, .int .u64 slept.num, .bool true, .bool false, .int .i64 code', .int .i64 tries], 106) :: (g, #[.int .i64 d, .int .u64 (wdv ((0 : Nat) : Int) true).num], 100) :: l)) K y w := by
  obtain ⟨nl, hload⟩ := load_o
  obtain ⟨nd, hdeeds⟩ := deeds_c
  obtain ⟨nv, hview⟩ := view_wL
  obtain ⟨ng, hdeed⟩ := sweep0_w
  obtain ⟨np, hpacked⟩ := packed_s
  obtain ⟨B, hB⟩ : ∃ B, 40 * (nd + nv + ng + 1) + 2 ≤ B := ⟨_, Nat.le_refl _⟩
  co_apply Exists.intro
  intro N F m y K w l sh g ba d was nxt code tries hd hr H
  have hg := Gr.refl y
  have hq : y.role.quiet = false := by rw [hr]; rfl
  co_apply CJ.of_WF Try.func45 (by kernel_rfl) (by rfl)
  simp only [show Try.f45.ntmps = 102 from rfl]
  try walk_nrm
  co_apply WF.seqP
  co_apply WF.seqP
  co_apply WF.region
  try simp only [List.size_toArray, List.length_cons, List.length_nil, Nat.reduceAdd, Nat.zero_add, List.range, List.range.loop]
  co_applyP OF.pu rfl (by rfl) (fun _ => run_eq_of ?run) (fun _ => by simp [go_sem, *])
  case run => intro K hK; go_simp; exact hK
  try walk_nrm
  co_applyP OF.pu rfl (by rfl) (fun _ => run_eq_of ?run) (fun _ => by simp [go_sem, *])
  case run => intro K hK; go_simp; exact hK
  try walk_nrm
  co_applyP OF.pu rfl (by rfl) (fun _ => run_eq_of ?run) (fun _ => by simp [go_sem, *])
  case run => intro K hK; go_simp; exact hK
  try walk_nrm
  co_applyP OF.ld1 0 5 rfl (by rfl) rfl H hq rfl rfl rfl Try.underlying4 rfl
  intro K w hK1 hr1 H1
  replace H := H1
  clear hr1 hK1 H1
  try walk_nrm
  co_apply OF.nil
  try simp only [thenF]
  co_apply WF.cond (t := false) rfl
  simp only [Bool.false_eq_true, ↓reduceIte]
  co_apply WF.skip
  try simp only [thenF]
  co_apply WF.seqP
  co_apply WF.region
  try simp only [List.size_toArray, List.length_cons, List.length_nil, Nat.reduceAdd, Nat.zero_add, List.range, List.range.loop]
  co_applyP OF.pu rfl (by rfl) (fun _ => run_eq_of ?run) (fun _ => by simp [go_sem, *])
  case run => intro K hK; go_simp; exact hK
  try walk_nrm
  co_applyP OF.pu rfl (by rfl) (fun _ => run_eq_of ?run) (fun _ => by simp [go_sem, *])
  case run => intro K hK; go_simp; exact hK
  try walk_nrm
  co_applyP OF.pu rfl (by rfl) (fun _ => run_eq_of ?run) (fun _ => by simp [go_sem, *])
  case run => intro K hK; go_simp; exact hK
  try walk_nrm
  co_applyP OF.pu rfl (by rfl) (fun _ => run_eq_of ?run) (fun _ => by simp [go_sem, *])
  case run => intro K hK; go_simp; exact hK
  try walk_nrm
  co_applyP OF.ld1 0 0 rfl (by rfl) rfl H hq rfl rfl rfl Try.underlying23 rfl
  intro K w hK1 hr1 H1
  replace H := H1
  clear hr1 hK1 H1
  try walk_nrm
  co_applyP OF.pu rfl (by rfl) (fun _ => run_eq_of ?run) (fun _ => by simp [go_sem, *])
  case run => intro K hK; go_simp; exact hK
  try walk_nrm
  co_applyP OF.pu rfl (by rfl) (fun _ => run_eq_of ?run) (fun _ => by simp [go_sem, *])
  case run => intro K hK; go_simp; exact hK
  try walk_nrm
  co_applyP OF.callJ rfl (by rfl) rfl
  · walk_nrm
    exact hload sh g d _ hr H.swap
  rintro _ K y' w hK1 ⟨rfl, hg1, H1⟩
  replace hg := hg.trans hg1
  replace hr := hg1.role.trans hr
  have hq1 : y'.role.quiet = false := by rw [hr]; rfl
  replace hq := hq1
  replace H := H1
  replace H := H.swap
  clear hg1 H1 hq1 hK1
  try walk_nrm
  co_applyP OF.pu rfl (by rfl) (fun _ => run_eq_of ?run) (fun _ => by simp [go_sem, *])
  case run => intro K hK; go_simp; exact hK
  try walk_nrm
  co_applyP OF.pu rfl (by rfl) (fun _ => run_eq_of ?run) (fun _ => by simp [go_sem, *])
  case run => intro K hK; go_simp; exact hK
  try walk_nrm
  co_applyP OF.st1 0 3 rfl (by rfl) rfl H hq rfl rfl rfl rfl rfl (by kernel_rfl)
  intro K w₁ w hK1 hr1 hu1 H1
  replace H := H1
  clear hr1 hK1 hu1 H1
  simp only [List.set_cons_zero, List.set_cons_succ, List.setIfInBounds_toArray] at H
  try walk_nrm
  co_apply OF.nil
  try simp only [thenF]
  co_apply WF.seqP
  co_apply WF.drawnB B (nd + nv + ng) (Sd N _ _ _) (by simp only [List.size_toArray, List.length_cons, List.length_nil, Nat.reduceAdd, Nat.zero_add]; omega) (by kernel_rfl)
  intro K hK1 w₀ hr1
  replace H := (H.rely hr1).drew
  clear hr1 hK1
  generalize ({ w₀ with drawn := w₀.drawn + 1 } : World) = w at H ⊢
  try simp only [List.size_toArray, List.length_cons, List.length_nil, Nat.reduceAdd, Nat.zero_add]
  co_applyP AnyF.take Sd.rely (i := 1) rfl (by kernel_rfl) (by kernel_rfl) (by kernel_rfl) (YF.pu (by rfl) (fun _ => run_eq_of ?run) (fun _ => by simp [go_sem, *])) ⟨H.sub (A := [_, _]) (List.Sublist.cons_cons _ (List.Sublist.cons_cons _ (List.nil_sublist _))), hr⟩
  case run => intro K hK; go_simp; exact hK
  try walk_nrm
  co_applyP AnyF.take Sd.rely (i := 2) rfl (by kernel_rfl) (by kernel_rfl) (by kernel_rfl) (YF.pu (by rfl) (fun _ => run_eq_of ?run) (fun _ => by simp [go_sem, *])) ⟨H.sub (A := [_, _]) (List.Sublist.cons_cons _ (List.Sublist.cons_cons _ (List.nil_sublist _))), hr⟩
  case run => intro K hK; go_simp; exact hK
  try walk_nrm
  co_applyP AnyF.take Sd.rely (i := 3) rfl (by kernel_rfl) (by kernel_rfl) (by kernel_rfl) (YF.pu (by rfl) (fun _ => run_eq_of ?run) (fun _ => by simp [go_sem, *])) ⟨H.sub (A := [_, _]) (List.Sublist.cons_cons _ (List.Sublist.cons_cons _ (List.nil_sublist _))), hr⟩
  case run => intro K hK; go_simp; exact hK
  try walk_nrm
  co_applyP AnyF.take Sd.rely (i := 4) rfl (by kernel_rfl) (by kernel_rfl) (by kernel_rfl) (YF.pu (by rfl) (fun _ => run_eq_of ?run) (fun _ => by simp [go_sem, *])) ⟨H.sub (A := [_, _]) (List.Sublist.cons_cons _ (List.Sublist.cons_cons _ (List.nil_sublist _))), hr⟩
  case run => intro K hK; go_simp; exact hK
  try walk_nrm
  co_applyP AnyF.take Sd.rely (i := 5) rfl (by kernel_rfl) (by kernel_rfl) (by kernel_rfl) (YF.ld1 0 1 (by rfl) rfl (by rfl) rfl rfl rfl Try.underlying5 rfl) ⟨H.sub (A := [_, _]) (List.Sublist.cons_cons _ (List.Sublist.cons_cons _ (List.nil_sublist _))), hr⟩
  try walk_nrm
  co_applyP AnyF.take Sd.rely (i := 8) rfl (by kernel_rfl) (by kernel_rfl) (by kernel_rfl) (YF.pu (by rfl) (fun _ => run_eq_of ?run) (fun _ => by simp [go_sem, *])) ⟨H.sub (A := [_, _]) (List.Sublist.cons_cons _ (List.Sublist.cons_cons _ (List.nil_sublist _))), hr⟩
  case run => intro K hK; go_simp; exact hK
  try walk_nrm
  co_applyP AnyF.take Sd.rely (i := 9) rfl (by kernel_rfl) (by kernel_rfl) (by kernel_rfl) (YF.pu (by rfl) (fun _ => run_eq_of ?run) (fun _ => by simp [go_sem, *])) ⟨H.sub (A := [_, _]) (List.Sublist.cons_cons _ (List.Sublist.cons_cons _ (List.nil_sublist _))), hr⟩
  case run => intro K hK; go_simp; exact hK
  try walk_nrm
  co_applyP AnyF.take Sd.rely (i := 10) rfl (by kernel_rfl) (by kernel_rfl) (by kernel_rfl) (YF.pu (by rfl) (fun _ => run_eq_of ?run) (fun _ => by simp [go_sem, *])) ⟨H.sub (A := [_, _]) (List.Sublist.cons_cons _ (List.Sublist.cons_cons _ (List.nil_sublist _))), hr⟩
  case run => intro K hK; go_simp; exact hK
  try walk_nrm
  co_applyP AnyF.take Sd.rely (i := 11) rfl (by kernel_rfl) (by kernel_rfl) (by kernel_rfl) (YF.ld1 0 0 (by rfl) rfl (by rfl) rfl rfl rfl Try.underlying23 rfl) ⟨H.sub (A := [_, _]) (List.Sublist.cons_cons _ (List.Sublist.cons_cons _ (List.nil_sublist _))), hr⟩
  try walk_nrm
  co_applyP AnyF.take Sd.rely (i := 12) rfl (by kernel_rfl) (by kernel_rfl) (by kernel_rfl) (YF.pu (by rfl) (fun _ => run_eq_of ?run) (fun _ => by simp [go_sem, *])) ⟨H.sub (A := [_, _]) (List.Sublist.cons_cons _ (List.Sublist.cons_cons _ (List.nil_sublist _))), hr⟩
  case run => intro K hK; go_simp; exact hK
  try walk_nrm
  co_applyP AnyF.take Sd.rely (i := 13) rfl (by kernel_rfl) (by kernel_rfl) (by kernel_rfl) (YF.pu (by rfl) (fun _ => run_eq_of ?run) (fun _ => by simp [go_sem, *])) ⟨H.sub (A := [_, _]) (List.Sublist.cons_cons _ (List.Sublist.cons_cons _ (List.nil_sublist _))), hr⟩
  case run => intro K hK; go_simp; exact hK
  try walk_nrm
  co_applyP AnyF.take Sd.rely (i := 14) rfl (by kernel_rfl) (by kernel_rfl) (by kernel_rfl) (YF.ld1 1 0 (by rfl) rfl (by rfl) rfl rfl rfl Try.underlying3 rfl) ⟨H.sub (A := [_, _]) (List.Sublist.cons_cons _ (List.Sublist.cons_cons _ (List.nil_sublist _))), hr⟩
  try walk_nrm
  co_applyP AnyF.take Sd.rely (i := 15) rfl (by kernel_rfl) (by kernel_rfl) (by kernel_rfl) (YF.pu (by rfl) (fun _ => run_eq_of ?run) (fun _ => by simp [go_sem, *])) ⟨H.sub (A := [_, _]) (List.Sublist.cons_cons _ (List.Sublist.cons_cons _ (List.nil_sublist _))), hr⟩
  case run => intro K hK; go_simp; exact hK
  try walk_nrm
  co_applyP AnyF.take Sd.rely (i := 16) rfl (by kernel_rfl) (by kernel_rfl) (by kernel_rfl) (YF.pu (by rfl) (fun _ => run_eq_of ?run) (fun _ => by simp [go_sem, *])) ⟨H.sub (A := [_, _]) (List.Sublist.cons_cons _ (List.Sublist.cons_cons _ (List.nil_sublist _))), hr⟩
  case run => intro K hK; go_simp; exact hK
  try walk_nrm
  co_applyP AnyF.take Sd.rely (i := 17) rfl (by kernel_rfl) (by kernel_rfl) (by kernel_rfl) (YF.pu (by rfl) (fun _ => run_eq_of ?run) (fun _ => by simp [go_sem, *])) ⟨H.sub (A := [_, _]) (List.Sublist.cons_cons _ (List.Sublist.cons_cons _ (List.nil_sublist _))), hr⟩
  case run => intro K hK; go_simp; exact hK
  try walk_nrm
  co_applyP AnyF.take Sd.rely (i := 18) rfl (by kernel_rfl) (by kernel_rfl) (by kernel_rfl) (YF.pu (by rfl) (fun _ => run_eq_of ?run) (fun _ => by simp [go_sem, *])) ⟨H.sub (A := [_, _]) (List.Sublist.cons_cons _ (List.Sublist.cons_cons _ (List.nil_sublist _))), hr⟩
  case run => intro K hK; go_simp; exact hK
  try walk_nrm
  co_applyP AnyF.take Sd.rely (i := 19) rfl (by kernel_rfl) (by kernel_rfl) (by kernel_rfl) (YF.ld1 0 2 (by rfl) rfl (by rfl) rfl rfl rfl Try.underlying3 rfl) ⟨H.sub (A := [_, _]) (List.Sublist.cons_cons _ (List.Sublist.cons_cons _ (List.nil_sublist _))), hr⟩
  try walk_nrm
  co_applyP AnyF.take Sd.rely (i := 20) rfl (by kernel_rfl) (by kernel_rfl) (by kernel_rfl) (YF.pu (by rfl) (fun _ => run_eq_of ?run) (fun _ => by simp [go_sem, *])) ⟨H.sub (A := [_, _]) (List.Sublist.cons_cons _ (List.Sublist.cons_cons _ (List.nil_sublist _))), hr⟩
  case run => intro K hK; go_simp; exact hK
  try walk_nrm
  co_applyP AnyF.take Sd.rely (i := 21) rfl (by kernel_rfl) (by kernel_rfl) (by kernel_rfl) (YF.pu (by rfl) (fun _ => run_eq_of ?run) (fun _ => by simp [go_sem, *])) ⟨H.sub (A := [_, _]) (List.Sublist.cons_cons _ (List.Sublist.cons_cons _ (List.nil_sublist _))), hr⟩
  case run => intro K hK; go_simp; exact hK
  try walk_nrm
  co_applyP AnyF.take Sd.rely (i := 22) rfl (by kernel_rfl) (by kernel_rfl) (by kernel_rfl) (YF.pu (by rfl) (fun _ => run_eq_of ?run) (fun _ => by simp [go_sem, *])) ⟨H.sub (A := [_, _]) (List.Sublist.cons_cons _ (List.Sublist.cons_cons _ (List.nil_sublist _))), hr⟩
  case run => intro K hK; go_simp; exact hK
  try walk_nrm
  co_applyP AnyF.take Sd.rely (i := 23) rfl (by kernel_rfl) (by kernel_rfl) (by kernel_rfl) (YF.ld1 0 3 (by rfl) rfl (by rfl) rfl rfl rfl Try.underlying102 rfl) ⟨H.sub (A := [_, _]) (List.Sublist.cons_cons _ (List.Sublist.cons_cons _ (List.nil_sublist _))), hr⟩
  try walk_nrm
  refine AnyF.all (rs := [0, 29]) (by kernel_rfl) (by simp) ?_
  intro i hi
  simp only [List.mem_cons, List.not_mem_nil, or_false] at hi
  rcases hi with rfl | rfl
  · skip
    co_applyP OpF.cJ rfl (by rfl) rfl Try.func60 (by kernel_rfl) (by kernel_rfl) H
    intro K₀ w₁ hK0 H0
    co_apply Exists.intro
    co_apply And.intro
    · walk_nrm
      exact (hdeeds H0 hq).more (by omega)
    rintro _ K y' w hK2 ⟨rfl, hg1, H1⟩
    have hK1 := Nat.le_trans hK2 hK0
    clear hK2 hK0 H0
    replace hg := hg.trans hg1
    replace hr := hg1.role.trans hr
    have hq1 : y'.role.quiet = false := by rw [hr]; rfl
    replace hq := hq1
    replace H := H1
    clear hg1 H1 hq1 hK1
    try walk_nrm
    refine ⟨⟨H.sub (A := [_, _]) (List.Sublist.cons_cons _ (List.Sublist.cons_cons _ (List.nil_sublist _))), hr⟩, ?_⟩
    try walk_nrm
    co_applyP AnyF.take Sd.rely (i := 6) rfl (by kernel_rfl) (by kernel_rfl) (by kernel_rfl) (YF.pu (v := .agg #[.func (.func 81) #[] #[]]) (by rfl) (fun _ => by kernel_rfl) (fun _ => by kernel_rfl)) ⟨H.sub (A := [_, _]) (List.Sublist.cons_cons _ (List.Sublist.cons_cons _ (List.nil_sublist _))), hr⟩
    try walk_nrm
    co_applyP AnyF.take Sd.rely (i := 7) rfl (by kernel_rfl) (by kernel_rfl) (by kernel_rfl) (YF.pu (v := .func (.func 81) #[] #[]) (by rfl) (fun _ => by kernel_rfl) (fun _ => by kernel_rfl)) ⟨H.sub (A := [_, _]) (List.Sublist.cons_cons _ (List.Sublist.cons_cons _ (List.nil_sublist _))), hr⟩
    try walk_nrm
    refine AnyF.all (rs := [24, 29]) (by kernel_rfl) (by simp) ?_
    intro i hi
    simp only [List.mem_cons, List.not_mem_nil, or_false] at hi
    rcases hi with rfl | rfl
    · skip
      co_applyP OpF.cJ rfl (by rfl) rfl Try.func44 (by kernel_rfl) (by kernel_rfl) H
      intro K₀ w₁ hK0 H0
      co_apply Exists.intro
      co_apply And.intro
      · walk_nrm
        exact (hview 0 true (by omega) H0 hq).more (by omega)
      rintro _ K y' w hK2 ⟨rfl, hg1, H1⟩
      have hK1 := Nat.le_trans hK2 hK0
      clear hK2 hK0 H0
      replace hg := hg.trans hg1
      replace hr := hg1.role.trans hr
      have hq1 : y'.role.quiet = false := by rw [hr]; rfl
      replace hq := hq1
      replace H := H1
      clear hg1 H1 hq1 hK1
      try walk_nrm
      refine ⟨⟨H.sub (A := [_, _]) (List.Sublist.cons_cons _ (List.Sublist.cons_cons _ (List.nil_sublist _))), hr⟩, ?_⟩
      try walk_nrm
      refine AnyF.all (rs := [25, 29]) (by kernel_rfl) (by simp) ?_
      intro i hi
      simp only [List.mem_cons, List.not_mem_nil, or_false] at hi
      rcases hi with rfl | rfl
      · skip
        co_applyP OpF.cV rfl (by rfl) rfl rfl Try.func81 (by kernel_rfl) (by kernel_rfl) H
        intro K₀ w₁ hK0 H0
        co_apply Exists.intro
        co_apply And.intro
        · walk_nrm
          exact (hdeed _ hd H0 hq).more (by omega)
        rintro _ K y' w hK2 ⟨rfl, hg1, H1⟩
        have hK1 := Nat.le_trans hK2 hK0
        clear hK2 hK0 H0
        replace hg := hg.trans hg1
        replace hr := hg1.role.trans hr
        have hq1 : y'.role.quiet = false := by rw [hr]; rfl
        replace hq := hq1
        replace H := H1
        clear hg1 H1 hq1 hK1
        try walk_nrm
        refine ⟨⟨H.sub (A := [_, _]) (List.Sublist.cons_cons _ (List.Sublist.cons_cons _ (List.nil_sublist _))), hr⟩, ?_⟩
        try walk_nrm
        co_applyP AnyF.take Sd.rely (i := 26) rfl (by kernel_rfl) (by kernel_rfl) (by kernel_rfl) (YF.pu (by rfl) (fun _ => run_eq_of ?run) (fun _ => by simp [go_sem, *])) ⟨H.sub (A := [_, _]) (List.Sublist.cons_cons _ (List.Sublist.cons_cons _ (List.nil_sublist _))), hr⟩
        case run => intro K hK; go_simp; exact hK
        try walk_nrm
        co_applyP AnyF.take Sd.rely (i := 27) rfl (by kernel_rfl) (by kernel_rfl) (by kernel_rfl) (YF.pu (by rfl) (fun _ => run_eq_of ?run) (fun _ => by simp [go_sem, *])) ⟨H.sub (A := [_, _]) (List.Sublist.cons_cons _ (List.Sublist.cons_cons _ (List.nil_sublist _))), hr⟩
        case run => intro K hK; go_simp; exact hK
        try walk_nrm
        co_applyP AnyF.take Sd.rely (i := 28) rfl (by kernel_rfl) (by kernel_rfl) (by kernel_rfl) (YF.pu (by rfl) (fun _ => run_eq_of ?run) (fun _ => by simp [go_sem, *])) ⟨H.sub (A := [_, _]) (List.Sublist.cons_cons _ (List.Sublist.cons_cons _ (List.nil_sublist _))), hr⟩
        case run => intro K hK; go_simp; exact hK
        try walk_nrm
        refine AnyF.all (rs := [29]) (by kernel_rfl) (by simp) ?_
        intro i hi
        simp only [List.mem_cons, List.not_mem_nil, or_false] at hi
        subst hi
        co_applyP OpF.al rfl (by rfl) H (fun _ => run_eq_of ?run) (fun _ => by simp [go_sem, *])
        case run => intro K hK; go_simp; exact hK
        intro K y' w b2 hK1 hg1 H1
        replace hg := hg.trans hg1
        replace hr := hg1.role.trans hr
        have hq1 : y'.role.quiet = false := by rw [hr]; rfl
        replace hq := hq1
        replace H := H1
        clear hg1 H1 hq1 hK1
        try walk_nrm
        refine ⟨⟨H.sub (A := [_, _]) (List.Sublist.cons _ (List.Sublist.cons_cons _ (List.Sublist.cons_cons _ (List.nil_sublist _)))), hr⟩, ?_⟩
        try walk_nrm
        refine AnyF.all (rs := [30]) (by kernel_rfl) (by simp) ?_
        intro i hi
        simp only [List.mem_cons, List.not_mem_nil, or_false] at hi
        subst hi
        co_applyP OpF.str 0 rfl (by rfl) rfl H hq rfl rfl rfl (by kernel_rfl) (by rfl) (by kernel_rfl)
        intro K w hK1 H1
        replace H := H1
        clear hK1 H1
        simp only [List.set_cons_zero] at H
        refine ⟨⟨H.sub (A := [_, _]) (List.Sublist.cons _ (List.Sublist.cons_cons _ (List.Sublist.cons_cons _ (List.nil_sublist _)))), hr⟩, ?_⟩
        try walk_nrm
        co_applyP AnyF.take Sd.rely (i := 31) rfl (by kernel_rfl) (by kernel_rfl) (by kernel_rfl) (YF.pu (by rfl) (fun _ => run_eq_of ?run) (fun _ => by simp [go_sem, *])) ⟨H.sub (A := [_, _]) (List.Sublist.cons _ (List.Sublist.cons_cons _ (List.Sublist.cons_cons _ (List.nil_sublist _)))), hr⟩
        case run => intro K hK; go_simp; exact hK
        try walk_nrm
        co_apply AnyF.done (by kernel_rfl)
        intro K hK1 w hr1
        replace H := H.rely hr1
        clear hr1 hK1
        try simp only [thenF]
        co_apply WF.seqP
        co_apply WF.region
        try simp only [List.size_toArray, List.length_cons, List.length_nil, Nat.reduceAdd, Nat.zero_add, List.range, List.range.loop]
        co_applyP OF.pu rfl (by rfl) (fun _ => run_eq_of ?run) (fun _ => by simp [go_sem, *])
        case run => intro K hK; go_simp; exact hK
        try walk_nrm
        co_applyP OF.ldr 0 rfl (by rfl) rfl H hq rfl rfl Try.underlying38 rfl (by kernel_rfl)
        intro K w hK1 hr1 H1
        replace H := H1
        clear hr1 hK1 H1
        try walk_nrm
        co_applyP OF.callJ rfl (by rfl) rfl
        · walk_nrm
          exact hpacked H hq
        rintro _ K y' w hK1 ⟨rfl, hg1, H1⟩
        replace hg := hg.trans hg1
        replace hr := hg1.role.trans hr
        have hq1 : y'.role.quiet = false := by rw [hr]; rfl
        replace hq := hq1
        replace H := H1
        clear hg1 H1 hq1 hK1
        try walk_nrm
        co_applyP OF.pu rfl (by rfl) (fun _ => run_eq_of ?run) (fun _ => by simp [go_sem, *])
        case run => intro K hK; go_simp; exact hK
        try walk_nrm
        co_applyP OF.pu rfl (by rfl) (fun _ => run_eq_of ?run) (fun _ => by simp [go_sem, *])
        case run => intro K hK; go_simp; exact hK
        try walk_nrm
        co_applyP OF.st1 1 4 rfl (by rfl) rfl H hq rfl rfl rfl rfl rfl (by kernel_rfl)
        intro K w₁ w hK1 hr1 hu1 H1
        replace H := H1
        clear hr1 hK1 hu1 H1
        simp only [List.set_cons_zero, List.set_cons_succ, List.setIfInBounds_toArray] at H
        try walk_nrm
        co_apply OF.nil
        try simp only [thenF]
        co_apply WF.seqP
        co_apply WF.seqP
        have hne : (slept.num == (wdv ((0 : Nat) : Int) true).num) = false := by decide
        have hne2 : (slept.num == (wdv 0 true).num) = false := by decide
        co_apply WF.drawnB B (nd + nv + ng) (Sd N _ _ _) (by simp only [List.size_toArray, List.length_cons, List.length_nil, Nat.reduceAdd, Nat.zero_add]; omega) (by kernel_rfl)
        intro K hK1 w₀ hr1
        replace H := (H.rely hr1).drew
        clear hr1 hK1
        generalize ({ w₀ with drawn := w₀.drawn + 1 } : World) = w at H ⊢
        try simp only [List.size_toArray, List.length_cons, List.length_nil, Nat.reduceAdd, Nat.zero_add]
        co_applyP AnyF.take Sd.rely (i := 0) rfl (by kernel_rfl) (by kernel_rfl) (by kernel_rfl) (YF.pu (by rfl) (fun _ => run_eq_of ?run) (fun _ => by simp [go_sem, *])) ⟨H.sub (A := [_, _]) (List.Sublist.cons _ (List.Sublist.cons_cons _ (List.Sublist.cons_cons _ (List.nil_sublist _)))), hr⟩
        case run => intro K hK; go_simp; exact hK
        try walk_nrm
        co_applyP AnyF.take Sd.rely (i := 1) rfl (by kernel_rfl) (by kernel_rfl) (by kernel_rfl) (YF.pu (by rfl) (fun _ => run_eq_of ?run) (fun _ => by simp [go_sem, *])) ⟨H.sub (A := [_, _]) (List.Sublist.cons _ (List.Sublist.cons_cons _ (List.Sublist.cons_cons _ (List.nil_sublist _)))), hr⟩
        case run => intro K hK; go_simp; exact hK
        try walk_nrm
        co_applyP AnyF.take Sd.rely (i := 2) rfl (by kernel_rfl) (by kernel_rfl) (by kernel_rfl) (YF.pu (by rfl) (fun _ => run_eq_of ?run) (fun _ => by simp [go_sem, *])) ⟨H.sub (A := [_, _]) (List.Sublist.cons _ (List.Sublist.cons_cons _ (List.Sublist.cons_cons _ (List.nil_sublist _)))), hr⟩
        case run => intro K hK; go_simp; exact hK
        try walk_nrm
        co_applyP AnyF.take Sd.rely (i := 3) rfl (by kernel_rfl) (by kernel_rfl) (by kernel_rfl) (YF.ld1 0 4 (by rfl) rfl (by rfl) rfl rfl rfl Try.underlying102 rfl) ⟨H.sub (A := [_, _]) (List.Sublist.cons _ (List.Sublist.cons_cons _ (List.Sublist.cons_cons _ (List.nil_sublist _)))), hr⟩
        try walk_nrm
        co_applyP AnyF.take Sd.rely (i := 4) rfl (by kernel_rfl) (by kernel_rfl) (by kernel_rfl) (YF.pu (by rfl) (fun _ => run_eq_of ?run) (fun _ => by simp [go_sem, *])) ⟨H.sub (A := [_, _]) (List.Sublist.cons _ (List.Sublist.cons_cons _ (List.Sublist.cons_cons _ (List.nil_sublist _)))), hr⟩
        case run => intro K hK; go_simp; exact hK
        try walk_nrm
        co_applyP AnyF.take Sd.rely (i := 5) rfl (by kernel_rfl) (by kernel_rfl) (by kernel_rfl) (YF.pu (by rfl) (fun _ => run_eq_of ?run) (fun _ => by simp [go_sem, *])) ⟨H.sub (A := [_, _]) (List.Sublist.cons _ (List.Sublist.cons_cons _ (List.Sublist.cons_cons _ (List.nil_sublist _)))), hr⟩
        case run => intro K hK; go_simp; exact hK
        try walk_nrm
        co_applyP AnyF.take Sd.rely (i := 6) rfl (by kernel_rfl) (by kernel_rfl) (by kernel_rfl) (YF.pu (by rfl) (fun _ => run_eq_of ?run) (fun _ => by simp [go_sem, *])) ⟨H.sub (A := [_, _]) (List.Sublist.cons _ (List.Sublist.cons_cons _ (List.Sublist.cons_cons _ (List.nil_sublist _)))), hr⟩
        case run => intro K hK; go_simp; exact hK
        try walk_nrm
        co_applyP AnyF.take Sd.rely (i := 7) rfl (by kernel_rfl) (by kernel_rfl) (by kernel_rfl) (YF.ld1 0 3 (by rfl) rfl (by rfl) rfl rfl rfl Try.underlying102 rfl) ⟨H.sub (A := [_, _]) (List.Sublist.cons _ (List.Sublist.cons_cons _ (List.Sublist.cons_cons _ (List.nil_sublist _)))), hr⟩
        try walk_nrm
        co_applyP AnyF.take Sd.rely (i := 8) rfl (by kernel_rfl) (by kernel_rfl) (by kernel_rfl) (YF.pu (by rfl) (fun _ => run_eq_of ?run) (fun _ => by simp [go_sem, *])) ⟨H.sub (A := [_, _]) (List.Sublist.cons _ (List.Sublist.cons_cons _ (List.Sublist.cons_cons _ (List.nil_sublist _)))), hr⟩
        case run => intro K hK; go_simp; exact hK
        try walk_nrm
        co_apply AnyF.done (by kernel_rfl)
        intro K hK1 w hr1
        replace H := H.rely hr1
        clear hr1 hK1
        try simp only [thenF]
        co_apply WF.cond (t := false) rfl
        simp only [Bool.false_eq_true, ↓reduceIte]
        co_apply WF.skip
        try simp only [thenF]
        co_apply WF.region
        try simp only [List.size_toArray, List.length_cons, List.length_nil, Nat.reduceAdd, Nat.zero_add, List.range, List.range.loop]
        co_applyP OF.pu rfl (by rfl) (fun _ => run_eq_of ?run) (fun _ => by simp [go_sem, *])
        case run => intro K hK; go_simp; exact hK
        try walk_nrm
        co_applyP OF.pu rfl (by rfl) (fun _ => run_eq_of ?run) (fun _ => by simp [go_sem, *])
        case run => intro K hK; go_simp; exact hK
        try walk_nrm
        co_applyP OF.pu rfl (by rfl) (fun _ => run_eq_of ?run) (fun _ => by simp [go_sem, *])
        case run => intro K hK; go_simp; exact hK
        try walk_nrm
        co_applyP OF.st1 1 5 rfl (by rfl) rfl H hq rfl rfl rfl rfl rfl (by kernel_rfl)
        intro K w₁ w hK1 hr1 hu1 H1
        replace H := H1
        clear hr1 hK1 hu1 H1
        simp only [List.set_cons_zero, List.set_cons_succ, List.setIfInBounds_toArray] at H
        try walk_nrm
        co_apply OF.nil
        exact retG_of rfl (resultsC_none (by rfl) _) (fun K₂ hK₂ w₂ r₂ => ⟨rfl, hg, _, (H.rely r₂).tail⟩)
      · skip
        co_applyP OpF.al rfl (by rfl) H (fun _ => run_eq_of ?run) (fun _ => by simp [go_sem, *])
        case run => intro K hK; go_simp; exact hK
        intro K y' w b2 hK1 hg1 H1
        replace hg := hg.trans hg1
        replace hr := hg1.role.trans hr
        have hq1 : y'.role.quiet = false := by rw [hr]; rfl
        replace hq := hq1
        replace H := H1
        clear hg1 H1 hq1 hK1
        try walk_nrm
        refine ⟨⟨H.sub (A := [_, _]) (List.Sublist.cons _ (List.Sublist.cons_cons _ (List.Sublist.cons_cons _ (List.nil_sublist _)))), hr⟩, ?_⟩
        try walk_nrm
        refine AnyF.all (rs := [25]) (by kernel_rfl) (by simp) ?_
        intro i hi
        simp only [List.mem_cons, List.not_mem_nil, or_false] at hi
        subst hi
        co_applyP OpF.cV rfl (by rfl) rfl rfl Try.func81 (by kernel_rfl) (by kernel_rfl) H
        intro K₀ w₁ hK0 H0
        co_apply Exists.intro
        co_apply And.intro
        · walk_nrm
          exact (hdeed _ hd H0 hq).more (by omega)
        rintro _ K y' w hK2 ⟨rfl, hg1, H1⟩
        have hK1 := Nat.le_trans hK2 hK0
        clear hK2 hK0 H0
        replace hg := hg.trans hg1
        replace hr := hg1.role.trans hr
        have hq1 : y'.role.quiet = false := by rw [hr]; rfl
        replace hq := hq1
        replace H := H1
        clear hg1 H1 hq1 hK1
        try walk_nrm
        refine ⟨⟨H.sub (A := [_, _]) (List.Sublist.cons _ (List.Sublist.cons_cons _ (List.Sublist.cons_cons _ (List.nil_sublist _)))), hr⟩, ?_⟩
        try walk_nrm
        co_applyP AnyF.take Sd.rely (i := 26) rfl (by kernel_rfl) (by kernel_rfl) (by kernel_rfl) (YF.pu (by rfl) (fun _ => run_eq_of ?run) (fun _ => by simp [go_sem, *])) ⟨H.sub (A := [_, _]) (List.Sublist.cons _ (List.Sublist.cons_cons _ (List.Sublist.cons_cons _ (List.nil_sublist _)))), hr⟩
        case run => intro K hK; go_simp; exact hK
        try walk_nrm
        co_applyP AnyF.take Sd.rely (i := 27) rfl (by kernel_rfl) (by kernel_rfl) (by kernel_rfl) (YF.pu (by rfl) (fun _ => run_eq_of ?run) (fun _ => by simp [go_sem, *])) ⟨H.sub (A := [_, _]) (List.Sublist.cons _ (List.Sublist.cons_cons _ (List.Sublist.cons_cons _ (List.nil_sublist _)))), hr⟩
        case run => intro K hK; go_simp; exact hK
        try walk_nrm
        co_applyP AnyF.take Sd.rely (i := 28) rfl (by kernel_rfl) (by kernel_rfl) (by kernel_rfl) (YF.pu (by rfl) (fun _ => run_eq_of ?run) (fun _ => by simp [go_sem, *])) ⟨H.sub (A := [_, _]) (List.Sublist.cons _ (List.Sublist.cons_cons _ (List.Sublist.cons_cons _ (List.nil_sublist _)))), hr⟩
        case run => intro K hK; go_simp; exact hK
        try walk_nrm
        refine AnyF.all (rs := [30]) (by kernel_rfl) (by simp) ?_
        intro i hi
        simp only [List.mem_cons, List.not_mem_nil, or_false] at hi
        subst hi
        co_applyP OpF.str 0 rfl (by rfl) rfl H hq rfl rfl rfl (by kernel_rfl) (by rfl) (by kernel_rfl)
        intro K w hK1 H1
        replace H := H1
        clear hK1 H1
        simp only [List.set_cons_zero] at H
        refine ⟨⟨H.sub (A := [_, _]) (List.Sublist.cons _ (List.Sublist.cons_cons _ (List.Sublist.cons_cons _ (List.nil_sublist _)))), hr⟩, ?_⟩
        try walk_nrm
        co_applyP AnyF.take Sd.rely (i := 31) rfl (by kernel_rfl) (by kernel_rfl) (by kernel_rfl) (YF.pu (by rfl) (fun _ => run_eq_of ?run) (fun _ => by simp [go_sem, *])) ⟨H.sub (A := [_, _]) (List.Sublist.cons _ (List.Sublist.cons_cons _ (List.Sublist.cons_cons _ (List.nil_sublist _)))), hr⟩
        case run => intro K hK; go_simp; exact hK
        try walk_nrm
        co_apply AnyF.done (by kernel_rfl)
        intro K hK1 w hr1
        replace H := H.rely hr1
        clear hr1 hK1
        try simp only [thenF]
        co_apply WF.seqP
        co_apply WF.region
        try simp only [List.size_toArray, List.length_cons, List.length_nil, Nat.reduceAdd, Nat.zero_add, List.range, List.range.loop]
        co_applyP OF.pu rfl (by rfl) (fun _ => run_eq_of ?run) (fun _ => by simp [go_sem, *])
        case run => intro K hK; go_simp; exact hK
        try walk_nrm
        co_applyP OF.ldr 0 rfl (by rfl) rfl H hq rfl rfl Try.underlying38 rfl (by kernel_rfl)
        intro K w hK1 hr1 H1
        replace H := H1
        clear hr1 hK1 H1
        try walk_nrm
        co_applyP OF.callJ rfl (by rfl) rfl
        · walk_nrm
          exact hpacked H hq
        rintro _ K y' w hK1 ⟨rfl, hg1, H1⟩
        replace hg := hg.trans hg1
        replace hr := hg1.role.trans hr
        have hq1 : y'.role.quiet = false := by rw [hr]; rfl
        replace hq := hq1
        replace H := H1
        clear hg1 H1 hq1 hK1
        try walk_nrm
        co_applyP OF.pu rfl (by rfl) (fun _ => run_eq_of ?run) (fun _ => by simp [go_sem, *])
        case run => intro K hK; go_simp; exact hK
        try walk_nrm
        co_applyP OF.pu rfl (by rfl) (fun _ => run_eq_of ?run) (fun _ => by simp [go_sem, *])
        case run => intro K hK; go_simp; exact hK
        try walk_nrm
        co_applyP OF.st1 1 4 rfl (by rfl) rfl H hq rfl rfl rfl rfl rfl (by kernel_rfl)
        intro K w₁ w hK1 hr1 hu1 H1
        replace H := H1
        clear hr1 hK1 hu1 H1
        simp only [List.set_cons_zero, List.set_cons_succ, List.setIfInBounds_toArray] at H
        try walk_nrm
        co_apply OF.nil
        try simp only [thenF]
        co_apply WF.seqP
        co_apply WF.seqP
        have hne : (slept.num == (wdv ((0 : Nat) : Int) true).num) = false := by decide
        have hne2 : (slept.num == (wdv 0 true).num) = false := by decide
        co_apply WF.drawnB B (nd + nv + ng) (Sd N _ _ _) (by simp only [List.size_toArray, List.length_cons, List.length_nil, Nat.reduceAdd, Nat.zero_add]; omega) (by kernel_rfl)
        intro K hK1 w₀ hr1
        replace H := (H.rely hr1).drew
        clear hr1 hK1
        generalize ({ w₀ with drawn := w₀.drawn + 1 } : World) = w at H ⊢
        try simp only [List.size_toArray, List.length_cons, List.length_nil, Nat.reduceAdd, Nat.zero_add]
        co_applyP AnyF.take Sd.rely (i := 0) rfl (by kernel_rfl) (by kernel_rfl) (by kernel_rfl) (YF.pu (by rfl) (fun _ => run_eq_of ?run) (fun _ => by simp [go_sem, *])) ⟨H.sub (A := [_, _]) (List.Sublist.cons _ (List.Sublist.cons_cons _ (List.Sublist.cons_cons _ (List.nil_sublist _)))), hr⟩
        case run => intro K hK; go_simp; exact hK
        try walk_nrm
        co_applyP AnyF.take Sd.rely (i := 1) rfl (by kernel_rfl) (by kernel_rfl) (by kernel_rfl) (YF.pu (by rfl) (fun _ => run_eq_of ?run) (fun _ => by simp [go_sem, *])) ⟨H.sub (A := [_, _]) (List.Sublist.cons _ (List.Sublist.cons_cons _ (List.Sublist.cons_cons _ (List.nil_sublist _)))), hr⟩
        case run => intro K hK; go_simp; exact hK
        try walk_nrm
        co_applyP AnyF.take Sd.rely (i := 2) rfl (by kernel_rfl) (by kernel_rfl) (by kernel_rfl) (YF.pu (by rfl) (fun _ => run_eq_of ?run) (fun _ => by simp [go_sem, *])) ⟨H.sub (A := [_, _]) (List.Sublist.cons _ (List.Sublist.cons_cons _ (List.Sublist.cons_cons _ (List.nil_sublist _)))), hr⟩
        case run => intro K hK; go_simp; exact hK
        try walk_nrm
        co_applyP AnyF.take Sd.rely (i := 3) rfl (by kernel_rfl) (by kernel_rfl) (by kernel_rfl) (YF.ld1 0 4 (by rfl) rfl (by rfl) rfl rfl rfl Try.underlying102 rfl) ⟨H.sub (A := [_, _]) (List.Sublist.cons _ (List.Sublist.cons_cons _ (List.Sublist.cons_cons _ (List.nil_sublist _)))), hr⟩
        try walk_nrm
        co_applyP AnyF.take Sd.rely (i := 4) rfl (by kernel_rfl) (by kernel_rfl) (by kernel_rfl) (YF.pu (by rfl) (fun _ => run_eq_of ?run) (fun _ => by simp [go_sem, *])) ⟨H.sub (A := [_, _]) (List.Sublist.cons _ (List.Sublist.cons_cons _ (List.Sublist.cons_cons _ (List.nil_sublist _)))), hr⟩
        case run => intro K hK; go_simp; exact hK
        try walk_nrm
        co_applyP AnyF.take Sd.rely (i := 5) rfl (by kernel_rfl) (by kernel_rfl) (by kernel_rfl) (YF.pu (by rfl) (fun _ => run_eq_of ?run) (fun _ => by simp [go_sem, *])) ⟨H.sub (A := [_, _]) (List.Sublist.cons _ (List.Sublist.cons_cons _ (List.Sublist.cons_cons _ (List.nil_sublist _)))), hr⟩
        case run => intro K hK; go_simp; exact hK
        try walk_nrm
        co_applyP AnyF.take Sd.rely (i := 6) rfl (by kernel_rfl) (by kernel_rfl) (by kernel_rfl) (YF.pu (by rfl) (fun _ => run_eq_of ?run) (fun _ => by simp [go_sem, *])) ⟨H.sub (A := [_, _]) (List.Sublist.cons _ (List.Sublist.cons_cons _ (List.Sublist.cons_cons _ (List.nil_sublist _)))), hr⟩
        case run => intro K hK; go_simp; exact hK
        try walk_nrm
        co_applyP AnyF.take Sd.rely (i := 7) rfl (by kernel_rfl) (by kernel_rfl) (by kernel_rfl) (YF.ld1 0 3 (by rfl) rfl (by rfl) rfl rfl rfl Try.underlying102 rfl) ⟨H.sub (A := [_, _]) (List.Sublist.cons _ (List.Sublist.cons_cons _ (List.Sublist.cons_cons _ (List.nil_sublist _)))), hr⟩
        try walk_nrm
        co_applyP AnyF.take Sd.rely (i := 8) rfl (by kernel_rfl) (by kernel_rfl) (by kernel_rfl) (YF.pu (by rfl) (fun _ => run_eq_of ?run) (fun _ => by simp [go_sem, *])) ⟨H.sub (A := [_, _]) (List.Sublist.cons _ (List.Sublist.cons_cons _ (List.Sublist.cons_cons _ (List.nil_sublist _)))), hr⟩
        case run => intro K hK; go_simp; exact hK
        try walk_nrm
        co_apply AnyF.done (by kernel_rfl)
        intro K hK1 w hr1
        replace H := H.rely hr1
        clear hr1 hK1
        try simp only [thenF]
        co_apply WF.cond (t := false) rfl
        simp only [Bool.false_eq_true, ↓reduceIte]
        co_apply WF.skip
        try simp only [thenF]
        co_apply WF.region
        try simp only [List.size_toArray, List.length_cons, List.length_nil, Nat.reduceAdd, Nat.zero_add, List.range, List.range.loop]
        co_applyP OF.pu rfl (by rfl) (fun _ => run_eq_of ?run) (fun _ => by simp [go_sem, *])
        case run => intro K hK; go_simp; exact hK
        try walk_nrm
        co_applyP OF.pu rfl (by rfl) (fun _ => run_eq_of ?run) (fun _ => by simp [go_sem, *])
        case run => intro K hK; go_simp; exact hK
        try walk_nrm
        co_applyP OF.pu rfl (by rfl) (fun _ => run_eq_of ?run) (fun _ => by simp [go_sem, *])
        case run => intro K hK; go_simp; exact hK
        try walk_nrm
        co_applyP OF.st1 1 5 rfl (by rfl) rfl H hq rfl rfl rfl rfl rfl (by kernel_rfl)
        intro K w₁ w hK1 hr1 hu1 H1
        replace H := H1
        clear hr1 hK1 hu1 H1
        simp only [List.set_cons_zero, List.set_cons_succ, List.setIfInBounds_toArray] at H
        try walk_nrm
        co_apply OF.nil
        exact retG_of rfl (resultsC_none (by rfl) _) (fun K₂ hK₂ w₂ r₂ => ⟨rfl, hg, _, (H.rely r₂).tail⟩)
    · skip
      co_applyP OpF.al rfl (by rfl) H (fun _ => run_eq_of ?run) (fun _ => by simp [go_sem, *])
      case run => intro K hK; go_simp; exact hK
      intro K y' w b2 hK1 hg1 H1
      replace hg := hg.trans hg1
      replace hr := hg1.role.trans hr
      have hq1 : y'.role.quiet = false := by rw [hr]; rfl
      replace hq := hq1
      replace H := H1
      clear hg1 H1 hq1 hK1
      try walk_nrm
      refine ⟨⟨H.sub (A := [_, _]) (List.Sublist.cons _ (List.Sublist.cons_cons _ (List.Sublist.cons_cons _ (List.nil_sublist _)))), hr⟩, ?_⟩
      try walk_nrm
      refine AnyF.all (rs := [24]) (by kernel_rfl) (by simp) ?_
      intro i hi
      simp only [List.mem_cons, List.not_mem_nil, or_false] at hi
      subst hi
      co_applyP OpF.cJ rfl (by rfl) rfl Try.func44 (by kernel_rfl) (by kernel_rfl) H
      intro K₀ w₁ hK0 H0
      co_apply Exists.intro
      co_apply And.intro
      · walk_nrm
        exact (hview 0 true (by omega) H0 hq).more (by omega)
      rintro _ K y' w hK2 ⟨rfl, hg1, H1⟩
      have hK1 := Nat.le_trans hK2 hK0
      clear hK2 hK0 H0
      replace hg := hg.trans hg1
      replace hr := hg1.role.trans hr
      have hq1 : y'.role.quiet = false := by rw [hr]; rfl
      replace hq := hq1
      replace H := H1
      clear hg1 H1 hq1 hK1
      try walk_nrm
      refine ⟨⟨H.sub (A := [_, _]) (List.Sublist.cons _ (List.Sublist.cons_cons _ (List.Sublist.cons_cons _ (List.nil_sublist _)))), hr⟩, ?_⟩
      try walk_nrm
      refine AnyF.all (rs := [25]) (by kernel_rfl) (by simp) ?_
      intro i hi
      simp only [List.mem_cons, List.not_mem_nil, or_false] at hi
      subst hi
      co_applyP OpF.cV rfl (by rfl) rfl rfl Try.func81 (by kernel_rfl) (by kernel_rfl) H
      intro K₀ w₁ hK0 H0
      co_apply Exists.intro
      co_apply And.intro
      · walk_nrm
        exact (hdeed _ hd H0 hq).more (by omega)
      rintro _ K y' w hK2 ⟨rfl, hg1, H1⟩
      have hK1 := Nat.le_trans hK2 hK0
      clear hK2 hK0 H0
      replace hg := hg.trans hg1
      replace hr := hg1.role.trans hr
      have hq1 : y'.role.quiet = false := by rw [hr]; rfl
      replace hq := hq1
      replace H := H1
      clear hg1 H1 hq1 hK1
      try walk_nrm
      refine ⟨⟨H.sub (A := [_, _]) (List.Sublist.cons _ (List.Sublist.cons_cons _ (List.Sublist.cons_cons _ (List.nil_sublist _)))), hr⟩, ?_⟩
      try walk_nrm
      co_applyP AnyF.take Sd.rely (i := 26) rfl (by kernel_rfl) (by kernel_rfl) (by kernel_rfl) (YF.pu (by rfl) (fun _ => run_eq_of ?run) (fun _ => by simp [go_sem, *])) ⟨H.sub (A := [_, _]) (List.Sublist.cons _ (List.Sublist.cons_cons _ (List.Sublist.cons_cons _ (List.nil_sublist _)))), hr⟩
      case run => intro K hK; go_simp; exact hK
      try walk_nrm
      co_applyP AnyF.take Sd.rely (i := 27) rfl (by kernel_rfl) (by kernel_rfl) (by kernel_rfl) (YF.pu (by rfl) (fun _ => run_eq_of ?run) (fun _ => by simp [go_sem, *])) ⟨H.sub (A := [_, _]) (List.Sublist.cons _ (List.Sublist.cons_cons _ (List.Sublist.cons_cons _ (List.nil_sublist _)))), hr⟩
      case run => intro K hK; go_simp; exact hK
      try walk_nrm
      co_applyP AnyF.take Sd.rely (i := 28) rfl (by kernel_rfl) (by kernel_rfl) (by kernel_rfl) (YF.pu (by rfl) (fun _ => run_eq_of ?run) (fun _ => by simp [go_sem, *])) ⟨H.sub (A := [_, _]) (List.Sublist.cons _ (List.Sublist.cons_cons _ (List.Sublist.cons_cons _ (List.nil_sublist _)))), hr⟩
      case run => intro K hK; go_simp; exact hK
      try walk_nrm
      refine AnyF.all (rs := [30]) (by kernel_rfl) (by simp) ?_
      intro i hi
      simp only [List.mem_cons, List.not_mem_nil, or_false] at hi
      subst hi
      co_applyP OpF.str 0 rfl (by rfl) rfl H hq rfl rfl rfl (by kernel_rfl) (by rfl) (by kernel_rfl)
      intro K w hK1 H1
      replace H := H1
      clear hK1 H1
      simp only [List.set_cons_zero] at H
      refine ⟨⟨H.sub (A := [_, _]) (List.Sublist.cons _ (List.Sublist.cons_cons _ (List.Sublist.cons_cons _ (List.nil_sublist _)))), hr⟩, ?_⟩
      try walk_nrm
      co_applyP AnyF.take Sd.rely (i := 31) rfl (by kernel_rfl) (by kernel_rfl) (by kernel_rfl) (YF.pu (by rfl) (fun _ => run_eq_of ?run) (fun _ => by simp [go_sem, *])) ⟨H.sub (A := [_, _]) (List.Sublist.cons _ (List.Sublist.cons_cons _ (List.Sublist.cons_cons _ (List.nil_sublist _)))), hr⟩
      case run => intro K hK; go_simp; exact hK
      try walk_nrm
      co_apply AnyF.done (by kernel_rfl)
      intro K hK1 w hr1
      replace H := H.rely hr1
      clear hr1 hK1
      try simp only [thenF]
      co_apply WF.seqP
      co_apply WF.region
      try simp only [List.size_toArray, List.length_cons, List.length_nil, Nat.reduceAdd, Nat.zero_add, List.range, List.range.loop]
      co_applyP OF.pu rfl (by rfl) (fun _ => run_eq_of ?run) (fun _ => by simp [go_sem, *])
      case run => intro K hK; go_simp; exact hK
      try walk_nrm
      co_applyP OF.ldr 0 rfl (by rfl) rfl H hq rfl rfl Try.underlying38 rfl (by kernel_rfl)
      intro K w hK1 hr1 H1
      replace H := H1
      clear hr1 hK1 H1
      try walk_nrm
      co_applyP OF.callJ rfl (by rfl) rfl
      · walk_nrm
        exact hpacked H hq
      rintro _ K y' w hK1 ⟨rfl, hg1, H1⟩
      replace hg := hg.trans hg1
      replace hr := hg1.role.trans hr
      have hq1 : y'.role.quiet = false := by rw [hr]; rfl
      replace hq := hq1
      replace H := H1
      clear hg1 H1 hq1 hK1
      try walk_nrm
      co_applyP OF.pu rfl (by rfl) (fun _ => run_eq_of ?run) (fun _ => by simp [go_sem, *])
      case run => intro K hK; go_simp; exact hK
      try walk_nrm
      co_applyP OF.pu rfl (by rfl) (fun _ => run_eq_of ?run) (fun _ => by simp [go_sem, *])
      case run => intro K hK; go_simp; exact hK
      try walk_nrm
      co_applyP OF.st1 1 4 rfl (by rfl) rfl H hq rfl rfl rfl rfl rfl (by kernel_rfl)
      intro K w₁ w hK1 hr1 hu1 H1
      replace H := H1
      clear hr1 hK1 hu1 H1
      simp only [List.set_cons_zero, List.set_cons_succ, List.setIfInBounds_toArray] at H
      try walk_nrm
      co_apply OF.nil
      try simp only [thenF]
      co_apply WF.seqP
      co_apply WF.seqP
      have hne : (slept.num == (wdv ((0 : Nat) : Int) true).num) = false := by decide
      have hne2 : (slept.num == (wdv 0 true).num) = false := by decide
      co_apply WF.drawnB B (nd + nv + ng) (Sd N _ _ _) (by simp only [List.size_toArray, List.length_cons, List.length_nil, Nat.reduceAdd, Nat.zero_add]; omega) (by kernel_rfl)
      intro K hK1 w₀ hr1
      replace H := (H.rely hr1).drew
      clear hr1 hK1
      generalize ({ w₀ with drawn := w₀.drawn + 1 } : World) = w at H ⊢
      try simp only [List.size_toArray, List.length_cons, List.length_nil, Nat.reduceAdd, Nat.zero_add]
      co_applyP AnyF.take Sd.rely (i := 0) rfl (by kernel_rfl) (by kernel_rfl) (by kernel_rfl) (YF.pu (by rfl) (fun _ => run_eq_of ?run) (fun _ => by simp [go_sem, *])) ⟨H.sub (A := [_, _]) (List.Sublist.cons _ (List.Sublist.cons_cons _ (List.Sublist.cons_cons _ (List.nil_sublist _)))), hr⟩
      case run => intro K hK; go_simp; exact hK
      try walk_nrm
      co_applyP AnyF.take Sd.rely (i := 1) rfl (by kernel_rfl) (by kernel_rfl) (by kernel_rfl) (YF.pu (by rfl) (fun _ => run_eq_of ?run) (fun _ => by simp [go_sem, *])) ⟨H.sub (A := [_, _]) (List.Sublist.cons _ (List.Sublist.cons_cons _ (List.Sublist.cons_cons _ (List.nil_sublist _)))), hr⟩
      case run => intro K hK; go_simp; exact hK
      try walk_nrm
      co_applyP AnyF.take Sd.rely (i := 2) rfl (by kernel_rfl) (by kernel_rfl) (by kernel_rfl) (YF.pu (by rfl) (fun _ => run_eq_of ?run) (fun _ => by simp [go_sem, *])) ⟨H.sub (A := [_, _]) (List.Sublist.cons _ (List.Sublist.cons_cons _ (List.Sublist.cons_cons _ (List.nil_sublist _)))), hr⟩
      case run => intro K hK; go_simp; exact hK
      try walk_nrm
      co_applyP AnyF.take Sd.rely (i := 3) rfl (by kernel_rfl) (by kernel_rfl) (by kernel_rfl) (YF.ld1 0 4 (by rfl) rfl (by rfl) rfl rfl rfl Try.underlying102 rfl) ⟨H.sub (A := [_, _]) (List.Sublist.cons _ (List.Sublist.cons_cons _ (List.Sublist.cons_cons _ (List.nil_sublist _)))), hr⟩
      try walk_nrm
      co_applyP AnyF.take Sd.rely (i := 4) rfl (by kernel_rfl) (by kernel_rfl) (by kernel_rfl) (YF.pu (by rfl) (fun _ => run_eq_of ?run) (fun _ => by simp [go_sem, *])) ⟨H.sub (A := [_, _]) (List.Sublist.cons _ (List.Sublist.cons_cons _ (List.Sublist.cons_cons _ (List.nil_sublist _)))), hr⟩
      case run => intro K hK; go_simp; exact hK
      try walk_nrm
      co_applyP AnyF.take Sd.rely (i := 5) rfl (by kernel_rfl) (by kernel_rfl) (by kernel_rfl) (YF.pu (by rfl) (fun _ => run_eq_of ?run) (fun _ => by simp [go_sem, *])) ⟨H.sub (A := [_, _]) (List.Sublist.cons _ (List.Sublist.cons_cons _ (List.Sublist.cons_cons _ (List.nil_sublist _)))), hr⟩
      case run => intro K hK; go_simp; exact hK
      try walk_nrm
      co_applyP AnyF.take Sd.rely (i := 6) rfl (by kernel_rfl) (by kernel_rfl) (by kernel_rfl) (YF.pu (by rfl) (fun _ => run_eq_of ?run) (fun _ => by simp [go_sem, *])) ⟨H.sub (A := [_, _]) (List.Sublist.cons _ (List.Sublist.cons_cons _ (List.Sublist.cons_cons _ (List.nil_sublist _)))), hr⟩
      case run => intro K hK; go_simp; exact hK
      try walk_nrm
      co_applyP AnyF.take Sd.rely (i := 7) rfl (by kernel_rfl) (by kernel_rfl) (by kernel_rfl) (YF.ld1 0 3 (by rfl) rfl (by rfl) rfl rfl rfl Try.underlying102 rfl) ⟨H.sub (A := [_, _]) (List.Sublist.cons _ (List.Sublist.cons_cons _ (List.Sublist.cons_cons _ (List.nil_sublist _)))), hr⟩
      try walk_nrm
      co_applyP AnyF.take Sd.rely (i := 8) rfl (by kernel_rfl) (by kernel_rfl) (by kernel_rfl) (YF.pu (by rfl) (fun _ => run_eq_of ?run) (fun _ => by simp [go_sem, *])) ⟨H.sub (A := [_, _]) (List.Sublist.cons _ (List.Sublist.cons_cons _ (List.Sublist.cons_cons _ (List.nil_sublist _)))), hr⟩
      case run => intro K hK; go_simp; exact hK
      try walk_nrm
      co_apply AnyF.done (by kernel_rfl)
      intro K hK1 w hr1
      replace H := H.rely hr1
      clear hr1 hK1
      try simp only [thenF]
      co_apply WF.cond (t := false) rfl
      simp only [Bool.false_eq_true, ↓reduceIte]
      co_apply WF.skip
      try simp only [thenF]
      co_apply WF.region
      try simp only [List.size_toArray, List.length_cons, List.length_nil, Nat.reduceAdd, Nat.zero_add, List.range, List.range.loop]
      co_applyP OF.pu rfl (by rfl) (fun _ => run_eq_of ?run) (fun _ => by simp [go_sem, *])
      case run => intro K hK; go_simp; exact hK
      try walk_nrm
      co_applyP OF.pu rfl (by rfl) (fun _ => run_eq_of ?run) (fun _ => by simp [go_sem, *])
      case run => intro K hK; go_simp; exact hK
      try walk_nrm
      co_applyP OF.pu rfl (by rfl) (fun _ => run_eq_of ?run) (fun _ => by simp [go_sem, *])
      case run => intro K hK; go_simp; exact hK
      try walk_nrm
      co_applyP OF.st1 1 5 rfl (by rfl) rfl H hq rfl rfl rfl rfl rfl (by kernel_rfl)
      intro K w₁ w hK1 hr1 hu1 H1
      replace H := H1
      clear hr1 hK1 hu1 H1
      simp only [List.set_cons_zero, List.set_cons_succ, List.setIfInBounds_toArray] at H
      try walk_nrm
      co_apply OF.nil
      exact retG_of rfl (resultsC_none (by rfl) _) (fun K₂ hK₂ w₂ r₂ => ⟨rfl, hg, _, (H.rely r₂).tail⟩)
  · skip
    co_applyP OpF.al rfl (by rfl) H (fun _ => run_eq_of ?run) (fun _ => by simp [go_sem, *])
    case run => intro K hK; go_simp; exact hK
    intro K y' w b2 hK1 hg1 H1
    replace hg := hg.trans hg1
    replace hr := hg1.role.trans hr
    have hq1 : y'.role.quiet = false := by rw [hr]; rfl
    replace hq := hq1
    replace H := H1
    clear hg1 H1 hq1 hK1
    try walk_nrm
    refine ⟨⟨H.sub (A := [_, _]) (List.Sublist.cons _ (List.Sublist.cons_cons _ (List.Sublist.cons_cons _ (List.nil_sublist _)))), hr⟩, ?_⟩
    try walk_nrm
    refine AnyF.all (rs := [0]) (by kernel_rfl) (by simp) ?_
    intro i hi
    simp only [List.mem_cons, List.not_mem_nil, or_false] at hi
    subst hi
    co_applyP OpF.cJ rfl (by rfl) rfl Try.func60 (by kernel_rfl) (by kernel_rfl) H
    intro K₀ w₁ hK0 H0
    co_apply Exists.intro
    co_apply And.intro
    · walk_nrm
      exact (hdeeds H0 hq).more (by omega)
    rintro _ K y' w hK2 ⟨rfl, hg1, H1⟩
    have hK1 := Nat.le_trans hK2 hK0
    clear hK2 hK0 H0
    replace hg := hg.trans hg1
    replace hr := hg1.role.trans hr
    have hq1 : y'.role.quiet = false := by rw [hr]; rfl
    replace hq := hq1
    replace H := H1
    clear hg1 H1 hq1 hK1
    try walk_nrm
    refine ⟨⟨H.sub (A := [_, _]) (List.Sublist.cons _ (List.Sublist.cons_cons _ (List.Sublist.cons_cons _ (List.nil_sublist _)))), hr⟩, ?_⟩
    try walk_nrm
    co_applyP AnyF.take Sd.rely (i := 6) rfl (by kernel_rfl) (by kernel_rfl) (by kernel_rfl) (YF.pu (v := .agg #[.func (.func 81) #[] #[]]) (by rfl) (fun _ => by kernel_rfl) (fun _ => by kernel_rfl)) ⟨H.sub (A := [_, _]) (List.Sublist.cons _ (List.Sublist.cons_cons _ (List.Sublist.cons_cons _ (List.nil_sublist _)))), hr⟩
    try walk_nrm
    co_applyP AnyF.take Sd.rely (i := 7) rfl (by kernel_rfl) (by kernel_rfl) (by kernel_rfl) (YF.pu (v := .func (.func 81) #[] #[]) (by rfl) (fun _ => by kernel_rfl) (fun _ => by kernel_rfl)) ⟨H.sub (A := [_, _]) (List.Sublist.cons _ (List.Sublist.cons_cons _ (List.Sublist.cons_cons _ (List.nil_sublist _)))), hr⟩
    try walk_nrm
    refine AnyF.all (rs := [24]) (by kernel_rfl) (by simp) ?_
    intro i hi
    simp only [List.mem_cons, List.not_mem_nil, or_false] at hi
    subst hi
    co_applyP OpF.cJ rfl (by rfl) rfl Try.func44 (by kernel_rfl) (by kernel_rfl) H
    intro K₀ w₁ hK0 H0
    co_apply Exists.intro
    co_apply And.intro
    · walk_nrm
      exact (hview 0 true (by omega) H0 hq).more (by omega)
    rintro _ K y' w hK2 ⟨rfl, hg1, H1⟩
    have hK1 := Nat.le_trans hK2 hK0
    clear hK2 hK0 H0
    replace hg := hg.trans hg1
    replace hr := hg1.role.trans hr
    have hq1 : y'.role.quiet = false := by rw [hr]; rfl
    replace hq := hq1
    replace H := H1
    clear hg1 H1 hq1 hK1
    try walk_nrm
    refine ⟨⟨H.sub (A := [_, _]) (List.Sublist.cons _ (List.Sublist.cons_cons _ (List.Sublist.cons_cons _ (List.nil_sublist _)))), hr⟩, ?_⟩
    try walk_nrm
    refine AnyF.all (rs := [25]) (by kernel_rfl) (by simp) ?_
    intro i hi
    simp only [List.mem_cons, List.not_mem_nil, or_false] at hi
    subst hi
    co_applyP OpF.cV rfl (by rfl) rfl rfl Try.func81 (by kernel_rfl) (by kernel_rfl) H
    intro K₀ w₁ hK0 H0
    co_apply Exists.intro
    co_apply And.intro
    · walk_nrm
      exact (hdeed _ hd H0 hq).more (by omega)
    rintro _ K y' w hK2 ⟨rfl, hg1, H1⟩
    have hK1 := Nat.le_trans hK2 hK0
    clear hK2 hK0 H0
    replace hg := hg.trans hg1
    replace hr := hg1.role.trans hr
    have hq1 : y'.role.quiet = false := by rw [hr]; rfl
    replace hq := hq1
    replace H := H1
    clear hg1 H1 hq1 hK1
    try walk_nrm
    refine ⟨⟨H.sub (A := [_, _]) (List.Sublist.cons _ (List.Sublist.cons_cons _ (List.Sublist.cons_cons _ (List.nil_sublist _)))), hr⟩, ?_⟩
    try walk_nrm
    co_applyP AnyF.take Sd.rely (i := 26) rfl (by kernel_rfl) (by kernel_rfl) (by kernel_rfl) (YF.pu (by rfl) (fun _ => run_eq_of ?run) (fun _ => by simp [go_sem, *])) ⟨H.sub (A := [_, _]) (List.Sublist.cons _ (List.Sublist.cons_cons _ (List.Sublist.cons_cons _ (List.nil_sublist _)))), hr⟩
    case run => intro K hK; go_simp; exact hK
    try walk_nrm
    co_applyP AnyF.take Sd.rely (i := 27) rfl (by kernel_rfl) (by kernel_rfl) (by kernel_rfl) (YF.pu (by rfl) (fun _ => run_eq_of ?run) (fun _ => by simp [go_sem, *])) ⟨H.sub (A := [_, _]) (List.Sublist.cons _ (List.Sublist.cons_cons _ (List.Sublist.cons_cons _ (List.nil_sublist _)))), hr⟩
    case run => intro K hK; go_simp; exact hK
    try walk_nrm
    co_applyP AnyF.take Sd.rely (i := 28) rfl (by kernel_rfl) (by kernel_rfl) (by kernel_rfl) (YF.pu (by rfl) (fun _ => run_eq_of ?run) (fun _ => by simp [go_sem, *])) ⟨H.sub (A := [_, _]) (List.Sublist.cons _ (List.Sublist.cons_cons _ (List.Sublist.cons_cons _ (List.nil_sublist _)))), hr⟩
    case run => intro K hK; go_simp; exact hK
    try walk_nrm
    refine AnyF.all (rs := [30]) (by kernel_rfl) (by simp) ?_
    intro i hi
    simp only [List.mem_cons, List.not_mem_nil, or_false] at hi
    subst hi
    co_applyP OpF.str 0 rfl (by rfl) rfl H hq rfl rfl rfl (by kernel_rfl) (by rfl) (by kernel_rfl)
    intro K w hK1 H1
    replace H := H1
    clear hK1 H1
    simp only [List.set_cons_zero] at H
    refine ⟨⟨H.sub (A := [_, _]) (List.Sublist.cons _ (List.Sublist.cons_cons _ (List.Sublist.cons_cons _ (List.nil_sublist _)))), hr⟩, ?_⟩
    try walk_nrm
    co_applyP AnyF.take Sd.rely (i := 31) rfl (by kernel_rfl) (by kernel_rfl) (by kernel_rfl) (YF.pu (by rfl) (fun _ => run_eq_of ?run) (fun _ => by simp [go_sem, *])) ⟨H.sub (A := [_, _]) (List.Sublist.cons _ (List.Sublist.cons_cons _ (List.Sublist.cons_cons _ (List.nil_sublist _)))), hr⟩
    case run => intro K hK; go_simp; exact hK
    try walk_nrm
    co_apply AnyF.done (by kernel_rfl)
    intro K hK1 w hr1
    replace H := H.rely hr1
    clear hr1 hK1
    try simp only [thenF]
    co_apply WF.seqP
    co_apply WF.region
    try simp only [List.size_toArray, List.length_cons, List.length_nil, Nat.reduceAdd, Nat.zero_add, List.range, List.range.loop]
    co_applyP OF.pu rfl (by rfl) (fun _ => run_eq_of ?run) (fun _ => by simp [go_sem, *])
    case run => intro K hK; go_simp; exact hK
    try walk_nrm
    co_applyP OF.ldr 0 rfl (by rfl) rfl H hq rfl rfl Try.underlying38 rfl (by kernel_rfl)
    intro K w hK1 hr1 H1
    replace H := H1
    clear hr1 hK1 H1
    try walk_nrm
    co_applyP OF.callJ rfl (by rfl) rfl
    · walk_nrm
      exact hpacked H hq
    rintro _ K y' w hK1 ⟨rfl, hg1, H1⟩
    replace hg := hg.trans hg1
    replace hr := hg1.role.trans hr
    have hq1 : y'.role.quiet = false := by rw [hr]; rfl
    replace hq := hq1
    replace H := H1
    clear hg1 H1 hq1 hK1
    try walk_nrm
    co_applyP OF.pu rfl (by rfl) (fun _ => run_eq_of ?run) (fun _ => by simp [go_sem, *])
    case run => intro K hK; go_simp; exact hK
    try walk_nrm
    co_applyP OF.pu rfl (by rfl) (fun _ => run_eq_of ?run) (fun _ => by simp [go_sem, *])
    case run => intro K hK; go_simp; exact hK
    try walk_nrm
    co_applyP OF.st1 1 4 rfl (by rfl) rfl H hq rfl rfl rfl rfl rfl (by kernel_rfl)
    intro K w₁ w hK1 hr1 hu1 H1
    replace H := H1
    clear hr1 hK1 hu1 H1
    simp only [List.set_cons_zero, List.set_cons_succ, List.setIfInBounds_toArray] at H
    try walk_nrm
    co_apply OF.nil
    try simp only [thenF]
    co_apply WF.seqP
    co_apply WF.seqP
    have hne : (slept.num == (wdv ((0 : Nat) : Int) true).num) = false := by decide
    have hne2 : (slept.num == (wdv 0 true).num) = false := by decide
    co_apply WF.drawnB B (nd + nv + ng) (Sd N _ _ _) (by simp only [List.size_toArray, List.length_cons, List.length_nil, Nat.reduceAdd, Nat.zero_add]; omega) (by kernel_rfl)
    intro K hK1 w₀ hr1
    replace H := (H.rely hr1).drew
    clear hr1 hK1
    generalize ({ w₀ with drawn := w₀.drawn + 1 } : World) = w at H ⊢
    try simp only [List.size_toArray, List.length_cons, List.length_nil, Nat.reduceAdd, Nat.zero_add]
    co_applyP AnyF.take Sd.rely (i := 0) rfl (by kernel_rfl) (by kernel_rfl) (by kernel_rfl) (YF.pu (by rfl) (fun _ => run_eq_of ?run) (fun _ => by simp [go_sem, *])) ⟨H.sub (A := [_, _]) (List.Sublist.cons _ (List.Sublist.cons_cons _ (List.Sublist.cons_cons _ (List.nil_sublist _)))), hr⟩
    case run => intro K hK; go_simp; exact hK
    try walk_nrm
    co_applyP AnyF.take Sd.rely (i := 1) rfl (by kernel_rfl) (by kernel_rfl) (by kernel_rfl) (YF.pu (by rfl) (fun _ => run_eq_of ?run) (fun _ => by simp [go_sem, *])) ⟨H.sub (A := [_, _]) (List.Sublist.cons _ (List.Sublist.cons_cons _ (List.Sublist.cons_cons _ (List.nil_sublist _)))), hr⟩
    case run => intro K hK; go_simp; exact hK
    try walk_nrm
    co_applyP AnyF.take Sd.rely (i := 2) rfl (by kernel_rfl) (by kernel_rfl) (by kernel_rfl) (YF.pu (by rfl) (fun _ => run_eq_of ?run) (fun _ => by simp [go_sem, *])) ⟨H.sub (A := [_, _]) (List.Sublist.cons _ (List.Sublist.cons_cons _ (List.Sublist.cons_cons _ (List.nil_sublist _)))), hr⟩
    case run => intro K hK; go_simp; exact hK
    try walk_nrm
    co_applyP AnyF.take Sd.rely (i := 3) rfl (by kernel_rfl) (by kernel_rfl) (by kernel_rfl) (YF.ld1 0 4 (by rfl) rfl (by rfl) rfl rfl rfl Try.underlying102 rfl) ⟨H.sub (A := [_, _]) (List.Sublist.cons _ (List.Sublist.cons_cons _ (List.Sublist.cons_cons _ (List.nil_sublist _)))), hr⟩
    try walk_nrm
    co_applyP AnyF.take Sd.rely (i := 4) rfl (by kernel_rfl) (by kernel_rfl) (by kernel_rfl) (YF.pu (by rfl) (fun _ => run_eq_of ?run) (fun _ => by simp [go_sem, *])) ⟨H.sub (A := [_, _]) (List.Sublist.cons _ (List.Sublist.cons_cons _ (List.Sublist.cons_cons _ (List.nil_sublist _)))), hr⟩
    case run => intro K hK; go_simp; exact hK
    try walk_nrm
    co_applyP AnyF.take Sd.rely (i := 5) rfl (by kernel_rfl) (by kernel_rfl) (by kernel_rfl) (YF.pu (by rfl) (fun _ => run_eq_of ?run) (fun _ => by simp [go_sem, *])) ⟨H.sub (A := [_, _]) (List.Sublist.cons _ (List.Sublist.cons_cons _ (List.Sublist.cons_cons _ (List.nil_sublist _)))), hr⟩
    case run => intro K hK; go_simp; exact hK
    try walk_nrm
    co_applyP AnyF.take Sd.rely (i := 6) rfl (by kernel_rfl) (by kernel_rfl) (by kernel_rfl) (YF.pu (by rfl) (fun _ => run_eq_of ?run) (fun _ => by simp [go_sem, *])) ⟨H.sub (A := [_, _]) (List.Sublist.cons _ (List.Sublist.cons_cons _ (List.Sublist.cons_cons _ (List.nil_sublist _)))), hr⟩
    case run => intro K hK; go_simp; exact hK
    try walk_nrm
    co_applyP AnyF.take Sd.rely (i := 7) rfl (by kernel_rfl) (by kernel_rfl) (by kernel_rfl) (YF.ld1 0 3 (by rfl) rfl (by rfl) rfl rfl rfl Try.underlying102 rfl) ⟨H.sub (A := [_, _]) (List.Sublist.cons _ (List.Sublist.cons_cons _ (List.Sublist.cons_cons _ (List.nil_sublist _)))), hr⟩
    try walk_nrm
    co_applyP AnyF.take Sd.rely (i := 8) rfl (by kernel_rfl) (by kernel_rfl) (by kernel_rfl) (YF.pu (by rfl) (fun _ => run_eq_of ?run) (fun _ => by simp [go_sem, *])) ⟨H.sub (A := [_, _]) (List.Sublist.cons _ (List.Sublist.cons_cons _ (List.Sublist.cons_cons _ (List.nil_sublist _)))), hr⟩
    case run => intro K hK; go_simp; exact hK
    try walk_nrm
    co_apply AnyF.done (by kernel_rfl)
    intro K hK1 w hr1
    replace H := H.rely hr1
    clear hr1 hK1
    try simp only [thenF]
    co_apply WF.cond (t := false) rfl
    simp only [Bool.false_eq_true, ↓reduceIte]
    co_apply WF.skip
    try simp only [thenF]
    co_apply WF.region
    try simp only [List.size_toArray, List.length_cons, List.length_nil, Nat.reduceAdd, Nat.zero_add, List.range, List.range.loop]
    co_applyP OF.pu rfl (by rfl) (fun _ => run_eq_of ?run) (fun _ => by simp [go_sem, *])
    case run => intro K hK; go_simp; exact hK
    try walk_nrm
    co_applyP OF.pu rfl (by rfl) (fun _ => run_eq_of ?run) (fun _ => by simp [go_sem, *])
    case run => intro K hK; go_simp; exact hK
    try walk_nrm
    co_applyP OF.pu rfl (by rfl) (fun _ => run_eq_of ?run) (fun _ => by simp [go_sem, *])
    case run => intro K hK; go_simp; exact hK
    try walk_nrm
    co_applyP OF.st1 1 5 rfl (by rfl) rfl H hq rfl rfl rfl rfl rfl (by kernel_rfl)
    intro K w₁ w hK1 hr1 hu1 H1
    replace H := H1
    clear hr1 hK1 hu1 H1
    simp only [List.set_cons_zero, List.set_cons_succ, List.setIfInBounds_toArray] at H
    try walk_nrm
    co_apply OF.nil
    exact retG_of rfl (resultsC_none (by rfl) _) (fun K₂ hK₂ w₂ r₂ => ⟨rfl, hg, _, (H.rely r₂).tail⟩)

set_option maxHeartbeats 8000000 in
set_option maxRecDepth 100000 in
theorem oput : ∃ nf, ∀ {N : Nat} {F : Nat → World → Prop} {m : Bool} {y : Gh Role} {K : Nat} {w : World} {l : List Row} (sh : Nat → Prop) (g ba : Nat) (d kind now x x2 code tries : Int) (_ : y.role = .alone sh) (_ : Ctx N F y K w ((ba, #[.pointer (some ⟨g, 0, none⟩), .int .u8 kind, .int .i64 now, .int .u64 x, .int .u64 x2, .bool true, .bool false, .int .i64 code, .int .i64 tries], 106) :: (g, #[.int .i64 d, .int .u64 x], 100) :: l)),
    CJ (S N) m 45 #[.pointer (some ⟨ba, 0, none⟩)] nf (fun r K' y' w' => r = .tuple #[] ∧ Gr y y' ∧ ∃ tries' : Int, Ctx N F y' K' w' ((ba, #[.pointer (some ⟨g, 0, none⟩), .int .u8 kind, .int .i64 now, .int .u64 x, .int .u64 x2, .bool false, .bool true, .int .i64 code, .int .i64 tries'], 106) :: (g, #[.int .i64 d, .int .u64 x2], 100) :: l)) K y w := by
  obtain ⟨nc, hcas⟩ := cas_o
  obtain ⟨B, hB⟩ : ∃ B, 40 * (nc + 1) + 2 ≤ B := ⟨_, Nat.le_refl _⟩
  co_apply Exists.intro
  intro N F m y K w l sh g ba d kind now x x2 code tries hr H
  have hg := Gr.refl y
  have hq : y.role.quiet = false := by rw [hr]; rfl
  co_apply CJ.of_WF Try.func45 (by kernel_rfl) (by rfl)
  simp only [show Try.f45.ntmps = 102 from rfl]
  try walk_nrm
  co_apply WF.seqP (n₂ := 0)
  co_apply WF.seqP
  co_apply WF.region
  try simp only [List.size_toArray, List.length_cons, List.length_nil, Nat.reduceAdd, Nat.zero_add, List.range, List.range.loop]
  co_applyP OF.pu rfl (by rfl) (fun _ => run_eq_of ?run) (fun _ => by simp [go_sem, *])
  case run => intro K hK; go_simp; exact hK
  try walk_nrm
  co_applyP OF.pu rfl (by rfl) (fun _ => run_eq_of ?run) (fun _ => by simp [go_sem, *])
  case run => intro K hK; go_simp; exact hK
  try walk_nrm
  co_applyP OF.pu rfl (by rfl) (fun _ => run_eq_of ?run) (fun _ => by simp [go_sem, *])
  case run => intro K hK; go_simp; exact hK
  try walk_nrm
  co_applyP OF.ld1 0 5 rfl (by rfl) rfl H hq rfl rfl rfl Try.underlying4 rfl
  intro K w hK1 hr1 H1
  replace H := H1
  clear hr1 hK1 H1
  try walk_nrm
  co_apply OF.nil
  try simp only [thenF]
  co_apply WF.cond (t := true) rfl
  simp only [↓reduceIte]
  co_apply WF.seqP
  co_apply WF.region
  try simp only [List.size_toArray, List.length_cons, List.length_nil, Nat.reduceAdd, Nat.zero_add, List.range, List.range.loop]
  co_applyP OF.pu rfl (by rfl) (fun _ => run_eq_of ?run) (fun _ => by simp [go_sem, *])
  case run => intro K hK; go_simp; exact hK
  try walk_nrm
  co_applyP OF.pu rfl (by rfl) (fun _ => run_eq_of ?run) (fun _ => by simp [go_sem, *])
  case run => intro K hK; go_simp; exact hK
  try walk_nrm
  co_applyP OF.pu rfl (by rfl) (fun _ => run_eq_of ?run) (fun _ => by simp [go_sem, *])
  case run => intro K hK; go_simp; exact hK
  try walk_nrm
  co_applyP OF.pu rfl (by rfl) (fun _ => run_eq_of ?run) (fun _ => by simp [go_sem, *])
  case run => intro K hK; go_simp; exact hK
  try walk_nrm
  co_applyP OF.ld1 0 8 rfl (by rfl) rfl H hq rfl rfl rfl Try.underlying3 rfl
  intro K w hK1 hr1 H1
  replace H := H1
  clear hr1 hK1 H1
  try walk_nrm
  co_applyP OF.pu rfl (by rfl) (fun _ => run_eq_of ?run) (fun _ => by simp [go_sem, *])
  case run => intro K hK; go_simp; exact hK
  try walk_nrm
  co_applyP OF.pu rfl (by rfl) (fun _ => run_eq_of ?run) (fun _ => by simp [go_sem, *])
  case run => intro K hK; go_simp; exact hK
  try walk_nrm
  co_applyP OF.pu rfl (by rfl) (fun _ => run_eq_of ?run) (fun _ => by simp [go_sem, *])
  case run => intro K hK; go_simp; exact hK
  try walk_nrm
  co_applyP OF.pu rfl (by rfl) (fun _ => run_eq_of ?run) (fun _ => by simp [go_sem, *])
  case run => intro K hK; go_simp; exact hK
  try walk_nrm
  co_applyP OF.st1 0 8 rfl (by rfl) rfl H hq rfl rfl rfl rfl rfl (by kernel_rfl)
  intro K w₁ w hK1 hr1 hu1 H1
  replace H := H1
  clear hr1 hK1 hu1 H1
  simp only [List.set_cons_zero, List.set_cons_succ, List.setIfInBounds_toArray] at H
  try walk_nrm
  co_apply OF.nil
  try simp only [thenF]
  co_apply WF.seqP
  co_apply WF.drawnB B (nc) (Sr N ba 106 [(0, .pointer (some ⟨g, 0, none⟩)), (3, .int .u64 x), (4, .int .u64 x2)]) (by simp only [List.size_toArray, List.length_cons, List.length_nil, Nat.reduceAdd, Nat.zero_add]; omega) (by kernel_rfl)
  intro K hK1 w₀ hr1
  replace H := (H.rely hr1).drew
  clear hr1 hK1
  generalize ({ w₀ with drawn := w₀.drawn + 1 } : World) = w at H ⊢
  try simp only [List.size_toArray, List.length_cons, List.length_nil, Nat.reduceAdd, Nat.zero_add]
  co_applyP AnyF.take Sr.rely (i := 0) rfl (by kernel_rfl) (by kernel_rfl) (by kernel_rfl) (YR.pu (by rfl) (fun _ => run_eq_of ?run) (fun _ => by simp [go_sem, *])) ⟨⟨_, _, 0, _, H, rfl, by simp⟩, hq⟩
  case run => intro K hK; go_simp; exact hK
  try walk_nrm
  co_applyP AnyF.take Sr.rely (i := 1) rfl (by kernel_rfl) (by kernel_rfl) (by kernel_rfl) (YR.pu (by rfl) (fun _ => run_eq_of ?run) (fun _ => by simp [go_sem, *])) ⟨⟨_, _, 0, _, H, rfl, by simp⟩, hq⟩
  case run => intro K hK; go_simp; exact hK
  try walk_nrm
  co_applyP AnyF.take Sr.rely (i := 2) rfl (by kernel_rfl) (by kernel_rfl) (by kernel_rfl) (YR.pu (by rfl) (fun _ => run_eq_of ?run) (fun _ => by simp [go_sem, *])) ⟨⟨_, _, 0, _, H, rfl, by simp⟩, hq⟩
  case run => intro K hK; go_simp; exact hK
  try walk_nrm
  co_applyP AnyF.take Sr.rely (i := 3) rfl (by kernel_rfl) (by kernel_rfl) (by kernel_rfl) (YR.pu (by rfl) (fun _ => run_eq_of ?run) (fun _ => by simp [go_sem, *])) ⟨⟨_, _, 0, _, H, rfl, by simp⟩, hq⟩
  case run => intro K hK; go_simp; exact hK
  try walk_nrm
  co_applyP AnyF.take Sr.rely (i := 4) rfl (by kernel_rfl) (by kernel_rfl) (by kernel_rfl) (YR.ld1 0 0 (by rfl) rfl rfl rfl Try.underlying23 rfl) ⟨⟨_, _, 0, _, H, rfl, by simp⟩, hq⟩
  try walk_nrm
  co_applyP AnyF.take Sr.rely (i := 5) rfl (by kernel_rfl) (by kernel_rfl) (by kernel_rfl) (YR.pu (by rfl) (fun _ => run_eq_of ?run) (fun _ => by simp [go_sem, *])) ⟨⟨_, _, 0, _, H, rfl, by simp⟩, hq⟩
  case run => intro K hK; go_simp; exact hK
  try walk_nrm
  co_applyP AnyF.take Sr.rely (i := 6) rfl (by kernel_rfl) (by kernel_rfl) (by kernel_rfl) (YR.pu (by rfl) (fun _ => run_eq_of ?run) (fun _ => by simp [go_sem, *])) ⟨⟨_, _, 0, _, H, rfl, by simp⟩, hq⟩
  case run => intro K hK; go_simp; exact hK
  try walk_nrm
  co_applyP AnyF.take Sr.rely (i := 7) rfl (by kernel_rfl) (by kernel_rfl) (by kernel_rfl) (YR.pu (by rfl) (fun _ => run_eq_of ?run) (fun _ => by simp [go_sem, *])) ⟨⟨_, _, 0, _, H, rfl, by simp⟩, hq⟩
  case run => intro K hK; go_simp; exact hK
  try walk_nrm
  co_applyP AnyF.take Sr.rely (i := 8) rfl (by kernel_rfl) (by kernel_rfl) (by kernel_rfl) (YR.pu (by rfl) (fun _ => run_eq_of ?run) (fun _ => by simp [go_sem, *])) ⟨⟨_, _, 0, _, H, rfl, by simp⟩, hq⟩
  case run => intro K hK; go_simp; exact hK
  try walk_nrm
  co_applyP AnyF.take Sr.rely (i := 9) rfl (by kernel_rfl) (by kernel_rfl) (by kernel_rfl) (YR.pu (by rfl) (fun _ => run_eq_of ?run) (fun _ => by simp [go_sem, *])) ⟨⟨_, _, 0, _, H, rfl, by simp⟩, hq⟩
  case run => intro K hK; go_simp; exact hK
  try walk_nrm
  co_applyP AnyF.take Sr.rely (i := 10) rfl (by kernel_rfl) (by kernel_rfl) (by kernel_rfl) (YR.ld1 1 3 (by rfl) rfl rfl rfl Try.underlying102 rfl) ⟨⟨_, _, 0, _, H, rfl, by simp⟩, hq⟩
  try walk_nrm
  co_applyP AnyF.take Sr.rely (i := 11) rfl (by kernel_rfl) (by kernel_rfl) (by kernel_rfl) (YR.pu (by rfl) (fun _ => run_eq_of ?run) (fun _ => by simp [go_sem, *])) ⟨⟨_, _, 0, _, H, rfl, by simp⟩, hq⟩
  case run => intro K hK; go_simp; exact hK
  try walk_nrm
  co_applyP AnyF.take Sr.rely (i := 12) rfl (by kernel_rfl) (by kernel_rfl) (by kernel_rfl) (YR.pu (by rfl) (fun _ => run_eq_of ?run) (fun _ => by simp [go_sem, *])) ⟨⟨_, _, 0, _, H, rfl, by simp⟩, hq⟩
  case run => intro K hK; go_simp; exact hK
  try walk_nrm
  co_applyP AnyF.take Sr.rely (i := 13) rfl (by kernel_rfl) (by kernel_rfl) (by kernel_rfl) (YR.pu (by rfl) (fun _ => run_eq_of ?run) (fun _ => by simp [go_sem, *])) ⟨⟨_, _, 0, _, H, rfl, by simp⟩, hq⟩
  case run => intro K hK; go_simp; exact hK
  try walk_nrm
  co_applyP AnyF.take Sr.rely (i := 14) rfl (by kernel_rfl) (by kernel_rfl) (by kernel_rfl) (YR.ld1 2 4 (by rfl) rfl rfl rfl Try.underlying102 rfl) ⟨⟨_, _, 0, _, H, rfl, by simp⟩, hq⟩
  try walk_nrm
  refine AnyF.all (rs := [15]) (by kernel_rfl) (by simp) ?_
  intro i hi
  simp only [List.mem_cons, List.not_mem_nil, or_false] at hi
  subst hi
  co_applyP OpF.cJ rfl (by rfl) rfl Try.func59 (by kernel_rfl) (by kernel_rfl) H
  intro K₀ w₁ hK0 H0
  co_apply Exists.intro
  co_apply And.intro
  · walk_nrm
    exact (hcas sh g d _ _ hr H0.swap).more (by omega)
  rintro _ K y' w hK2 ⟨rfl, hg1, H1⟩
  have hK1 := Nat.le_trans hK2 hK0
  clear hK2 hK0 H0
  replace hg := hg.trans hg1
  replace hr := hg1.role.trans hr
  have hq1 : y'.role.quiet = false := by rw [hr]; rfl
  replace hq := hq1
  replace H := H1
  replace H := H.swap
  clear hg1 H1 hq1 hK1
  try walk_nrm
  refine ⟨⟨⟨_, _, 0, _, H, rfl, by simp⟩, hq⟩, ?_⟩
  try walk_nrm
  co_applyP AnyF.take Sr.rely (i := 16) rfl (by kernel_rfl) (by kernel_rfl) (by kernel_rfl) (YR.pu (by rfl) (fun _ => run_eq_of ?run) (fun _ => by simp [go_sem, *])) ⟨⟨_, _, 0, _, H, rfl, by simp⟩, hq⟩
  case run => intro K hK; go_simp; exact hK
  try walk_nrm
  co_applyP AnyF.take Sr.rely (i := 17) rfl (by kernel_rfl) (by kernel_rfl) (by kernel_rfl) (YR.pu (by rfl) (fun _ => run_eq_of ?run) (fun _ => by simp [go_sem, *])) ⟨⟨_, _, 0, _, H, rfl, by simp⟩, hq⟩
  case run => intro K hK; go_simp; exact hK
  try walk_nrm
  refine AnyF.all (rs := [18]) (by kernel_rfl) (by simp) ?_
  intro i hi
  simp only [List.mem_cons, List.not_mem_nil, or_false] at hi
  subst hi
  co_applyP OpF.st1 0 6 rfl (by rfl) rfl H hq rfl rfl rfl rfl rfl (by kernel_rfl)
  intro K w hK1 H1
  replace H := H1
  clear hK1 H1
  simp only [List.set_cons_zero, List.set_cons_succ, List.setIfInBounds_toArray] at H
  refine ⟨⟨⟨_, _, 0, _, H, rfl, by simp⟩, hq⟩, ?_⟩
  try walk_nrm
  co_apply AnyF.done (by kernel_rfl)
  intro K hK1 w hr1
  replace H := H.rely hr1
  clear hr1 hK1
  try simp only [thenF]
  co_apply WF.seqP
  co_apply WF.region
  try simp only [List.size_toArray, List.length_cons, List.length_nil, Nat.reduceAdd, Nat.zero_add, List.range, List.range.loop]
  co_applyP OF.pu rfl (by rfl) (fun _ => run_eq_of ?run) (fun _ => by simp [go_sem, *])
  case run => intro K hK; go_simp; exact hK
  try walk_nrm
  co_applyP OF.pu rfl (by rfl) (fun _ => run_eq_of ?run) (fun _ => by simp [go_sem, *])
  case run => intro K hK; go_simp; exact hK
  try walk_nrm
  co_applyP OF.pu rfl (by rfl) (fun _ => run_eq_of ?run) (fun _ => by simp [go_sem, *])
  case run => intro K hK; go_simp; exact hK
  try walk_nrm
  co_applyP OF.st1 0 5 rfl (by rfl) rfl H hq rfl rfl rfl rfl rfl (by kernel_rfl)
  intro K w₁ w hK1 hr1 hu1 H1
  replace H := H1
  clear hr1 hK1 hu1 H1
  simp only [List.set_cons_zero, List.set_cons_succ, List.setIfInBounds_toArray] at H
  try walk_nrm
  co_apply OF.nil
  try simp only [thenF]
  co_apply WF.ret
  try simp only [thenF]
  exact retG_of rfl (resultsC_none (by rfl) _) (fun K₂ hK₂ w₂ r₂ => ⟨rfl, hg, _, H.rely r₂⟩)

end Go.Proofs.Ytgnhddnhcfmipaa.Ids
