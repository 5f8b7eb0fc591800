/- IdleStorms: a step of a worker's call. Printed by wip/tools/gen_ids14.py. -/
import Derived.Test.YtgnhddnhcfmipaaIds13
namespace Go.Proofs.Ytgnhddnhcfmipaa.Ids
open Go Go.Conc Go.RowKit Go.Proofs.Ytgnhddnhcfmipaa.Eg Go.Proofs.Ytgnhddnhcfmipaa

set_option maxHeartbeats 8000000 in
set_option maxRecDepth 100000 in
theorem read_get : ∃ nf, ∀ {N : Nat} {F : Nat → World → Prop} {m : Bool} {y : Gh Role} {K : Nat} {w : World} {l : List Row} (c : Cfg) (d : Bool) (ba : Nat) (was nxt code tries : Int) (_ : y.role = .work c (.busy false d)) (_ : Ctx N F y K w ((ba, #[.pointer (some ⟨c.wd, 0, none⟩), .int .u8 1, .int .i64 0, .int .u64 was, .int .u64 nxt, .bool false, .bool false, .int .i64 code, .int .i64 tries], 106) :: l)),
    CJ (S N) m 45 #[.pointer (some ⟨ba, 0, none⟩)] nf (fun r K' y' w' => ∃ (K₁ u : Nat) (e : Bool), K₁ ≤ K ∧ u < 16 ∧ r = .tuple #[] ∧ Gr y y' ∧ Ctx N (Seen c K₁ u e) y' K' w' ((ba, #[.pointer (some ⟨c.wd, 0, none⟩), .int .u8 1, .int .i64 0, .int .u64 (wdv ((u : Nat) : Int) e).num, .int .u64 (wdv (((u + 1) : Nat) : Int) true).num, .bool true, .bool false, .int .i64 code, .int .i64 tries], 106) :: l)) K y w := by
  obtain ⟨nl, hload⟩ := load_w
  obtain ⟨nd, hdeeds⟩ := deeds_c
  obtain ⟨nv, hview⟩ := view_w
  obtain ⟨ng, hdeed⟩ := get_w
  obtain ⟨np, hpacked⟩ := packed_w
  obtain ⟨B, hB⟩ : ∃ B, 40 * (nd + nv + ng + 1) + 2 ≤ B := ⟨_, Nat.le_refl _⟩
  co_apply Exists.intro
  intro N F m y K w l c d ba was nxt code tries hr H
  have hg := Gr.refl y
  have hq : y.role.quiet = false := by rw [hr]; rfl
  obtain ⟨KS, hKS⟩ : ∃ KS, KS = K := ⟨K, rfl⟩
  have hKs : K ≤ KS := Nat.le_of_eq hKS.symm
  co_apply CJ.of_WF Try.func45 (by kernel_rfl) (by rfl)
  simp only [show Try.f45.ntmps = 102 from rfl]
  walk_nrm
  co_apply WF.seqP
  co_apply WF.seqP
  co_apply WF.region
  try simp only [List.size_toArray, List.length_cons, List.length_nil, Nat.reduceAdd, Nat.zero_add, List.range, List.range.loop]
  co_applyP OF.pu rfl (by rfl) (fun _ => run_eq_of ?run) (fun _ => by simp [go_sem, *])
  case run => intro K hK; go_simp; exact hK
  try walk_nrm
  co_applyP OF.pu rfl (by rfl) (fun _ => run_eq_of ?run) (fun _ => by simp [go_sem, *])
  case run => intro K hK; go_simp; exact hK
  try walk_nrm
  co_applyP OF.pu rfl (by rfl) (fun _ => run_eq_of ?run) (fun _ => by simp [go_sem, *])
  case run => intro K hK; go_simp; exact hK
  try walk_nrm
  co_applyP OF.ld1 0 5 rfl (by rfl) rfl H hq rfl rfl rfl Try.underlying4 rfl
  intro K w hK1 hr1 H1
  replace H := H1
  replace hKs := Nat.le_trans hK1 hKs
  clear hr1 hK1 H1
  try walk_nrm
  co_apply OF.nil
  simp only [thenF]
  co_apply WF.cond (t := false) rfl
  simp only [Bool.false_eq_true, ↓reduceIte]
  co_apply WF.skip
  simp only [thenF]
  co_apply WF.seqP
  co_apply WF.region
  try simp only [List.size_toArray, List.length_cons, List.length_nil, Nat.reduceAdd, Nat.zero_add, List.range, List.range.loop]
  co_applyP OF.pu rfl (by rfl) (fun _ => run_eq_of ?run) (fun _ => by simp [go_sem, *])
  case run => intro K hK; go_simp; exact hK
  try walk_nrm
  co_applyP OF.pu rfl (by rfl) (fun _ => run_eq_of ?run) (fun _ => by simp [go_sem, *])
  case run => intro K hK; go_simp; exact hK
  try walk_nrm
  co_applyP OF.pu rfl (by rfl) (fun _ => run_eq_of ?run) (fun _ => by simp [go_sem, *])
  case run => intro K hK; go_simp; exact hK
  try walk_nrm
  co_applyP OF.pu rfl (by rfl) (fun _ => run_eq_of ?run) (fun _ => by simp [go_sem, *])
  case run => intro K hK; go_simp; exact hK
  try walk_nrm
  co_applyP OF.ld1 0 0 rfl (by rfl) rfl H hq rfl rfl rfl Try.underlying23 rfl
  intro K w hK1 hr1 H1
  replace H := H1
  replace hKs := Nat.le_trans hK1 hKs
  clear hr1 hK1 H1
  try walk_nrm
  co_applyP OF.pu rfl (by rfl) (fun _ => run_eq_of ?run) (fun _ => by simp [go_sem, *])
  case run => intro K hK; go_simp; exact hK
  try walk_nrm
  co_applyP OF.pu rfl (by rfl) (fun _ => run_eq_of ?run) (fun _ => by simp [go_sem, *])
  case run => intro K hK; go_simp; exact hK
  try walk_nrm
  co_applyP OF.callJ rfl (by rfl) rfl
  · walk_nrm
    exact hload c _ d hr H
  rintro _ K y' w hK1 ⟨K₁, u₁, e₁, k1, k2, rfl, x1, x2, x3, rfl, H1⟩
  replace H := H1
  have hKs1 : K₁ ≤ KS := Nat.le_trans k2 hKs
  replace hKs := Nat.le_trans hK1 hKs
  clear hK1 H1 k1 k2
  have hu : u₁ < 16 := by simp [Wp.vac] at x2; omega
  clear x1 x2 x3
  walk_nrm
  co_applyP OF.pu rfl (by rfl) (fun _ => run_eq_of ?run) (fun _ => by simp [go_sem, *])
  case run => intro K hK; go_simp; exact hK
  try walk_nrm
  co_applyP OF.pu rfl (by rfl) (fun _ => run_eq_of ?run) (fun _ => by simp [go_sem, *])
  case run => intro K hK; go_simp; exact hK
  try walk_nrm
  co_applyP OF.st1 0 3 rfl (by rfl) rfl H hq rfl rfl rfl rfl rfl (by kernel_rfl)
  intro K w₁ w hK1 hr1 hu1 H1
  replace H := H1
  replace hKs := Nat.le_trans hK1 hKs
  clear hr1 hK1 hu1 H1
  simp only [List.set_cons_zero, List.set_cons_succ, List.setIfInBounds_toArray] at H
  try walk_nrm
  co_apply OF.nil
  simp only [thenF]
  co_apply WF.seqP
  co_apply WF.drawnB B (nd + nv + ng) (Sd N _ _ _) (by simp only [List.size_toArray, List.length_cons, List.length_nil, Nat.reduceAdd, Nat.zero_add]; omega) (by kernel_rfl)
  intro K hK1 w₀ hr1
  replace H := (H.rely hr1).drew
  replace hKs := Nat.le_trans hK1 hKs
  clear hr1 hK1
  generalize ({ w₀ with drawn := w₀.drawn + 1 } : World) = w at H ⊢
  try simp only [List.size_toArray, List.length_cons, List.length_nil, Nat.reduceAdd, Nat.zero_add]
  co_applyP AnyF.take Sd.rely (i := 1) rfl (by kernel_rfl) (by kernel_rfl) (by kernel_rfl) (YF.pu (by rfl) (fun _ => run_eq_of ?run) (fun _ => by simp [go_sem, *])) ⟨H.sub (A := [_]) (List.Sublist.cons_cons _ (List.nil_sublist _)), hr⟩
  case run => intro K hK; go_simp; exact hK
  try walk_nrm
  co_applyP AnyF.take Sd.rely (i := 2) rfl (by kernel_rfl) (by kernel_rfl) (by kernel_rfl) (YF.pu (by rfl) (fun _ => run_eq_of ?run) (fun _ => by simp [go_sem, *])) ⟨H.sub (A := [_]) (List.Sublist.cons_cons _ (List.nil_sublist _)), hr⟩
  case run => intro K hK; go_simp; exact hK
  try walk_nrm
  co_applyP AnyF.take Sd.rely (i := 3) rfl (by kernel_rfl) (by kernel_rfl) (by kernel_rfl) (YF.pu (by rfl) (fun _ => run_eq_of ?run) (fun _ => by simp [go_sem, *])) ⟨H.sub (A := [_]) (List.Sublist.cons_cons _ (List.nil_sublist _)), hr⟩
  case run => intro K hK; go_simp; exact hK
  try walk_nrm
  co_applyP AnyF.take Sd.rely (i := 4) rfl (by kernel_rfl) (by kernel_rfl) (by kernel_rfl) (YF.pu (by rfl) (fun _ => run_eq_of ?run) (fun _ => by simp [go_sem, *])) ⟨H.sub (A := [_]) (List.Sublist.cons_cons _ (List.nil_sublist _)), hr⟩
  case run => intro K hK; go_simp; exact hK
  try walk_nrm
  co_applyP AnyF.take Sd.rely (i := 5) rfl (by kernel_rfl) (by kernel_rfl) (by kernel_rfl) (YF.ld1 0 1 (by rfl) rfl (by rfl) rfl rfl rfl Try.underlying5 rfl) ⟨H.sub (A := [_]) (List.Sublist.cons_cons _ (List.nil_sublist _)), hr⟩
  try walk_nrm
  co_applyP AnyF.take Sd.rely (i := 8) rfl (by kernel_rfl) (by kernel_rfl) (by kernel_rfl) (YF.pu (by rfl) (fun _ => run_eq_of ?run) (fun _ => by simp [go_sem, *])) ⟨H.sub (A := [_]) (List.Sublist.cons_cons _ (List.nil_sublist _)), hr⟩
  case run => intro K hK; go_simp; exact hK
  try walk_nrm
  co_applyP AnyF.take Sd.rely (i := 9) rfl (by kernel_rfl) (by kernel_rfl) (by kernel_rfl) (YF.pu (by rfl) (fun _ => run_eq_of ?run) (fun _ => by simp [go_sem, *])) ⟨H.sub (A := [_]) (List.Sublist.cons_cons _ (List.nil_sublist _)), hr⟩
  case run => intro K hK; go_simp; exact hK
  try walk_nrm
  co_applyP AnyF.take Sd.rely (i := 10) rfl (by kernel_rfl) (by kernel_rfl) (by kernel_rfl) (YF.pu (by rfl) (fun _ => run_eq_of ?run) (fun _ => by simp [go_sem, *])) ⟨H.sub (A := [_]) (List.Sublist.cons_cons _ (List.nil_sublist _)), hr⟩
  case run => intro K hK; go_simp; exact hK
  try walk_nrm
  co_applyP AnyF.take Sd.rely (i := 11) rfl (by kernel_rfl) (by kernel_rfl) (by kernel_rfl) (YF.ld1 0 0 (by rfl) rfl (by rfl) rfl rfl rfl Try.underlying23 rfl) ⟨H.sub (A := [_]) (List.Sublist.cons_cons _ (List.nil_sublist _)), hr⟩
  try walk_nrm
  co_applyP AnyF.take Sd.rely (i := 12) rfl (by kernel_rfl) (by kernel_rfl) (by kernel_rfl) (YF.pu (by rfl) (fun _ => run_eq_of ?run) (fun _ => by simp [go_sem, *])) ⟨H.sub (A := [_]) (List.Sublist.cons_cons _ (List.nil_sublist _)), hr⟩
  case run => intro K hK; go_simp; exact hK
  try walk_nrm
  co_applyP AnyF.take Sd.rely (i := 13) rfl (by kernel_rfl) (by kernel_rfl) (by kernel_rfl) (YF.pu (by rfl) (fun _ => run_eq_of ?run) (fun _ => by simp [go_sem, *])) ⟨H.sub (A := [_]) (List.Sublist.cons_cons _ (List.nil_sublist _)), hr⟩
  case run => intro K hK; go_simp; exact hK
  try walk_nrm
  co_applyP AnyF.take Sd.rely (i := 14) rfl (by kernel_rfl) (by kernel_rfl) (by kernel_rfl) (YF.ldS (by rfl) rfl rfl (by rfl) rfl (fun w hw => by obtain ⟨_, ⟨u, e, hwd, _⟩, _⟩ := hw; exact (wd_cell hwd).2.1) (.inr (.inr ⟨rfl, by simp⟩)) Try.underlying3 rfl) ⟨H.sub (A := [_]) (List.Sublist.cons_cons _ (List.nil_sublist _)), hr⟩
  try walk_nrm
  co_applyP AnyF.take Sd.rely (i := 15) rfl (by kernel_rfl) (by kernel_rfl) (by kernel_rfl) (YF.pu (by rfl) (fun _ => run_eq_of ?run) (fun _ => by simp [go_sem, *])) ⟨H.sub (A := [_]) (List.Sublist.cons_cons _ (List.nil_sublist _)), hr⟩
  case run => intro K hK; go_simp; exact hK
  try walk_nrm
  co_applyP AnyF.take Sd.rely (i := 16) rfl (by kernel_rfl) (by kernel_rfl) (by kernel_rfl) (YF.pu (by rfl) (fun _ => run_eq_of ?run) (fun _ => by simp [go_sem, *])) ⟨H.sub (A := [_]) (List.Sublist.cons_cons _ (List.nil_sublist _)), hr⟩
  case run => intro K hK; go_simp; exact hK
  try walk_nrm
  co_applyP AnyF.take Sd.rely (i := 17) rfl (by kernel_rfl) (by kernel_rfl) (by kernel_rfl) (YF.pu (by rfl) (fun _ => run_eq_of ?run) (fun _ => by simp [go_sem, *])) ⟨H.sub (A := [_]) (List.Sublist.cons_cons _ (List.nil_sublist _)), hr⟩
  case run => intro K hK; go_simp; exact hK
  try walk_nrm
  co_applyP AnyF.take Sd.rely (i := 18) rfl (by kernel_rfl) (by kernel_rfl) (by kernel_rfl) (YF.pu (by rfl) (fun _ => run_eq_of ?run) (fun _ => by simp [go_sem, *])) ⟨H.sub (A := [_]) (List.Sublist.cons_cons _ (List.nil_sublist _)), hr⟩
  case run => intro K hK; go_simp; exact hK
  try walk_nrm
  co_applyP AnyF.take Sd.rely (i := 19) rfl (by kernel_rfl) (by kernel_rfl) (by kernel_rfl) (YF.ld1 0 2 (by rfl) rfl (by rfl) rfl rfl rfl Try.underlying3 rfl) ⟨H.sub (A := [_]) (List.Sublist.cons_cons _ (List.nil_sublist _)), hr⟩
  try walk_nrm
  co_applyP AnyF.take Sd.rely (i := 20) rfl (by kernel_rfl) (by kernel_rfl) (by kernel_rfl) (YF.pu (by rfl) (fun _ => run_eq_of ?run) (fun _ => by simp [go_sem, *])) ⟨H.sub (A := [_]) (List.Sublist.cons_cons _ (List.nil_sublist _)), hr⟩
  case run => intro K hK; go_simp; exact hK
  try walk_nrm
  co_applyP AnyF.take Sd.rely (i := 21) rfl (by kernel_rfl) (by kernel_rfl) (by kernel_rfl) (YF.pu (by rfl) (fun _ => run_eq_of ?run) (fun _ => by simp [go_sem, *])) ⟨H.sub (A := [_]) (List.Sublist.cons_cons _ (List.nil_sublist _)), hr⟩
  case run => intro K hK; go_simp; exact hK
  try walk_nrm
  co_applyP AnyF.take Sd.rely (i := 22) rfl (by kernel_rfl) (by kernel_rfl) (by kernel_rfl) (YF.pu (by rfl) (fun _ => run_eq_of ?run) (fun _ => by simp [go_sem, *])) ⟨H.sub (A := [_]) (List.Sublist.cons_cons _ (List.nil_sublist _)), hr⟩
  case run => intro K hK; go_simp; exact hK
  try walk_nrm
  co_applyP AnyF.take Sd.rely (i := 23) rfl (by kernel_rfl) (by kernel_rfl) (by kernel_rfl) (YF.ld1 0 3 (by rfl) rfl (by rfl) rfl rfl rfl Try.underlying102 rfl) ⟨H.sub (A := [_]) (List.Sublist.cons_cons _ (List.nil_sublist _)), hr⟩
  try walk_nrm
  refine AnyF.all (rs := [0, 29]) (by kernel_rfl) (by simp) ?_
  intro i hi
  simp only [List.mem_cons, List.not_mem_nil, or_false] at hi
  rcases hi with rfl | rfl
  · skip
    co_applyP OpF.cJ rfl (by rfl) rfl Try.func60 (by kernel_rfl) (by kernel_rfl) H
    intro K₀ w₁ hK0 H0
    co_apply Exists.intro
    co_apply And.intro
    · walk_nrm
      exact (hdeeds H0 hq).more (by omega)
    rintro _ K y' w hK2 ⟨rfl, hg1, H1⟩
    have hK1 := Nat.le_trans hK2 hK0
    clear hK2 hK0 H0
    replace hg := hg.trans hg1
    replace hr := hg1.role.trans hr
    have hq1 : y'.role.quiet = false := by rw [hr]; rfl
    replace hq := hq1
    replace H := H1
    replace hKs := Nat.le_trans hK1 hKs
    clear hg1 H1 hq1 hK1
    try walk_nrm
    refine ⟨⟨H.sub (A := [_]) (List.Sublist.cons_cons _ (List.nil_sublist _)), hr⟩, ?_⟩
    try walk_nrm
    co_applyP AnyF.take Sd.rely (i := 6) rfl (by kernel_rfl) (by kernel_rfl) (by kernel_rfl) (YF.pu (v := .agg #[.func (.func 79) #[] #[]]) (by rfl) (fun _ => by kernel_rfl) (fun _ => by kernel_rfl)) ⟨H.sub (A := [_]) (List.Sublist.cons_cons _ (List.nil_sublist _)), hr⟩
    try walk_nrm
    co_applyP AnyF.take Sd.rely (i := 7) rfl (by kernel_rfl) (by kernel_rfl) (by kernel_rfl) (YF.pu (v := .func (.func 79) #[] #[]) (by rfl) (fun _ => by kernel_rfl) (fun _ => by kernel_rfl)) ⟨H.sub (A := [_]) (List.Sublist.cons_cons _ (List.nil_sublist _)), hr⟩
    try walk_nrm
    refine AnyF.all (rs := [24, 29]) (by kernel_rfl) (by simp) ?_
    intro i hi
    simp only [List.mem_cons, List.not_mem_nil, or_false] at hi
    rcases hi with rfl | rfl
    · skip
      co_applyP OpF.cJ rfl (by rfl) rfl Try.func44 (by kernel_rfl) (by kernel_rfl) H
      intro K₀ w₁ hK0 H0
      co_apply Exists.intro
      co_apply And.intro
      · walk_nrm
        exact (hview u₁ e₁ (by omega) H0 hq).more (by omega)
      rintro _ K y' w hK2 ⟨rfl, hg1, H1⟩
      have hK1 := Nat.le_trans hK2 hK0
      clear hK2 hK0 H0
      replace hg := hg.trans hg1
      replace hr := hg1.role.trans hr
      have hq1 : y'.role.quiet = false := by rw [hr]; rfl
      replace hq := hq1
      replace H := H1
      replace hKs := Nat.le_trans hK1 hKs
      clear hg1 H1 hq1 hK1
      try walk_nrm
      refine ⟨⟨H.sub (A := [_]) (List.Sublist.cons_cons _ (List.nil_sublist _)), hr⟩, ?_⟩
      try walk_nrm
      refine AnyF.all (rs := [25, 29]) (by kernel_rfl) (by simp) ?_
      intro i hi
      simp only [List.mem_cons, List.not_mem_nil, or_false] at hi
      rcases hi with rfl | rfl
      · skip
        co_applyP OpF.cV rfl (by rfl) rfl rfl Try.func79 (by kernel_rfl) (by kernel_rfl) H
        intro K₀ w₁ hK0 H0
        co_apply Exists.intro
        co_apply And.intro
        · walk_nrm
          exact (hdeed _ u₁ e₁ (by omega) H0 hq).more (by omega)
        rintro _ K y' w hK2 ⟨rfl, hg1, H1⟩
        have hK1 := Nat.le_trans hK2 hK0
        clear hK2 hK0 H0
        replace hg := hg.trans hg1
        replace hr := hg1.role.trans hr
        have hq1 : y'.role.quiet = false := by rw [hr]; rfl
        replace hq := hq1
        replace H := H1
        replace hKs := Nat.le_trans hK1 hKs
        clear hg1 H1 hq1 hK1
        try walk_nrm
        refine ⟨⟨H.sub (A := [_]) (List.Sublist.cons_cons _ (List.nil_sublist _)), hr⟩, ?_⟩
        try walk_nrm
        co_applyP AnyF.take Sd.rely (i := 26) rfl (by kernel_rfl) (by kernel_rfl) (by kernel_rfl) (YF.pu (by rfl) (fun _ => run_eq_of ?run) (fun _ => by simp [go_sem, *])) ⟨H.sub (A := [_]) (List.Sublist.cons_cons _ (List.nil_sublist _)), hr⟩
        case run => intro K hK; go_simp; exact hK
        try walk_nrm
        co_applyP AnyF.take Sd.rely (i := 27) rfl (by kernel_rfl) (by kernel_rfl) (by kernel_rfl) (YF.pu (by rfl) (fun _ => run_eq_of ?run) (fun _ => by simp [go_sem, *])) ⟨H.sub (A := [_]) (List.Sublist.cons_cons _ (List.nil_sublist _)), hr⟩
        case run => intro K hK; go_simp; exact hK
        try walk_nrm
        co_applyP AnyF.take Sd.rely (i := 28) rfl (by kernel_rfl) (by kernel_rfl) (by kernel_rfl) (YF.pu (by rfl) (fun _ => run_eq_of ?run) (fun _ => by simp [go_sem, *])) ⟨H.sub (A := [_]) (List.Sublist.cons_cons _ (List.nil_sublist _)), hr⟩
        case run => intro K hK; go_simp; exact hK
        try walk_nrm
        refine AnyF.all (rs := [29]) (by kernel_rfl) (by simp) ?_
        intro i hi
        simp only [List.mem_cons, List.not_mem_nil, or_false] at hi
        subst hi
        co_applyP OpF.al rfl (by rfl) H (fun _ => run_eq_of ?run) (fun _ => by simp [go_sem, *])
        case run => intro K hK; go_simp; exact hK
        intro K y' w b2 hK1 hg1 H1
        replace hg := hg.trans hg1
        replace hr := hg1.role.trans hr
        have hq1 : y'.role.quiet = false := by rw [hr]; rfl
        replace hq := hq1
        replace H := H1
        replace hKs := Nat.le_trans hK1 hKs
        clear hg1 H1 hq1 hK1
        try walk_nrm
        refine ⟨⟨H.sub (A := [_]) (List.Sublist.cons _ (List.Sublist.cons_cons _ (List.nil_sublist _))), hr⟩, ?_⟩
        try walk_nrm
        refine AnyF.all (rs := [30]) (by kernel_rfl) (by simp) ?_
        intro i hi
        simp only [List.mem_cons, List.not_mem_nil, or_false] at hi
        subst hi
        co_applyP OpF.str 0 rfl (by rfl) rfl H hq rfl rfl rfl (by kernel_rfl) (by rfl) (by kernel_rfl)
        intro K w hK1 H1
        replace H := H1
        replace hKs := Nat.le_trans hK1 hKs
        clear hK1 H1
        simp only [List.set_cons_zero] at H
        refine ⟨⟨H.sub (A := [_]) (List.Sublist.cons _ (List.Sublist.cons_cons _ (List.nil_sublist _))), hr⟩, ?_⟩
        try walk_nrm
        co_applyP AnyF.take Sd.rely (i := 31) rfl (by kernel_rfl) (by kernel_rfl) (by kernel_rfl) (YF.pu (by rfl) (fun _ => run_eq_of ?run) (fun _ => by simp [go_sem, *])) ⟨H.sub (A := [_]) (List.Sublist.cons _ (List.Sublist.cons_cons _ (List.nil_sublist _))), hr⟩
        case run => intro K hK; go_simp; exact hK
        try walk_nrm
        co_apply AnyF.done (by kernel_rfl)
        intro K hK1 w hr1
        replace H := H.rely hr1
        replace hKs := Nat.le_trans hK1 hKs
        clear hr1 hK1
        simp only [thenF]
        co_apply WF.seqP
        co_apply WF.region
        try simp only [List.size_toArray, List.length_cons, List.length_nil, Nat.reduceAdd, Nat.zero_add, List.range, List.range.loop]
        co_applyP OF.pu rfl (by rfl) (fun _ => run_eq_of ?run) (fun _ => by simp [go_sem, *])
        case run => intro K hK; go_simp; exact hK
        try walk_nrm
        co_applyP OF.ldr 0 rfl (by rfl) rfl H hq rfl rfl Try.underlying38 rfl (by kernel_rfl)
        intro K w hK1 hr1 H1
        replace H := H1
        replace hKs := Nat.le_trans hK1 hKs
        clear hr1 hK1 H1
        try walk_nrm
        co_applyP OF.callJ rfl (by rfl) rfl
        · walk_nrm
          exact hpacked (u₁ + 1) (by omega) H hq
        rintro _ K y' w hK1 ⟨rfl, hg1, H1⟩
        replace hg := hg.trans hg1
        replace hr := hg1.role.trans hr
        have hq1 : y'.role.quiet = false := by rw [hr]; rfl
        replace hq := hq1
        replace H := H1
        replace hKs := Nat.le_trans hK1 hKs
        clear hg1 H1 hq1 hK1
        try walk_nrm
        co_applyP OF.pu rfl (by rfl) (fun _ => run_eq_of ?run) (fun _ => by simp [go_sem, *])
        case run => intro K hK; go_simp; exact hK
        try walk_nrm
        co_applyP OF.pu rfl (by rfl) (fun _ => run_eq_of ?run) (fun _ => by simp [go_sem, *])
        case run => intro K hK; go_simp; exact hK
        try walk_nrm
        co_applyP OF.st1 1 4 rfl (by rfl) rfl H hq rfl rfl rfl rfl rfl (by kernel_rfl)
        intro K w₁ w hK1 hr1 hu1 H1
        replace H := H1
        replace hKs := Nat.le_trans hK1 hKs
        clear hr1 hK1 hu1 H1
        simp only [List.set_cons_zero, List.set_cons_succ, List.setIfInBounds_toArray] at H
        try walk_nrm
        co_apply OF.nil
        simp only [thenF]
        co_apply WF.seqP
        co_apply WF.seqP
        have hne : ((wdv ((u₁ + 1 : Nat) : Int) true).num == (wdv ((u₁ : Nat) : Int) e₁).num) = false := by
          have : ¬ (wdv ((u₁ + 1 : Nat) : Int) true).num = (wdv ((u₁ : Nat) : Int) e₁).num := fun he => by have := (wdv_inj (by omega) (by omega) he).1; omega
          simpa using this
        have hne2 : ((wdv ((u₁ : Int) + 1) true).num == (wdv ((u₁ : Nat) : Int) e₁).num) = false := hne
        co_apply WF.drawnB B (nd + nv + ng) (Sd N _ _ _) (by simp only [List.size_toArray, List.length_cons, List.length_nil, Nat.reduceAdd, Nat.zero_add]; omega) (by kernel_rfl)
        intro K hK1 w₀ hr1
        replace H := (H.rely hr1).drew
        replace hKs := Nat.le_trans hK1 hKs
        clear hr1 hK1
        generalize ({ w₀ with drawn := w₀.drawn + 1 } : World) = w at H ⊢
        try simp only [List.size_toArray, List.length_cons, List.length_nil, Nat.reduceAdd, Nat.zero_add]
        co_applyP AnyF.take Sd.rely (i := 0) rfl (by kernel_rfl) (by kernel_rfl) (by kernel_rfl) (YF.pu (by rfl) (fun _ => run_eq_of ?run) (fun _ => by simp [go_sem, *])) ⟨H.sub (A := [_]) (List.Sublist.cons _ (List.Sublist.cons_cons _ (List.nil_sublist _))), hr⟩
        case run => intro K hK; go_simp; exact hK
        try walk_nrm
        co_applyP AnyF.take Sd.rely (i := 1) rfl (by kernel_rfl) (by kernel_rfl) (by kernel_rfl) (YF.pu (by rfl) (fun _ => run_eq_of ?run) (fun _ => by simp [go_sem, *])) ⟨H.sub (A := [_]) (List.Sublist.cons _ (List.Sublist.cons_cons _ (List.nil_sublist _))), hr⟩
        case run => intro K hK; go_simp; exact hK
        try walk_nrm
        co_applyP AnyF.take Sd.rely (i := 2) rfl (by kernel_rfl) (by kernel_rfl) (by kernel_rfl) (YF.pu (by rfl) (fun _ => run_eq_of ?run) (fun _ => by simp [go_sem, *])) ⟨H.sub (A := [_]) (List.Sublist.cons _ (List.Sublist.cons_cons _ (List.nil_sublist _))), hr⟩
        case run => intro K hK; go_simp; exact hK
        try walk_nrm
        co_applyP AnyF.take Sd.rely (i := 3) rfl (by kernel_rfl) (by kernel_rfl) (by kernel_rfl) (YF.ld1 0 4 (by rfl) rfl (by rfl) rfl rfl rfl Try.underlying102 rfl) ⟨H.sub (A := [_]) (List.Sublist.cons _ (List.Sublist.cons_cons _ (List.nil_sublist _))), hr⟩
        try walk_nrm
        co_applyP AnyF.take Sd.rely (i := 4) rfl (by kernel_rfl) (by kernel_rfl) (by kernel_rfl) (YF.pu (by rfl) (fun _ => run_eq_of ?run) (fun _ => by simp [go_sem, *])) ⟨H.sub (A := [_]) (List.Sublist.cons _ (List.Sublist.cons_cons _ (List.nil_sublist _))), hr⟩
        case run => intro K hK; go_simp; exact hK
        try walk_nrm
        co_applyP AnyF.take Sd.rely (i := 5) rfl (by kernel_rfl) (by kernel_rfl) (by kernel_rfl) (YF.pu (by rfl) (fun _ => run_eq_of ?run) (fun _ => by simp [go_sem, *])) ⟨H.sub (A := [_]) (List.Sublist.cons _ (List.Sublist.cons_cons _ (List.nil_sublist _))), hr⟩
        case run => intro K hK; go_simp; exact hK
        try walk_nrm
        co_applyP AnyF.take Sd.rely (i := 6) rfl (by kernel_rfl) (by kernel_rfl) (by kernel_rfl) (YF.pu (by rfl) (fun _ => run_eq_of ?run) (fun _ => by simp [go_sem, *])) ⟨H.sub (A := [_]) (List.Sublist.cons _ (List.Sublist.cons_cons _ (List.nil_sublist _))), hr⟩
        case run => intro K hK; go_simp; exact hK
        try walk_nrm
        co_applyP AnyF.take Sd.rely (i := 7) rfl (by kernel_rfl) (by kernel_rfl) (by kernel_rfl) (YF.ld1 0 3 (by rfl) rfl (by rfl) rfl rfl rfl Try.underlying102 rfl) ⟨H.sub (A := [_]) (List.Sublist.cons _ (List.Sublist.cons_cons _ (List.nil_sublist _))), hr⟩
        try walk_nrm
        co_applyP AnyF.take Sd.rely (i := 8) rfl (by kernel_rfl) (by kernel_rfl) (by kernel_rfl) (YF.pu (by rfl) (fun _ => run_eq_of ?run) (fun _ => by simp [go_sem, *])) ⟨H.sub (A := [_]) (List.Sublist.cons _ (List.Sublist.cons_cons _ (List.nil_sublist _))), hr⟩
        case run => intro K hK; go_simp; exact hK
        try walk_nrm
        co_apply AnyF.done (by kernel_rfl)
        intro K hK1 w hr1
        replace H := H.rely hr1
        replace hKs := Nat.le_trans hK1 hKs
        clear hr1 hK1
        simp only [thenF]
        co_apply WF.cond (t := false) rfl
        simp only [Bool.false_eq_true, ↓reduceIte]
        co_apply WF.skip
        simp only [thenF]
        co_apply WF.region
        try simp only [List.size_toArray, List.length_cons, List.length_nil, Nat.reduceAdd, Nat.zero_add, List.range, List.range.loop]
        co_applyP OF.pu rfl (by rfl) (fun _ => run_eq_of ?run) (fun _ => by simp [go_sem, *])
        case run => intro K hK; go_simp; exact hK
        try walk_nrm
        co_applyP OF.pu rfl (by rfl) (fun _ => run_eq_of ?run) (fun _ => by simp [go_sem, *])
        case run => intro K hK; go_simp; exact hK
        try walk_nrm
        co_applyP OF.pu rfl (by rfl) (fun _ => run_eq_of ?run) (fun _ => by simp [go_sem, *])
        case run => intro K hK; go_simp; exact hK
        try walk_nrm
        co_applyP OF.st1 1 5 rfl (by rfl) rfl H hq rfl rfl rfl rfl rfl (by kernel_rfl)
        intro K w₁ w hK1 hr1 hu1 H1
        replace H := H1
        replace hKs := Nat.le_trans hK1 hKs
        clear hr1 hK1 hu1 H1
        simp only [List.set_cons_zero, List.set_cons_succ, List.setIfInBounds_toArray] at H
        try walk_nrm
        co_apply OF.nil
        exact retG_of rfl (resultsC_none (by rfl) _) (fun K₂ hK₂ w₂ r₂ => ⟨K₁, u₁, e₁, by omega, hu, rfl, hg, (H.rely r₂).tail⟩)
      · skip
        co_applyP OpF.al rfl (by rfl) H (fun _ => run_eq_of ?run) (fun _ => by simp [go_sem, *])
        case run => intro K hK; go_simp; exact hK
        intro K y' w b2 hK1 hg1 H1
        replace hg := hg.trans hg1
        replace hr := hg1.role.trans hr
        have hq1 : y'.role.quiet = false := by rw [hr]; rfl
        replace hq := hq1
        replace H := H1
        replace hKs := Nat.le_trans hK1 hKs
        clear hg1 H1 hq1 hK1
        try walk_nrm
        refine ⟨⟨H.sub (A := [_]) (List.Sublist.cons _ (List.Sublist.cons_cons _ (List.nil_sublist _))), hr⟩, ?_⟩
        try walk_nrm
        refine AnyF.all (rs := [25]) (by kernel_rfl) (by simp) ?_
        intro i hi
        simp only [List.mem_cons, List.not_mem_nil, or_false] at hi
        subst hi
        co_applyP OpF.cV rfl (by rfl) rfl rfl Try.func79 (by kernel_rfl) (by kernel_rfl) H
        intro K₀ w₁ hK0 H0
        co_apply Exists.intro
        co_apply And.intro
        · walk_nrm
          exact (hdeed _ u₁ e₁ (by omega) H0 hq).more (by omega)
        rintro _ K y' w hK2 ⟨rfl, hg1, H1⟩
        have hK1 := Nat.le_trans hK2 hK0
        clear hK2 hK0 H0
        replace hg := hg.trans hg1
        replace hr := hg1.role.trans hr
        have hq1 : y'.role.quiet = false := by rw [hr]; rfl
        replace hq := hq1
        replace H := H1
        replace hKs := Nat.le_trans hK1 hKs
        clear hg1 H1 hq1 hK1
        try walk_nrm
        refine ⟨⟨H.sub (A := [_]) (List.Sublist.cons _ (List.Sublist.cons_cons _ (List.nil_sublist _))), hr⟩, ?_⟩
        try walk_nrm
        co_applyP AnyF.take Sd.rely (i := 26) rfl (by kernel_rfl) (by kernel_rfl) (by kernel_rfl) (YF.pu (by rfl) (fun _ => run_eq_of ?run) (fun _ => by simp [go_sem, *])) ⟨H.sub (A := [_]) (List.Sublist.cons _ (List.Sublist.cons_cons _ (List.nil_sublist _))), hr⟩
        case run => intro K hK; go_simp; exact hK
        try walk_nrm
        co_applyP AnyF.take Sd.rely (i := 27) rfl (by kernel_rfl) (by kernel_rfl) (by kernel_rfl) (YF.pu (by rfl) (fun _ => run_eq_of ?run) (fun _ => by simp [go_sem, *])) ⟨H.sub (A := [_]) (List.Sublist.cons _ (List.Sublist.cons_cons _ (List.nil_sublist _))), hr⟩
        case run => intro K hK; go_simp; exact hK
        try walk_nrm
        co_applyP AnyF.take Sd.rely (i := 28) rfl (by kernel_rfl) (by kernel_rfl) (by kernel_rfl) (YF.pu (by rfl) (fun _ => run_eq_of ?run) (fun _ => by simp [go_sem, *])) ⟨H.sub (A := [_]) (List.Sublist.cons _ (List.Sublist.cons_cons _ (List.nil_sublist _))), hr⟩
        case run => intro K hK; go_simp; exact hK
        try walk_nrm
        refine AnyF.all (rs := [30]) (by kernel_rfl) (by simp) ?_
        intro i hi
        simp only [List.mem_cons, List.not_mem_nil, or_false] at hi
        subst hi
        co_applyP OpF.str 0 rfl (by rfl) rfl H hq rfl rfl rfl (by kernel_rfl) (by rfl) (by kernel_rfl)
        intro K w hK1 H1
        replace H := H1
        replace hKs := Nat.le_trans hK1 hKs
        clear hK1 H1
        simp only [List.set_cons_zero] at H
        refine ⟨⟨H.sub (A := [_]) (List.Sublist.cons _ (List.Sublist.cons_cons _ (List.nil_sublist _))), hr⟩, ?_⟩
        try walk_nrm
        co_applyP AnyF.take Sd.rely (i := 31) rfl (by kernel_rfl) (by kernel_rfl) (by kernel_rfl) (YF.pu (by rfl) (fun _ => run_eq_of ?run) (fun _ => by simp [go_sem, *])) ⟨H.sub (A := [_]) (List.Sublist.cons _ (List.Sublist.cons_cons _ (List.nil_sublist _))), hr⟩
        case run => intro K hK; go_simp; exact hK
        try walk_nrm
        co_apply AnyF.done (by kernel_rfl)
        intro K hK1 w hr1
        replace H := H.rely hr1
        replace hKs := Nat.le_trans hK1 hKs
        clear hr1 hK1
        simp only [thenF]
        co_apply WF.seqP
        co_apply WF.region
        try simp only [List.size_toArray, List.length_cons, List.length_nil, Nat.reduceAdd, Nat.zero_add, List.range, List.range.loop]
        co_applyP OF.pu rfl (by rfl) (fun _ => run_eq_of ?run) (fun _ => by simp [go_sem, *])
        case run => intro K hK; go_simp; exact hK
        try walk_nrm
        co_applyP OF.ldr 0 rfl (by rfl) rfl H hq rfl rfl Try.underlying38 rfl (by kernel_rfl)
        intro K w hK1 hr1 H1
        replace H := H1
        replace hKs := Nat.le_trans hK1 hKs
        clear hr1 hK1 H1
        try walk_nrm
        co_applyP OF.callJ rfl (by rfl) rfl
        · walk_nrm
          exact hpacked (u₁ + 1) (by omega) H hq
        rintro _ K y' w hK1 ⟨rfl, hg1, H1⟩
        replace hg := hg.trans hg1
        replace hr := hg1.role.trans hr
        have hq1 : y'.role.quiet = false := by rw [hr]; rfl
        replace hq := hq1
        replace H := H1
        replace hKs := Nat.le_trans hK1 hKs
        clear hg1 H1 hq1 hK1
        try walk_nrm
        co_applyP OF.pu rfl (by rfl) (fun _ => run_eq_of ?run) (fun _ => by simp [go_sem, *])
        case run => intro K hK; go_simp; exact hK
        try walk_nrm
        co_applyP OF.pu rfl (by rfl) (fun _ => run_eq_of ?run) (fun _ => by simp [go_sem, *])
        case run => intro K hK; go_simp; exact hK
        try walk_nrm
        co_applyP OF.st1 1 4 rfl (by rfl) rfl H hq rfl rfl rfl rfl rfl (by kernel_rfl)
        intro K w₁ w hK1 hr1 hu1 H1
        replace H := H1
        replace hKs := Nat.le_trans hK1 hKs
        clear hr1 hK1 hu1 H1
        simp only [List.set_cons_zero, List.set_cons_succ, List.setIfInBounds_toArray] at H
        try walk_nrm
        co_apply OF.nil
        simp only [thenF]
        co_apply WF.seqP
        co_apply WF.seqP
        have hne : ((wdv ((u₁ + 1 : Nat) : Int) true).num == (wdv ((u₁ : Nat) : Int) e₁).num) = false := by
          have : ¬ (wdv ((u₁ + 1 : Nat) : Int) true).num = (wdv ((u₁ : Nat) : Int) e₁).num := fun he => by have := (wdv_inj (by omega) (by omega) he).1; omega
          simpa using this
        have hne2 : ((wdv ((u₁ : Int) + 1) true).num == (wdv ((u₁ : Nat) : Int) e₁).num) = false := hne
        co_apply WF.drawnB B (nd + nv + ng) (Sd N _ _ _) (by simp only [List.size_toArray, List.length_cons, List.length_nil, Nat.reduceAdd, Nat.zero_add]; omega) (by kernel_rfl)
        intro K hK1 w₀ hr1
        replace H := (H.rely hr1).drew
        replace hKs := Nat.le_trans hK1 hKs
        clear hr1 hK1
        generalize ({ w₀ with drawn := w₀.drawn + 1 } : World) = w at H ⊢
        try simp only [List.size_toArray, List.length_cons, List.length_nil, Nat.reduceAdd, Nat.zero_add]
        co_applyP AnyF.take Sd.rely (i := 0) rfl (by kernel_rfl) (by kernel_rfl) (by kernel_rfl) (YF.pu (by rfl) (fun _ => run_eq_of ?run) (fun _ => by simp [go_sem, *])) ⟨H.sub (A := [_]) (List.Sublist.cons _ (List.Sublist.cons_cons _ (List.nil_sublist _))), hr⟩
        case run => intro K hK; go_simp; exact hK
        try walk_nrm
        co_applyP AnyF.take Sd.rely (i := 1) rfl (by kernel_rfl) (by kernel_rfl) (by kernel_rfl) (YF.pu (by rfl) (fun _ => run_eq_of ?run) (fun _ => by simp [go_sem, *])) ⟨H.sub (A := [_]) (List.Sublist.cons _ (List.Sublist.cons_cons _ (List.nil_sublist _))), hr⟩
        case run => intro K hK; go_simp; exact hK
        try walk_nrm
        co_applyP AnyF.take Sd.rely (i := 2) rfl (by kernel_rfl) (by kernel_rfl) (by kernel_rfl) (YF.pu (by rfl) (fun _ => run_eq_of ?run) (fun _ => by simp [go_sem, *])) ⟨H.sub (A := [_]) (List.Sublist.cons _ (List.Sublist.cons_cons _ (List.nil_sublist _))), hr⟩
        case run => intro K hK; go_simp; exact hK
        try walk_nrm
        co_applyP AnyF.take Sd.rely (i := 3) rfl (by kernel_rfl) (by kernel_rfl) (by kernel_rfl) (YF.ld1 0 4 (by rfl) rfl (by rfl) rfl rfl rfl Try.underlying102 rfl) ⟨H.sub (A := [_]) (List.Sublist.cons _ (List.Sublist.cons_cons _ (List.nil_sublist _))), hr⟩
        try walk_nrm
        co_applyP AnyF.take Sd.rely (i := 4) rfl (by kernel_rfl) (by kernel_rfl) (by kernel_rfl) (YF.pu (by rfl) (fun _ => run_eq_of ?run) (fun _ => by simp [go_sem, *])) ⟨H.sub (A := [_]) (List.Sublist.cons _ (List.Sublist.cons_cons _ (List.nil_sublist _))), hr⟩
        case run => intro K hK; go_simp; exact hK
        try walk_nrm
        co_applyP AnyF.take Sd.rely (i := 5) rfl (by kernel_rfl) (by kernel_rfl) (by kernel_rfl) (YF.pu (by rfl) (fun _ => run_eq_of ?run) (fun _ => by simp [go_sem, *])) ⟨H.sub (A := [_]) (List.Sublist.cons _ (List.Sublist.cons_cons _ (List.nil_sublist _))), hr⟩
        case run => intro K hK; go_simp; exact hK
        try walk_nrm
        co_applyP AnyF.take Sd.rely (i := 6) rfl (by kernel_rfl) (by kernel_rfl) (by kernel_rfl) (YF.pu (by rfl) (fun _ => run_eq_of ?run) (fun _ => by simp [go_sem, *])) ⟨H.sub (A := [_]) (List.Sublist.cons _ (List.Sublist.cons_cons _ (List.nil_sublist _))), hr⟩
        case run => intro K hK; go_simp; exact hK
        try walk_nrm
        co_applyP AnyF.take Sd.rely (i := 7) rfl (by kernel_rfl) (by kernel_rfl) (by kernel_rfl) (YF.ld1 0 3 (by rfl) rfl (by rfl) rfl rfl rfl Try.underlying102 rfl) ⟨H.sub (A := [_]) (List.Sublist.cons _ (List.Sublist.cons_cons _ (List.nil_sublist _))), hr⟩
        try walk_nrm
        co_applyP AnyF.take Sd.rely (i := 8) rfl (by kernel_rfl) (by kernel_rfl) (by kernel_rfl) (YF.pu (by rfl) (fun _ => run_eq_of ?run) (fun _ => by simp [go_sem, *])) ⟨H.sub (A := [_]) (List.Sublist.cons _ (List.Sublist.cons_cons _ (List.nil_sublist _))), hr⟩
        case run => intro K hK; go_simp; exact hK
        try walk_nrm
        co_apply AnyF.done (by kernel_rfl)
        intro K hK1 w hr1
        replace H := H.rely hr1
        replace hKs := Nat.le_trans hK1 hKs
        clear hr1 hK1
        simp only [thenF]
        co_apply WF.cond (t := false) rfl
        simp only [Bool.false_eq_true, ↓reduceIte]
        co_apply WF.skip
        simp only [thenF]
        co_apply WF.region
        try simp only [List.size_toArray, List.length_cons, List.length_nil, Nat.reduceAdd, Nat.zero_add, List.range, List.range.loop]
        co_applyP OF.pu rfl (by rfl) (fun _ => run_eq_of ?run) (fun _ => by simp [go_sem, *])
        case run => intro K hK; go_simp; exact hK
        try walk_nrm
        co_applyP OF.pu rfl (by rfl) (fun _ => run_eq_of ?run) (fun _ => by simp [go_sem, *])
        case run => intro K hK; go_simp; exact hK
        try walk_nrm
        co_applyP OF.pu rfl (by rfl) (fun _ => run_eq_of ?run) (fun _ => by simp [go_sem, *])
        case run => intro K hK; go_simp; exact hK
        try walk_nrm
        co_applyP OF.st1 1 5 rfl (by rfl) rfl H hq rfl rfl rfl rfl rfl (by kernel_rfl)
        intro K w₁ w hK1 hr1 hu1 H1
        replace H := H1
        replace hKs := Nat.le_trans hK1 hKs
        clear hr1 hK1 hu1 H1
        simp only [List.set_cons_zero, List.set_cons_succ, List.setIfInBounds_toArray] at H
        try walk_nrm
        co_apply OF.nil
        exact retG_of rfl (resultsC_none (by rfl) _) (fun K₂ hK₂ w₂ r₂ => ⟨K₁, u₁, e₁, by omega, hu, rfl, hg, (H.rely r₂).tail⟩)
    · skip
      co_applyP OpF.al rfl (by rfl) H (fun _ => run_eq_of ?run) (fun _ => by simp [go_sem, *])
      case run => intro K hK; go_simp; exact hK
      intro K y' w b2 hK1 hg1 H1
      replace hg := hg.trans hg1
      replace hr := hg1.role.trans hr
      have hq1 : y'.role.quiet = false := by rw [hr]; rfl
      replace hq := hq1
      replace H := H1
      replace hKs := Nat.le_trans hK1 hKs
      clear hg1 H1 hq1 hK1
      try walk_nrm
      refine ⟨⟨H.sub (A := [_]) (List.Sublist.cons _ (List.Sublist.cons_cons _ (List.nil_sublist _))), hr⟩, ?_⟩
      try walk_nrm
      refine AnyF.all (rs := [24]) (by kernel_rfl) (by simp) ?_
      intro i hi
      simp only [List.mem_cons, List.not_mem_nil, or_false] at hi
      subst hi
      co_applyP OpF.cJ rfl (by rfl) rfl Try.func44 (by kernel_rfl) (by kernel_rfl) H
      intro K₀ w₁ hK0 H0
      co_apply Exists.intro
      co_apply And.intro
      · walk_nrm
        exact (hview u₁ e₁ (by omega) H0 hq).more (by omega)
      rintro _ K y' w hK2 ⟨rfl, hg1, H1⟩
      have hK1 := Nat.le_trans hK2 hK0
      clear hK2 hK0 H0
      replace hg := hg.trans hg1
      replace hr := hg1.role.trans hr
      have hq1 : y'.role.quiet = false := by rw [hr]; rfl
      replace hq := hq1
      replace H := H1
      replace hKs := Nat.le_trans hK1 hKs
      clear hg1 H1 hq1 hK1
      try walk_nrm
      refine ⟨⟨H.sub (A := [_]) (List.Sublist.cons _ (List.Sublist.cons_cons _ (List.nil_sublist _))), hr⟩, ?_⟩
      try walk_nrm
      refine AnyF.all (rs := [25]) (by kernel_rfl) (by simp) ?_
      intro i hi
      simp only [List.mem_cons, List.not_mem_nil, or_false] at hi
      subst hi
      co_applyP OpF.cV rfl (by rfl) rfl rfl Try.func79 (by kernel_rfl) (by kernel_rfl) H
      intro K₀ w₁ hK0 H0
      co_apply Exists.intro
      co_apply And.intro
      · walk_nrm
        exact (hdeed _ u₁ e₁ (by omega) H0 hq).more (by omega)
      rintro _ K y' w hK2 ⟨rfl, hg1, H1⟩
      have hK1 := Nat.le_trans hK2 hK0
      clear hK2 hK0 H0
      replace hg := hg.trans hg1
      replace hr := hg1.role.trans hr
      have hq1 : y'.role.quiet = false := by rw [hr]; rfl
      replace hq := hq1
      replace H := H1
      replace hKs := Nat.le_trans hK1 hKs
      clear hg1 H1 hq1 hK1
      try walk_nrm
      refine ⟨⟨H.sub (A := [_]) (List.Sublist.cons _ (List.Sublist.cons_cons _ (List.nil_sublist _))), hr⟩, ?_⟩
      try walk_nrm
      co_applyP AnyF.take Sd.rely (i := 26) rfl (by kernel_rfl) (by kernel_rfl) (by kernel_rfl) (YF.pu (by rfl) (fun _ => run_eq_of ?run) (fun _ => by simp [go_sem, *])) ⟨H.sub (A := [_]) (List.Sublist.cons _ (List.Sublist.cons_cons _ (List.nil_sublist _))), hr⟩
      case run => intro K hK; go_simp; exact hK
      try walk_nrm
      co_applyP AnyF.take Sd.rely (i := 27) rfl (by kernel_rfl) (by kernel_rfl) (by kernel_rfl) (YF.pu (by rfl) (fun _ => run_eq_of ?run) (fun _ => by simp [go_sem, *])) ⟨H.sub (A := [_]) (List.Sublist.cons _ (List.Sublist.cons_cons _ (List.nil_sublist _))), hr⟩
      case run => intro K hK; go_simp; exact hK
      try walk_nrm
      co_applyP AnyF.take Sd.rely (i := 28) rfl (by kernel_rfl) (by kernel_rfl) (by kernel_rfl) (YF.pu (by rfl) (fun _ => run_eq_of ?run) (fun _ => by simp [go_sem, *])) ⟨H.sub (A := [_]) (List.Sublist.cons _ (List.Sublist.cons_cons _ (List.nil_sublist _))), hr⟩
      case run => intro K hK; go_simp; exact hK
      try walk_nrm
      refine AnyF.all (rs := [30]) (by kernel_rfl) (by simp) ?_
      intro i hi
      simp only [List.mem_cons, List.not_mem_nil, or_false] at hi
      subst hi
      co_applyP OpF.str 0 rfl (by rfl) rfl H hq rfl rfl rfl (by kernel_rfl) (by rfl) (by kernel_rfl)
      intro K w hK1 H1
      replace H := H1
      replace hKs := Nat.le_trans hK1 hKs
      clear hK1 H1
      simp only [List.set_cons_zero] at H
      refine ⟨⟨H.sub (A := [_]) (List.Sublist.cons _ (List.Sublist.cons_cons _ (List.nil_sublist _))), hr⟩, ?_⟩
      try walk_nrm
      co_applyP AnyF.take Sd.rely (i := 31) rfl (by kernel_rfl) (by kernel_rfl) (by kernel_rfl) (YF.pu (by rfl) (fun _ => run_eq_of ?run) (fun _ => by simp [go_sem, *])) ⟨H.sub (A := [_]) (List.Sublist.cons _ (List.Sublist.cons_cons _ (List.nil_sublist _))), hr⟩
      case run => intro K hK; go_simp; exact hK
      try walk_nrm
      co_apply AnyF.done (by kernel_rfl)
      intro K hK1 w hr1
      replace H := H.rely hr1
      replace hKs := Nat.le_trans hK1 hKs
      clear hr1 hK1
      simp only [thenF]
      co_apply WF.seqP
      co_apply WF.region
      try simp only [List.size_toArray, List.length_cons, List.length_nil, Nat.reduceAdd, Nat.zero_add, List.range, List.range.loop]
      co_applyP OF.pu rfl (by rfl) (fun _ => run_eq_of ?run) (fun _ => by simp [go_sem, *])
      case run => intro K hK; go_simp; exact hK
      try walk_nrm
      co_applyP OF.ldr 0 rfl (by rfl) rfl H hq rfl rfl Try.underlying38 rfl (by kernel_rfl)
      intro K w hK1 hr1 H1
      replace H := H1
      replace hKs := Nat.le_trans hK1 hKs
      clear hr1 hK1 H1
      try walk_nrm
      co_applyP OF.callJ rfl (by rfl) rfl
      · walk_nrm
        exact hpacked (u₁ + 1) (by omega) H hq
      rintro _ K y' w hK1 ⟨rfl, hg1, H1⟩
      replace hg := hg.trans hg1
      replace hr := hg1.role.trans hr
      have hq1 : y'.role.quiet = false := by rw [hr]; rfl
      replace hq := hq1
      replace H := H1
      replace hKs := Nat.le_trans hK1 hKs
      clear hg1 H1 hq1 hK1
      try walk_nrm
      co_applyP OF.pu rfl (by rfl) (fun _ => run_eq_of ?run) (fun _ => by simp [go_sem, *])
      case run => intro K hK; go_simp; exact hK
      try walk_nrm
      co_applyP OF.pu rfl (by rfl) (fun _ => run_eq_of ?run) (fun _ => by simp [go_sem, *])
      case run => intro K hK; go_simp; exact hK
      try walk_nrm
      co_applyP OF.st1 1 4 rfl (by rfl) rfl H hq rfl rfl rfl rfl rfl (by kernel_rfl)
      intro K w₁ w hK1 hr1 hu1 H1
      replace H := H1
      replace hKs := Nat.le_trans hK1 hKs
      clear hr1 hK1 hu1 H1
      simp only [List.set_cons_zero, List.set_cons_succ, List.setIfInBounds_toArray] at H
      try walk_nrm
      co_apply OF.nil
      simp only [thenF]
      co_apply WF.seqP
      co_apply WF.seqP
      have hne : ((wdv ((u₁ + 1 : Nat) : Int) true).num == (wdv ((u₁ : Nat) : Int) e₁).num) = false := by
        have : ¬ (wdv ((u₁ + 1 : Nat) : Int) true).num = (wdv ((u₁ : Nat) : Int) e₁).num := fun he => by have := (wdv_inj (by omega) (by omega) he).1; omega
        simpa using this
      have hne2 : ((wdv ((u₁ : Int) + 1) true).num == (wdv ((u₁ : Nat) : Int) e₁).num) = false := hne
      co_apply WF.drawnB B (nd + nv + ng) (Sd N _ _ _) (by simp only [List.size_toArray, List.length_cons, List.length_nil, Nat.reduceAdd, Nat.zero_add]; omega) (by kernel_rfl)
      intro K hK1 w₀ hr1
      replace H := (H.rely hr1).drew
      replace hKs := Nat.le_trans hK1 hKs
      clear hr1 hK1
      generalize ({ w₀ with drawn := w₀.drawn + 1 } : World) = w at H ⊢
      try simp only [List.size_toArray, List.length_cons, List.length_nil, Nat.reduceAdd, Nat.zero_add]
      co_applyP AnyF.take Sd.rely (i := 0) rfl (by kernel_rfl) (by kernel_rfl) (by kernel_rfl) (YF.pu (by rfl) (fun _ => run_eq_of ?run) (fun _ => by simp [go_sem, *])) ⟨H.sub (A := [_]) (List.Sublist.cons _ (List.Sublist.cons_cons _ (List.nil_sublist _))), hr⟩
      case run => intro K hK; go_simp; exact hK
      try walk_nrm
      co_applyP AnyF.take Sd.rely (i := 1) rfl (by kernel_rfl) (by kernel_rfl) (by kernel_rfl) (YF.pu (by rfl) (fun _ => run_eq_of ?run) (fun _ => by simp [go_sem, *])) ⟨H.sub (A := [_]) (List.Sublist.cons _ (List.Sublist.cons_cons _ (List.nil_sublist _))), hr⟩
      case run => intro K hK; go_simp; exact hK
      try walk_nrm
      co_applyP AnyF.take Sd.rely (i := 2) rfl (by kernel_rfl) (by kernel_rfl) (by kernel_rfl) (YF.pu (by rfl) (fun _ => run_eq_of ?run) (fun _ => by simp [go_sem, *])) ⟨H.sub (A := [_]) (List.Sublist.cons _ (List.Sublist.cons_cons _ (List.nil_sublist _))), hr⟩
      case run => intro K hK; go_simp; exact hK
      try walk_nrm
      co_applyP AnyF.take Sd.rely (i := 3) rfl (by kernel_rfl) (by kernel_rfl) (by kernel_rfl) (YF.ld1 0 4 (by rfl) rfl (by rfl) rfl rfl rfl Try.underlying102 rfl) ⟨H.sub (A := [_]) (List.Sublist.cons _ (List.Sublist.cons_cons _ (List.nil_sublist _))), hr⟩
      try walk_nrm
      co_applyP AnyF.take Sd.rely (i := 4) rfl (by kernel_rfl) (by kernel_rfl) (by kernel_rfl) (YF.pu (by rfl) (fun _ => run_eq_of ?run) (fun _ => by simp [go_sem, *])) ⟨H.sub (A := [_]) (List.Sublist.cons _ (List.Sublist.cons_cons _ (List.nil_sublist _))), hr⟩
      case run => intro K hK; go_simp; exact hK
      try walk_nrm
      co_applyP AnyF.take Sd.rely (i := 5) rfl (by kernel_rfl) (by kernel_rfl) (by kernel_rfl) (YF.pu (by rfl) (fun _ => run_eq_of ?run) (fun _ => by simp [go_sem, *])) ⟨H.sub (A := [_]) (List.Sublist.cons _ (List.Sublist.cons_cons _ (List.nil_sublist _))), hr⟩
      case run => intro K hK; go_simp; exact hK
      try walk_nrm
      co_applyP AnyF.take Sd.rely (i := 6) rfl (by kernel_rfl) (by kernel_rfl) (by kernel_rfl) (YF.pu (by rfl) (fun _ => run_eq_of ?run) (fun _ => by simp [go_sem, *])) ⟨H.sub (A := [_]) (List.Sublist.cons _ (List.Sublist.cons_cons _ (List.nil_sublist _))), hr⟩
      case run => intro K hK; go_simp; exact hK
      try walk_nrm
      co_applyP AnyF.take Sd.rely (i := 7) rfl (by kernel_rfl) (by kernel_rfl) (by kernel_rfl) (YF.ld1 0 3 (by rfl) rfl (by rfl) rfl rfl rfl Try.underlying102 rfl) ⟨H.sub (A := [_]) (List.Sublist.cons _ (List.Sublist.cons_cons _ (List.nil_sublist _))), hr⟩
      try walk_nrm
      co_applyP AnyF.take Sd.rely (i := 8) rfl (by kernel_rfl) (by kernel_rfl) (by kernel_rfl) (YF.pu (by rfl) (fun _ => run_eq_of ?run) (fun _ => by simp [go_sem, *])) ⟨H.sub (A := [_]) (List.Sublist.cons _ (List.Sublist.cons_cons _ (List.nil_sublist _))), hr⟩
      case run => intro K hK; go_simp; exact hK
      try walk_nrm
      co_apply AnyF.done (by kernel_rfl)
      intro K hK1 w hr1
      replace H := H.rely hr1
      replace hKs := Nat.le_trans hK1 hKs
      clear hr1 hK1
      simp only [thenF]
      co_apply WF.cond (t := false) rfl
      simp only [Bool.false_eq_true, ↓reduceIte]
      co_apply WF.skip
      simp only [thenF]
      co_apply WF.region
      try simp only [List.size_toArray, List.length_cons, List.length_nil, Nat.reduceAdd, Nat.zero_add, List.range, List.range.loop]
      co_applyP OF.pu rfl (by rfl) (fun _ => run_eq_of ?run) (fun _ => by simp [go_sem, *])
      case run => intro K hK; go_simp; exact hK
      try walk_nrm
      co_applyP OF.pu rfl (by rfl) (fun _ => run_eq_of ?run) (fun _ => by simp [go_sem, *])
      case run => intro K hK; go_simp; exact hK
      try walk_nrm
      co_applyP OF.pu rfl (by rfl) (fun _ => run_eq_of ?run) (fun _ => by simp [go_sem, *])
      case run => intro K hK; go_simp; exact hK
      try walk_nrm
      co_applyP OF.st1 1 5 rfl (by rfl) rfl H hq rfl rfl rfl rfl rfl (by kernel_rfl)
      intro K w₁ w hK1 hr1 hu1 H1
      replace H := H1
      replace hKs := Nat.le_trans hK1 hKs
      clear hr1 hK1 hu1 H1
      simp only [List.set_cons_zero, List.set_cons_succ, List.setIfInBounds_toArray] at H
      try walk_nrm
      co_apply OF.nil
      exact retG_of rfl (resultsC_none (by rfl) _) (fun K₂ hK₂ w₂ r₂ => ⟨K₁, u₁, e₁, by omega, hu, rfl, hg, (H.rely r₂).tail⟩)
  · skip
    co_applyP OpF.al rfl (by rfl) H (fun _ => run_eq_of ?run) (fun _ => by simp [go_sem, *])
    case run => intro K hK; go_simp; exact hK
    intro K y' w b2 hK1 hg1 H1
    replace hg := hg.trans hg1
    replace hr := hg1.role.trans hr
    have hq1 : y'.role.quiet = false := by rw [hr]; rfl
    replace hq := hq1
    replace H := H1
    replace hKs := Nat.le_trans hK1 hKs
    clear hg1 H1 hq1 hK1
    try walk_nrm
    refine ⟨⟨H.sub (A := [_]) (List.Sublist.cons _ (List.Sublist.cons_cons _ (List.nil_sublist _))), hr⟩, ?_⟩
    try walk_nrm
    refine AnyF.all (rs := [0]) (by kernel_rfl) (by simp) ?_
    intro i hi
    simp only [List.mem_cons, List.not_mem_nil, or_false] at hi
    subst hi
    co_applyP OpF.cJ rfl (by rfl) rfl Try.func60 (by kernel_rfl) (by kernel_rfl) H
    intro K₀ w₁ hK0 H0
    co_apply Exists.intro
    co_apply And.intro
    · walk_nrm
      exact (hdeeds H0 hq).more (by omega)
    rintro _ K y' w hK2 ⟨rfl, hg1, H1⟩
    have hK1 := Nat.le_trans hK2 hK0
    clear hK2 hK0 H0
    replace hg := hg.trans hg1
    replace hr := hg1.role.trans hr
    have hq1 : y'.role.quiet = false := by rw [hr]; rfl
    replace hq := hq1
    replace H := H1
    replace hKs := Nat.le_trans hK1 hKs
    clear hg1 H1 hq1 hK1
    try walk_nrm
    refine ⟨⟨H.sub (A := [_]) (List.Sublist.cons _ (List.Sublist.cons_cons _ (List.nil_sublist _))), hr⟩, ?_⟩
    try walk_nrm
    co_applyP AnyF.take Sd.rely (i := 6) rfl (by kernel_rfl) (by kernel_rfl) (by kernel_rfl) (YF.pu (v := .agg #[.func (.func 79) #[] #[]]) (by rfl) (fun _ => by kernel_rfl) (fun _ => by kernel_rfl)) ⟨H.sub (A := [_]) (List.Sublist.cons _ (List.Sublist.cons_cons _ (List.nil_sublist _))), hr⟩
    try walk_nrm
    co_applyP AnyF.take Sd.rely (i := 7) rfl (by kernel_rfl) (by kernel_rfl) (by kernel_rfl) (YF.pu (v := .func (.func 79) #[] #[]) (by rfl) (fun _ => by kernel_rfl) (fun _ => by kernel_rfl)) ⟨H.sub (A := [_]) (List.Sublist.cons _ (List.Sublist.cons_cons _ (List.nil_sublist _))), hr⟩
    try walk_nrm
    refine AnyF.all (rs := [24]) (by kernel_rfl) (by simp) ?_
    intro i hi
    simp only [List.mem_cons, List.not_mem_nil, or_false] at hi
    subst hi
    co_applyP OpF.cJ rfl (by rfl) rfl Try.func44 (by kernel_rfl) (by kernel_rfl) H
    intro K₀ w₁ hK0 H0
    co_apply Exists.intro
    co_apply And.intro
    · walk_nrm
      exact (hview u₁ e₁ (by omega) H0 hq).more (by omega)
    rintro _ K y' w hK2 ⟨rfl, hg1, H1⟩
    have hK1 := Nat.le_trans hK2 hK0
    clear hK2 hK0 H0
    replace hg := hg.trans hg1
    replace hr := hg1.role.trans hr
    have hq1 : y'.role.quiet = false := by rw [hr]; rfl
    replace hq := hq1
    replace H := H1
    replace hKs := Nat.le_trans hK1 hKs
    clear hg1 H1 hq1 hK1
    try walk_nrm
    refine ⟨⟨H.sub (A := [_]) (List.Sublist.cons _ (List.Sublist.cons_cons _ (List.nil_sublist _))), hr⟩, ?_⟩
    try walk_nrm
    refine AnyF.all (rs := [25]) (by kernel_rfl) (by simp) ?_
    intro i hi
    simp only [List.mem_cons, List.not_mem_nil, or_false] at hi
    subst hi
    co_applyP OpF.cV rfl (by rfl) rfl rfl Try.func79 (by kernel_rfl) (by kernel_rfl) H
    intro K₀ w₁ hK0 H0
    co_apply Exists.intro
    co_apply And.intro
    · walk_nrm
      exact (hdeed _ u₁ e₁ (by omega) H0 hq).more (by omega)
    rintro _ K y' w hK2 ⟨rfl, hg1, H1⟩
    have hK1 := Nat.le_trans hK2 hK0
    clear hK2 hK0 H0
    replace hg := hg.trans hg1
    replace hr := hg1.role.trans hr
    have hq1 : y'.role.quiet = false := by rw [hr]; rfl
    replace hq := hq1
    replace H := H1
    replace hKs := Nat.le_trans hK1 hKs
    clear hg1 H1 hq1 hK1
    try walk_nrm
    refine ⟨⟨H.sub (A := [_]) (List.Sublist.cons _ (List.Sublist.cons_cons _ (List.nil_sublist _))), hr⟩, ?_⟩
    try walk_nrm
    co_applyP AnyF.take Sd.rely (i := 26) rfl (by kernel_rfl) (by kernel_rfl) (by kernel_rfl) (YF.pu (by rfl) (fun _ => run_eq_of ?run) (fun _ => by simp [go_sem, *])) ⟨H.sub (A := [_]) (List.Sublist.cons _ (List.Sublist.cons_cons _ (List.nil_sublist _))), hr⟩
    case run => intro K hK; go_simp; exact hK
    try walk_nrm
    co_applyP AnyF.take Sd.rely (i := 27) rfl (by kernel_rfl) (by kernel_rfl) (by kernel_rfl) (YF.pu (by rfl) (fun _ => run_eq_of ?run) (fun _ => by simp [go_sem, *])) ⟨H.sub (A := [_]) (List.Sublist.cons _ (List.Sublist.cons_cons _ (List.nil_sublist _))), hr⟩
    case run => intro K hK; go_simp; exact hK
    try walk_nrm
    co_applyP AnyF.take Sd.rely (i := 28) rfl (by kernel_rfl) (by kernel_rfl) (by kernel_rfl) (YF.pu (by rfl) (fun _ => run_eq_of ?run) (fun _ => by simp [go_sem, *])) ⟨H.sub (A := [_]) (List.Sublist.cons _ (List.Sublist.cons_cons _ (List.nil_sublist _))), hr⟩
    case run => intro K hK; go_simp; exact hK
    try walk_nrm
    refine AnyF.all (rs := [30]) (by kernel_rfl) (by simp) ?_
    intro i hi
    simp only [List.mem_cons, List.not_mem_nil, or_false] at hi
    subst hi
    co_applyP OpF.str 0 rfl (by rfl) rfl H hq rfl rfl rfl (by kernel_rfl) (by rfl) (by kernel_rfl)
    intro K w hK1 H1
    replace H := H1
    replace hKs := Nat.le_trans hK1 hKs
    clear hK1 H1
    simp only [List.set_cons_zero] at H
    refine ⟨⟨H.sub (A := [_]) (List.Sublist.cons _ (List.Sublist.cons_cons _ (List.nil_sublist _))), hr⟩, ?_⟩
    try walk_nrm
    co_applyP AnyF.take Sd.rely (i := 31) rfl (by kernel_rfl) (by kernel_rfl) (by kernel_rfl) (YF.pu (by rfl) (fun _ => run_eq_of ?run) (fun _ => by simp [go_sem, *])) ⟨H.sub (A := [_]) (List.Sublist.cons _ (List.Sublist.cons_cons _ (List.nil_sublist _))), hr⟩
    case run => intro K hK; go_simp; exact hK
    try walk_nrm
    co_apply AnyF.done (by kernel_rfl)
    intro K hK1 w hr1
    replace H := H.rely hr1
    replace hKs := Nat.le_trans hK1 hKs
    clear hr1 hK1
    simp only [thenF]
    co_apply WF.seqP
    co_apply WF.region
    try simp only [List.size_toArray, List.length_cons, List.length_nil, Nat.reduceAdd, Nat.zero_add, List.range, List.range.loop]
    co_applyP OF.pu rfl (by rfl) (fun _ => run_eq_of ?run) (fun _ => by simp [go_sem, *])
    case run => intro K hK; go_simp; exact hK
    try walk_nrm
    co_applyP OF.ldr 0 rfl (by rfl) rfl H hq rfl rfl Try.underlying38 rfl (by kernel_rfl)
    intro K w hK1 hr1 H1
    replace H := H1
    replace hKs := Nat.le_trans hK1 hKs
    clear hr1 hK1 H1
    try walk_nrm
    co_applyP OF.callJ rfl (by rfl) rfl
    · walk_nrm
      exact hpacked (u₁ + 1) (by omega) H hq
    rintro _ K y' w hK1 ⟨rfl, hg1, H1⟩
    replace hg := hg.trans hg1
    replace hr := hg1.role.trans hr
    have hq1 : y'.role.quiet = false := by rw [hr]; rfl
    replace hq := hq1
    replace H := H1
    replace hKs := Nat.le_trans hK1 hKs
    clear hg1 H1 hq1 hK1
    try walk_nrm
    co_applyP OF.pu rfl (by rfl) (fun _ => run_eq_of ?run) (fun _ => by simp [go_sem, *])
    case run => intro K hK; go_simp; exact hK
    try walk_nrm
    co_applyP OF.pu rfl (by rfl) (fun _ => run_eq_of ?run) (fun _ => by simp [go_sem, *])
    case run => intro K hK; go_simp; exact hK
    try walk_nrm
    co_applyP OF.st1 1 4 rfl (by rfl) rfl H hq rfl rfl rfl rfl rfl (by kernel_rfl)
    intro K w₁ w hK1 hr1 hu1 H1
    replace H := H1
    replace hKs := Nat.le_trans hK1 hKs
    clear hr1 hK1 hu1 H1
    simp only [List.set_cons_zero, List.set_cons_succ, List.setIfInBounds_toArray] at H
    try walk_nrm
    co_apply OF.nil
    simp only [thenF]
    co_apply WF.seqP
    co_apply WF.seqP
    have hne : ((wdv ((u₁ + 1 : Nat) : Int) true).num == (wdv ((u₁ : Nat) : Int) e₁).num) = false := by
      have : ¬ (wdv ((u₁ + 1 : Nat) : Int) true).num = (wdv ((u₁ : Nat) : Int) e₁).num := fun he => by have := (wdv_inj (by omega) (by omega) he).1; omega
      simpa using this
    have hne2 : ((wdv ((u₁ : Int) + 1) true).num == (wdv ((u₁ : Nat) : Int) e₁).num) = false := hne
    co_apply WF.drawnB B (nd + nv + ng) (Sd N _ _ _) (by simp only [List.size_toArray, List.length_cons, List.length_nil, Nat.reduceAdd, Nat.zero_add]; omega) (by kernel_rfl)
    intro K hK1 w₀ hr1
    replace H := (H.rely hr1).drew
    replace hKs := Nat.le_trans hK1 hKs
    clear hr1 hK1
    generalize ({ w₀ with drawn := w₀.drawn + 1 } : World) = w at H ⊢
    try simp only [List.size_toArray, List.length_cons, List.length_nil, Nat.reduceAdd, Nat.zero_add]
    co_applyP AnyF.take Sd.rely (i := 0) rfl (by kernel_rfl) (by kernel_rfl) (by kernel_rfl) (YF.pu (by rfl) (fun _ => run_eq_of ?run) (fun _ => by simp [go_sem, *])) ⟨H.sub (A := [_]) (List.Sublist.cons _ (List.Sublist.cons_cons _ (List.nil_sublist _))), hr⟩
    case run => intro K hK; go_simp; exact hK
    try walk_nrm
    co_applyP AnyF.take Sd.rely (i := 1) rfl (by kernel_rfl) (by kernel_rfl) (by kernel_rfl) (YF.pu (by rfl) (fun _ => run_eq_of ?run) (fun _ => by simp [go_sem, *])) ⟨H.sub (A := [_]) (List.Sublist.cons _ (List.Sublist.cons_cons _ (List.nil_sublist _))), hr⟩
    case run => intro K hK; go_simp; exact hK
    try walk_nrm
    co_applyP AnyF.take Sd.rely (i := 2) rfl (by kernel_rfl) (by kernel_rfl) (by kernel_rfl) (YF.pu (by rfl) (fun _ => run_eq_of ?run) (fun _ => by simp [go_sem, *])) ⟨H.sub (A := [_]) (List.Sublist.cons _ (List.Sublist.cons_cons _ (List.nil_sublist _))), hr⟩
    case run => intro K hK; go_simp; exact hK
    try walk_nrm
    co_applyP AnyF.take Sd.rely (i := 3) rfl (by kernel_rfl) (by kernel_rfl) (by kernel_rfl) (YF.ld1 0 4 (by rfl) rfl (by rfl) rfl rfl rfl Try.underlying102 rfl) ⟨H.sub (A := [_]) (List.Sublist.cons _ (List.Sublist.cons_cons _ (List.nil_sublist _))), hr⟩
    try walk_nrm
    co_applyP AnyF.take Sd.rely (i := 4) rfl (by kernel_rfl) (by kernel_rfl) (by kernel_rfl) (YF.pu (by rfl) (fun _ => run_eq_of ?run) (fun _ => by simp [go_sem, *])) ⟨H.sub (A := [_]) (List.Sublist.cons _ (List.Sublist.cons_cons _ (List.nil_sublist _))), hr⟩
    case run => intro K hK; go_simp; exact hK
    try walk_nrm
    co_applyP AnyF.take Sd.rely (i := 5) rfl (by kernel_rfl) (by kernel_rfl) (by kernel_rfl) (YF.pu (by rfl) (fun _ => run_eq_of ?run) (fun _ => by simp [go_sem, *])) ⟨H.sub (A := [_]) (List.Sublist.cons _ (List.Sublist.cons_cons _ (List.nil_sublist _))), hr⟩
    case run => intro K hK; go_simp; exact hK
    try walk_nrm
    co_applyP AnyF.take Sd.rely (i := 6) rfl (by kernel_rfl) (by kernel_rfl) (by kernel_rfl) (YF.pu (by rfl) (fun _ => run_eq_of ?run) (fun _ => by simp [go_sem, *])) ⟨H.sub (A := [_]) (List.Sublist.cons _ (List.Sublist.cons_cons _ (List.nil_sublist _))), hr⟩
    case run => intro K hK; go_simp; exact hK
    try walk_nrm
    co_applyP AnyF.take Sd.rely (i := 7) rfl (by kernel_rfl) (by kernel_rfl) (by kernel_rfl) (YF.ld1 0 3 (by rfl) rfl (by rfl) rfl rfl rfl Try.underlying102 rfl) ⟨H.sub (A := [_]) (List.Sublist.cons _ (List.Sublist.cons_cons _ (List.nil_sublist _))), hr⟩
    try walk_nrm
    co_applyP AnyF.take Sd.rely (i := 8) rfl (by kernel_rfl) (by kernel_rfl) (by kernel_rfl) (YF.pu (by rfl) (fun _ => run_eq_of ?run) (fun _ => by simp [go_sem, *])) ⟨H.sub (A := [_]) (List.Sublist.cons _ (List.Sublist.cons_cons _ (List.nil_sublist _))), hr⟩
    case run => intro K hK; go_simp; exact hK
    try walk_nrm
    co_apply AnyF.done (by kernel_rfl)
    intro K hK1 w hr1
    replace H := H.rely hr1
    replace hKs := Nat.le_trans hK1 hKs
    clear hr1 hK1
    simp only [thenF]
    co_apply WF.cond (t := false) rfl
    simp only [Bool.false_eq_true, ↓reduceIte]
    co_apply WF.skip
    simp only [thenF]
    co_apply WF.region
    try simp only [List.size_toArray, List.length_cons, List.length_nil, Nat.reduceAdd, Nat.zero_add, List.range, List.range.loop]
    co_applyP OF.pu rfl (by rfl) (fun _ => run_eq_of ?run) (fun _ => by simp [go_sem, *])
    case run => intro K hK; go_simp; exact hK
    try walk_nrm
    co_applyP OF.pu rfl (by rfl) (fun _ => run_eq_of ?run) (fun _ => by simp [go_sem, *])
    case run => intro K hK; go_simp; exact hK
    try walk_nrm
    co_applyP OF.pu rfl (by rfl) (fun _ => run_eq_of ?run) (fun _ => by simp [go_sem, *])
    case run => intro K hK; go_simp; exact hK
    try walk_nrm
    co_applyP OF.st1 1 5 rfl (by rfl) rfl H hq rfl rfl rfl rfl rfl (by kernel_rfl)
    intro K w₁ w hK1 hr1 hu1 H1
    replace H := H1
    replace hKs := Nat.le_trans hK1 hKs
    clear hr1 hK1 hu1 H1
    simp only [List.set_cons_zero, List.set_cons_succ, List.setIfInBounds_toArray] at H
    try walk_nrm
    co_apply OF.nil
    exact retG_of rfl (resultsC_none (by rfl) _) (fun K₂ hK₂ w₂ r₂ => ⟨K₁, u₁, e₁, by omega, hu, rfl, hg, (H.rely r₂).tail⟩)

set_option maxHeartbeats 8000000 in
set_option maxRecDepth 100000 in
theorem read_put : ∃ nf, ∀ {N : Nat} {F : Nat → World → Prop} {m : Bool} {y : Gh Role} {K : Nat} {w : World} {l : List Row} (c : Cfg) (d : Bool) (ba : Nat) (was nxt code tries : Int) (_ : y.role = .work c (.busy true d)) (_ : Ctx N F y K w ((ba, #[.pointer (some ⟨c.wd, 0, none⟩), .int .u8 2, .int .i64 0, .int .u64 was, .int .u64 nxt, .bool false, .bool false, .int .i64 code, .int .i64 tries], 106) :: l)),
    CJ (S N) m 45 #[.pointer (some ⟨ba, 0, none⟩)] nf (fun r K' y' w' => ∃ (K₁ u : Nat), K₁ ≤ K ∧ u < 16 ∧ r = .tuple #[] ∧ Gr y y' ∧ Ctx N (Seen c K₁ (u + 1) true) y' K' w' ((ba, #[.pointer (some ⟨c.wd, 0, none⟩), .int .u8 2, .int .i64 0, .int .u64 (wdv (((u + 1) : Nat) : Int) true).num, .int .u64 (wdv ((u : Nat) : Int) true).num, .bool true, .bool false, .int .i64 code, .int .i64 tries], 106) :: l)) K y w := by
  obtain ⟨nl, hload⟩ := load_w
  obtain ⟨nd, hdeeds⟩ := deeds_c
  obtain ⟨nv, hview⟩ := view_w
  obtain ⟨ng, hdeed⟩ := put_w
  obtain ⟨np, hpacked⟩ := packed_w
  obtain ⟨B, hB⟩ : ∃ B, 40 * (nd + nv + ng + 1) + 2 ≤ B := ⟨_, Nat.le_refl _⟩
  co_apply Exists.intro
  intro N F m y K w l c d ba was nxt code tries hr H
  have hg := Gr.refl y
  have hq : y.role.quiet = false := by rw [hr]; rfl
  obtain ⟨KS, hKS⟩ : ∃ KS, KS = K := ⟨K, rfl⟩
  have hKs : K ≤ KS := Nat.le_of_eq hKS.symm
  co_apply CJ.of_WF Try.func45 (by kernel_rfl) (by rfl)
  simp only [show Try.f45.ntmps = 102 from rfl]
  walk_nrm
  co_apply WF.seqP
  co_apply WF.seqP
  co_apply WF.region
  try simp only [List.size_toArray, List.length_cons, List.length_nil, Nat.reduceAdd, Nat.zero_add, List.range, List.range.loop]
  co_applyP OF.pu rfl (by rfl) (fun _ => run_eq_of ?run) (fun _ => by simp [go_sem, *])
  case run => intro K hK; go_simp; exact hK
  try walk_nrm
  co_applyP OF.pu rfl (by rfl) (fun _ => run_eq_of ?run) (fun _ => by simp [go_sem, *])
  case run => intro K hK; go_simp; exact hK
  try walk_nrm
  co_applyP OF.pu rfl (by rfl) (fun _ => run_eq_of ?run) (fun _ => by simp [go_sem, *])
  case run => intro K hK; go_simp; exact hK
  try walk_nrm
  co_applyP OF.ld1 0 5 rfl (by rfl) rfl H hq rfl rfl rfl Try.underlying4 rfl
  intro K w hK1 hr1 H1
  replace H := H1
  replace hKs := Nat.le_trans hK1 hKs
  clear hr1 hK1 H1
  try walk_nrm
  co_apply OF.nil
  simp only [thenF]
  co_apply WF.cond (t := false) rfl
  simp only [Bool.false_eq_true, ↓reduceIte]
  co_apply WF.skip
  simp only [thenF]
  co_apply WF.seqP
  co_apply WF.region
  try simp only [List.size_toArray, List.length_cons, List.length_nil, Nat.reduceAdd, Nat.zero_add, List.range, List.range.loop]
  co_applyP OF.pu rfl (by rfl) (fun _ => run_eq_of ?run) (fun _ => by simp [go_sem, *])
  case run => intro K hK; go_simp; exact hK
  try walk_nrm
  co_applyP OF.pu rfl (by rfl) (fun _ => run_eq_of ?run) (fun _ => by simp [go_sem, *])
  case run => intro K hK; go_simp; exact hK
  try walk_nrm
  co_applyP OF.pu rfl (by rfl) (fun _ => run_eq_of ?run) (fun _ => by simp [go_sem, *])
  case run => intro K hK; go_simp; exact hK
  try walk_nrm
  co_applyP OF.pu rfl (by rfl) (fun _ => run_eq_of ?run) (fun _ => by simp [go_sem, *])
  case run => intro K hK; go_simp; exact hK
  try walk_nrm
  co_applyP OF.ld1 0 0 rfl (by rfl) rfl H hq rfl rfl rfl Try.underlying23 rfl
  intro K w hK1 hr1 H1
  replace H := H1
  replace hKs := Nat.le_trans hK1 hKs
  clear hr1 hK1 H1
  try walk_nrm
  co_applyP OF.pu rfl (by rfl) (fun _ => run_eq_of ?run) (fun _ => by simp [go_sem, *])
  case run => intro K hK; go_simp; exact hK
  try walk_nrm
  co_applyP OF.pu rfl (by rfl) (fun _ => run_eq_of ?run) (fun _ => by simp [go_sem, *])
  case run => intro K hK; go_simp; exact hK
  try walk_nrm
  co_applyP OF.callJ rfl (by rfl) rfl
  · walk_nrm
    exact hload c _ d hr H
  rintro _ K y' w hK1 ⟨K₁, u₁, e₁, k1, k2, rfl, x1, x2, x3, rfl, H1⟩
  replace H := H1
  have hKs1 : K₁ ≤ KS := Nat.le_trans k2 hKs
  replace hKs := Nat.le_trans hK1 hKs
  clear hK1 H1 k1 k2
  obtain rfl := x3 (.inl rfl)
  obtain ⟨u, rfl⟩ : ∃ u, u₁ = u + 1 := ⟨u₁ - 1, by simp [Wp.held] at x1; omega⟩
  have hu : u < 16 := by omega
  clear x1 x2 x3
  walk_nrm
  co_applyP OF.pu rfl (by rfl) (fun _ => run_eq_of ?run) (fun _ => by simp [go_sem, *])
  case run => intro K hK; go_simp; exact hK
  try walk_nrm
  co_applyP OF.pu rfl (by rfl) (fun _ => run_eq_of ?run) (fun _ => by simp [go_sem, *])
  case run => intro K hK; go_simp; exact hK
  try walk_nrm
  co_applyP OF.st1 0 3 rfl (by rfl) rfl H hq rfl rfl rfl rfl rfl (by kernel_rfl)
  intro K w₁ w hK1 hr1 hu1 H1
  replace H := H1
  replace hKs := Nat.le_trans hK1 hKs
  clear hr1 hK1 hu1 H1
  simp only [List.set_cons_zero, List.set_cons_succ, List.setIfInBounds_toArray] at H
  try walk_nrm
  co_apply OF.nil
  simp only [thenF]
  co_apply WF.seqP
  co_apply WF.drawnB B (nd + nv + ng) (Sd N _ _ _) (by simp only [List.size_toArray, List.length_cons, List.length_nil, Nat.reduceAdd, Nat.zero_add]; omega) (by kernel_rfl)
  intro K hK1 w₀ hr1
  replace H := (H.rely hr1).drew
  replace hKs := Nat.le_trans hK1 hKs
  clear hr1 hK1
  generalize ({ w₀ with drawn := w₀.drawn + 1 } : World) = w at H ⊢
  try simp only [List.size_toArray, List.length_cons, List.length_nil, Nat.reduceAdd, Nat.zero_add]
  co_applyP AnyF.take Sd.rely (i := 1) rfl (by kernel_rfl) (by kernel_rfl) (by kernel_rfl) (YF.pu (by rfl) (fun _ => run_eq_of ?run) (fun _ => by simp [go_sem, *])) ⟨H.sub (A := [_]) (List.Sublist.cons_cons _ (List.nil_sublist _)), hr⟩
  case run => intro K hK; go_simp; exact hK
  try walk_nrm
  co_applyP AnyF.take Sd.rely (i := 2) rfl (by kernel_rfl) (by kernel_rfl) (by kernel_rfl) (YF.pu (by rfl) (fun _ => run_eq_of ?run) (fun _ => by simp [go_sem, *])) ⟨H.sub (A := [_]) (List.Sublist.cons_cons _ (List.nil_sublist _)), hr⟩
  case run => intro K hK; go_simp; exact hK
  try walk_nrm
  co_applyP AnyF.take Sd.rely (i := 3) rfl (by kernel_rfl) (by kernel_rfl) (by kernel_rfl) (YF.pu (by rfl) (fun _ => run_eq_of ?run) (fun _ => by simp [go_sem, *])) ⟨H.sub (A := [_]) (List.Sublist.cons_cons _ (List.nil_sublist _)), hr⟩
  case run => intro K hK; go_simp; exact hK
  try walk_nrm
  co_applyP AnyF.take Sd.rely (i := 4) rfl (by kernel_rfl) (by kernel_rfl) (by kernel_rfl) (YF.pu (by rfl) (fun _ => run_eq_of ?run) (fun _ => by simp [go_sem, *])) ⟨H.sub (A := [_]) (List.Sublist.cons_cons _ (List.nil_sublist _)), hr⟩
  case run => intro K hK; go_simp; exact hK
  try walk_nrm
  co_applyP AnyF.take Sd.rely (i := 5) rfl (by kernel_rfl) (by kernel_rfl) (by kernel_rfl) (YF.ld1 0 1 (by rfl) rfl (by rfl) rfl rfl rfl Try.underlying5 rfl) ⟨H.sub (A := [_]) (List.Sublist.cons_cons _ (List.nil_sublist _)), hr⟩
  try walk_nrm
  co_applyP AnyF.take Sd.rely (i := 8) rfl (by kernel_rfl) (by kernel_rfl) (by kernel_rfl) (YF.pu (by rfl) (fun _ => run_eq_of ?run) (fun _ => by simp [go_sem, *])) ⟨H.sub (A := [_]) (List.Sublist.cons_cons _ (List.nil_sublist _)), hr⟩
  case run => intro K hK; go_simp; exact hK
  try walk_nrm
  co_applyP AnyF.take Sd.rely (i := 9) rfl (by kernel_rfl) (by kernel_rfl) (by kernel_rfl) (YF.pu (by rfl) (fun _ => run_eq_of ?run) (fun _ => by simp [go_sem, *])) ⟨H.sub (A := [_]) (List.Sublist.cons_cons _ (List.nil_sublist _)), hr⟩
  case run => intro K hK; go_simp; exact hK
  try walk_nrm
  co_applyP AnyF.take Sd.rely (i := 10) rfl (by kernel_rfl) (by kernel_rfl) (by kernel_rfl) (YF.pu (by rfl) (fun _ => run_eq_of ?run) (fun _ => by simp [go_sem, *])) ⟨H.sub (A := [_]) (List.Sublist.cons_cons _ (List.nil_sublist _)), hr⟩
  case run => intro K hK; go_simp; exact hK
  try walk_nrm
  co_applyP AnyF.take Sd.rely (i := 11) rfl (by kernel_rfl) (by kernel_rfl) (by kernel_rfl) (YF.ld1 0 0 (by rfl) rfl (by rfl) rfl rfl rfl Try.underlying23 rfl) ⟨H.sub (A := [_]) (List.Sublist.cons_cons _ (List.nil_sublist _)), hr⟩
  try walk_nrm
  co_applyP AnyF.take Sd.rely (i := 12) rfl (by kernel_rfl) (by kernel_rfl) (by kernel_rfl) (YF.pu (by rfl) (fun _ => run_eq_of ?run) (fun _ => by simp [go_sem, *])) ⟨H.sub (A := [_]) (List.Sublist.cons_cons _ (List.nil_sublist _)), hr⟩
  case run => intro K hK; go_simp; exact hK
  try walk_nrm
  co_applyP AnyF.take Sd.rely (i := 13) rfl (by kernel_rfl) (by kernel_rfl) (by kernel_rfl) (YF.pu (by rfl) (fun _ => run_eq_of ?run) (fun _ => by simp [go_sem, *])) ⟨H.sub (A := [_]) (List.Sublist.cons_cons _ (List.nil_sublist _)), hr⟩
  case run => intro K hK; go_simp; exact hK
  try walk_nrm
  co_applyP AnyF.take Sd.rely (i := 14) rfl (by kernel_rfl) (by kernel_rfl) (by kernel_rfl) (YF.ldS (by rfl) rfl rfl (by rfl) rfl (fun w hw => by obtain ⟨_, ⟨u, e, hwd, _⟩, _⟩ := hw; exact (wd_cell hwd).2.1) (.inr (.inr ⟨rfl, by simp⟩)) Try.underlying3 rfl) ⟨H.sub (A := [_]) (List.Sublist.cons_cons _ (List.nil_sublist _)), hr⟩
  try walk_nrm
  co_applyP AnyF.take Sd.rely (i := 15) rfl (by kernel_rfl) (by kernel_rfl) (by kernel_rfl) (YF.pu (by rfl) (fun _ => run_eq_of ?run) (fun _ => by simp [go_sem, *])) ⟨H.sub (A := [_]) (List.Sublist.cons_cons _ (List.nil_sublist _)), hr⟩
  case run => intro K hK; go_simp; exact hK
  try walk_nrm
  co_applyP AnyF.take Sd.rely (i := 16) rfl (by kernel_rfl) (by kernel_rfl) (by kernel_rfl) (YF.pu (by rfl) (fun _ => run_eq_of ?run) (fun _ => by simp [go_sem, *])) ⟨H.sub (A := [_]) (List.Sublist.cons_cons _ (List.nil_sublist _)), hr⟩
  case run => intro K hK; go_simp; exact hK
  try walk_nrm
  co_applyP AnyF.take Sd.rely (i := 17) rfl (by kernel_rfl) (by kernel_rfl) (by kernel_rfl) (YF.pu (by rfl) (fun _ => run_eq_of ?run) (fun _ => by simp [go_sem, *])) ⟨H.sub (A := [_]) (List.Sublist.cons_cons _ (List.nil_sublist _)), hr⟩
  case run => intro K hK; go_simp; exact hK
  try walk_nrm
  co_applyP AnyF.take Sd.rely (i := 18) rfl (by kernel_rfl) (by kernel_rfl) (by kernel_rfl) (YF.pu (by rfl) (fun _ => run_eq_of ?run) (fun _ => by simp [go_sem, *])) ⟨H.sub (A := [_]) (List.Sublist.cons_cons _ (List.nil_sublist _)), hr⟩
  case run => intro K hK; go_simp; exact hK
  try walk_nrm
  co_applyP AnyF.take Sd.rely (i := 19) rfl (by kernel_rfl) (by kernel_rfl) (by kernel_rfl) (YF.ld1 0 2 (by rfl) rfl (by rfl) rfl rfl rfl Try.underlying3 rfl) ⟨H.sub (A := [_]) (List.Sublist.cons_cons _ (List.nil_sublist _)), hr⟩
  try walk_nrm
  co_applyP AnyF.take Sd.rely (i := 20) rfl (by kernel_rfl) (by kernel_rfl) (by kernel_rfl) (YF.pu (by rfl) (fun _ => run_eq_of ?run) (fun _ => by simp [go_sem, *])) ⟨H.sub (A := [_]) (List.Sublist.cons_cons _ (List.nil_sublist _)), hr⟩
  case run => intro K hK; go_simp; exact hK
  try walk_nrm
  co_applyP AnyF.take Sd.rely (i := 21) rfl (by kernel_rfl) (by kernel_rfl) (by kernel_rfl) (YF.pu (by rfl) (fun _ => run_eq_of ?run) (fun _ => by simp [go_sem, *])) ⟨H.sub (A := [_]) (List.Sublist.cons_cons _ (List.nil_sublist _)), hr⟩
  case run => intro K hK; go_simp; exact hK
  try walk_nrm
  co_applyP AnyF.take Sd.rely (i := 22) rfl (by kernel_rfl) (by kernel_rfl) (by kernel_rfl) (YF.pu (by rfl) (fun _ => run_eq_of ?run) (fun _ => by simp [go_sem, *])) ⟨H.sub (A := [_]) (List.Sublist.cons_cons _ (List.nil_sublist _)), hr⟩
  case run => intro K hK; go_simp; exact hK
  try walk_nrm
  co_applyP AnyF.take Sd.rely (i := 23) rfl (by kernel_rfl) (by kernel_rfl) (by kernel_rfl) (YF.ld1 0 3 (by rfl) rfl (by rfl) rfl rfl rfl Try.underlying102 rfl) ⟨H.sub (A := [_]) (List.Sublist.cons_cons _ (List.nil_sublist _)), hr⟩
  try walk_nrm
  refine AnyF.all (rs := [0, 29]) (by kernel_rfl) (by simp) ?_
  intro i hi
  simp only [List.mem_cons, List.not_mem_nil, or_false] at hi
  rcases hi with rfl | rfl
  · skip
    co_applyP OpF.cJ rfl (by rfl) rfl Try.func60 (by kernel_rfl) (by kernel_rfl) H
    intro K₀ w₁ hK0 H0
    co_apply Exists.intro
    co_apply And.intro
    · walk_nrm
      exact (hdeeds H0 hq).more (by omega)
    rintro _ K y' w hK2 ⟨rfl, hg1, H1⟩
    have hK1 := Nat.le_trans hK2 hK0
    clear hK2 hK0 H0
    replace hg := hg.trans hg1
    replace hr := hg1.role.trans hr
    have hq1 : y'.role.quiet = false := by rw [hr]; rfl
    replace hq := hq1
    replace H := H1
    replace hKs := Nat.le_trans hK1 hKs
    clear hg1 H1 hq1 hK1
    try walk_nrm
    refine ⟨⟨H.sub (A := [_]) (List.Sublist.cons_cons _ (List.nil_sublist _)), hr⟩, ?_⟩
    try walk_nrm
    co_applyP AnyF.take Sd.rely (i := 6) rfl (by kernel_rfl) (by kernel_rfl) (by kernel_rfl) (YF.pu (v := .agg #[.func (.func 80) #[] #[]]) (by rfl) (fun _ => by kernel_rfl) (fun _ => by kernel_rfl)) ⟨H.sub (A := [_]) (List.Sublist.cons_cons _ (List.nil_sublist _)), hr⟩
    try walk_nrm
    co_applyP AnyF.take Sd.rely (i := 7) rfl (by kernel_rfl) (by kernel_rfl) (by kernel_rfl) (YF.pu (v := .func (.func 80) #[] #[]) (by rfl) (fun _ => by kernel_rfl) (fun _ => by kernel_rfl)) ⟨H.sub (A := [_]) (List.Sublist.cons_cons _ (List.nil_sublist _)), hr⟩
    try walk_nrm
    refine AnyF.all (rs := [24, 29]) (by kernel_rfl) (by simp) ?_
    intro i hi
    simp only [List.mem_cons, List.not_mem_nil, or_false] at hi
    rcases hi with rfl | rfl
    · skip
      co_applyP OpF.cJ rfl (by rfl) rfl Try.func44 (by kernel_rfl) (by kernel_rfl) H
      intro K₀ w₁ hK0 H0
      co_apply Exists.intro
      co_apply And.intro
      · walk_nrm
        exact (hview (u + 1) true (by omega) H0 hq).more (by omega)
      rintro _ K y' w hK2 ⟨rfl, hg1, H1⟩
      have hK1 := Nat.le_trans hK2 hK0
      clear hK2 hK0 H0
      replace hg := hg.trans hg1
      replace hr := hg1.role.trans hr
      have hq1 : y'.role.quiet = false := by rw [hr]; rfl
      replace hq := hq1
      replace H := H1
      replace hKs := Nat.le_trans hK1 hKs
      clear hg1 H1 hq1 hK1
      try walk_nrm
      refine ⟨⟨H.sub (A := [_]) (List.Sublist.cons_cons _ (List.nil_sublist _)), hr⟩, ?_⟩
      try walk_nrm
      refine AnyF.all (rs := [25, 29]) (by kernel_rfl) (by simp) ?_
      intro i hi
      simp only [List.mem_cons, List.not_mem_nil, or_false] at hi
      rcases hi with rfl | rfl
      · skip
        co_applyP OpF.cV rfl (by rfl) rfl rfl Try.func80 (by kernel_rfl) (by kernel_rfl) H
        intro K₀ w₁ hK0 H0
        co_apply Exists.intro
        co_apply And.intro
        · walk_nrm
          exact (hdeed _ u (by omega) H0 hq).more (by omega)
        rintro _ K y' w hK2 ⟨rfl, hg1, H1⟩
        have hK1 := Nat.le_trans hK2 hK0
        clear hK2 hK0 H0
        replace hg := hg.trans hg1
        replace hr := hg1.role.trans hr
        have hq1 : y'.role.quiet = false := by rw [hr]; rfl
        replace hq := hq1
        replace H := H1
        replace hKs := Nat.le_trans hK1 hKs
        clear hg1 H1 hq1 hK1
        try walk_nrm
        refine ⟨⟨H.sub (A := [_]) (List.Sublist.cons_cons _ (List.nil_sublist _)), hr⟩, ?_⟩
        try walk_nrm
        co_applyP AnyF.take Sd.rely (i := 26) rfl (by kernel_rfl) (by kernel_rfl) (by kernel_rfl) (YF.pu (by rfl) (fun _ => run_eq_of ?run) (fun _ => by simp [go_sem, *])) ⟨H.sub (A := [_]) (List.Sublist.cons_cons _ (List.nil_sublist _)), hr⟩
        case run => intro K hK; go_simp; exact hK
        try walk_nrm
        co_applyP AnyF.take Sd.rely (i := 27) rfl (by kernel_rfl) (by kernel_rfl) (by kernel_rfl) (YF.pu (by rfl) (fun _ => run_eq_of ?run) (fun _ => by simp [go_sem, *])) ⟨H.sub (A := [_]) (List.Sublist.cons_cons _ (List.nil_sublist _)), hr⟩
        case run => intro K hK; go_simp; exact hK
        try walk_nrm
        co_applyP AnyF.take Sd.rely (i := 28) rfl (by kernel_rfl) (by kernel_rfl) (by kernel_rfl) (YF.pu (by rfl) (fun _ => run_eq_of ?run) (fun _ => by simp [go_sem, *])) ⟨H.sub (A := [_]) (List.Sublist.cons_cons _ (List.nil_sublist _)), hr⟩
        case run => intro K hK; go_simp; exact hK
        try walk_nrm
        refine AnyF.all (rs := [29]) (by kernel_rfl) (by simp) ?_
        intro i hi
        simp only [List.mem_cons, List.not_mem_nil, or_false] at hi
        subst hi
        co_applyP OpF.al rfl (by rfl) H (fun _ => run_eq_of ?run) (fun _ => by simp [go_sem, *])
        case run => intro K hK; go_simp; exact hK
        intro K y' w b2 hK1 hg1 H1
        replace hg := hg.trans hg1
        replace hr := hg1.role.trans hr
        have hq1 : y'.role.quiet = false := by rw [hr]; rfl
        replace hq := hq1
        replace H := H1
        replace hKs := Nat.le_trans hK1 hKs
        clear hg1 H1 hq1 hK1
        try walk_nrm
        refine ⟨⟨H.sub (A := [_]) (List.Sublist.cons _ (List.Sublist.cons_cons _ (List.nil_sublist _))), hr⟩, ?_⟩
        try walk_nrm
        refine AnyF.all (rs := [30]) (by kernel_rfl) (by simp) ?_
        intro i hi
        simp only [List.mem_cons, List.not_mem_nil, or_false] at hi
        subst hi
        co_applyP OpF.str 0 rfl (by rfl) rfl H hq rfl rfl rfl (by kernel_rfl) (by rfl) (by kernel_rfl)
        intro K w hK1 H1
        replace H := H1
        replace hKs := Nat.le_trans hK1 hKs
        clear hK1 H1
        simp only [List.set_cons_zero] at H
        refine ⟨⟨H.sub (A := [_]) (List.Sublist.cons _ (List.Sublist.cons_cons _ (List.nil_sublist _))), hr⟩, ?_⟩
        try walk_nrm
        co_applyP AnyF.take Sd.rely (i := 31) rfl (by kernel_rfl) (by kernel_rfl) (by kernel_rfl) (YF.pu (by rfl) (fun _ => run_eq_of ?run) (fun _ => by simp [go_sem, *])) ⟨H.sub (A := [_]) (List.Sublist.cons _ (List.Sublist.cons_cons _ (List.nil_sublist _))), hr⟩
        case run => intro K hK; go_simp; exact hK
        try walk_nrm
        co_apply AnyF.done (by kernel_rfl)
        intro K hK1 w hr1
        replace H := H.rely hr1
        replace hKs := Nat.le_trans hK1 hKs
        clear hr1 hK1
        simp only [thenF]
        co_apply WF.seqP
        co_apply WF.region
        try simp only [List.size_toArray, List.length_cons, List.length_nil, Nat.reduceAdd, Nat.zero_add, List.range, List.range.loop]
        co_applyP OF.pu rfl (by rfl) (fun _ => run_eq_of ?run) (fun _ => by simp [go_sem, *])
        case run => intro K hK; go_simp; exact hK
        try walk_nrm
        co_applyP OF.ldr 0 rfl (by rfl) rfl H hq rfl rfl Try.underlying38 rfl (by kernel_rfl)
        intro K w hK1 hr1 H1
        replace H := H1
        replace hKs := Nat.le_trans hK1 hKs
        clear hr1 hK1 H1
        try walk_nrm
        co_applyP OF.callJ rfl (by rfl) rfl
        · walk_nrm
          exact hpacked u (by omega) H hq
        rintro _ K y' w hK1 ⟨rfl, hg1, H1⟩
        replace hg := hg.trans hg1
        replace hr := hg1.role.trans hr
        have hq1 : y'.role.quiet = false := by rw [hr]; rfl
        replace hq := hq1
        replace H := H1
        replace hKs := Nat.le_trans hK1 hKs
        clear hg1 H1 hq1 hK1
        try walk_nrm
        co_applyP OF.pu rfl (by rfl) (fun _ => run_eq_of ?run) (fun _ => by simp [go_sem, *])
        case run => intro K hK; go_simp; exact hK
        try walk_nrm
        co_applyP OF.pu rfl (by rfl) (fun _ => run_eq_of ?run) (fun _ => by simp [go_sem, *])
        case run => intro K hK; go_simp; exact hK
        try walk_nrm
        co_applyP OF.st1 1 4 rfl (by rfl) rfl H hq rfl rfl rfl rfl rfl (by kernel_rfl)
        intro K w₁ w hK1 hr1 hu1 H1
        replace H := H1
        replace hKs := Nat.le_trans hK1 hKs
        clear hr1 hK1 hu1 H1
        simp only [List.set_cons_zero, List.set_cons_succ, List.setIfInBounds_toArray] at H
        try walk_nrm
        co_apply OF.nil
        simp only [thenF]
        co_apply WF.seqP
        co_apply WF.seqP
        have hne : ((wdv (u : Int) true).num == (wdv (((u + 1) : Nat) : Int) true).num) = false := by
          have : ¬ (wdv (u : Int) true).num = (wdv (((u + 1) : Nat) : Int) true).num := fun he => by have := (wdv_inj (by omega) (by omega) he).1; omega
          simpa using this
        have hne2 : ((wdv (u : Int) true).num == (wdv ((u : Int) + 1 : Int) true).num) = false := hne
        co_apply WF.drawnB B (nd + nv + ng) (Sd N _ _ _) (by simp only [List.size_toArray, List.length_cons, List.length_nil, Nat.reduceAdd, Nat.zero_add]; omega) (by kernel_rfl)
        intro K hK1 w₀ hr1
        replace H := (H.rely hr1).drew
        replace hKs := Nat.le_trans hK1 hKs
        clear hr1 hK1
        generalize ({ w₀ with drawn := w₀.drawn + 1 } : World) = w at H ⊢
        try simp only [List.size_toArray, List.length_cons, List.length_nil, Nat.reduceAdd, Nat.zero_add]
        co_applyP AnyF.take Sd.rely (i := 0) rfl (by kernel_rfl) (by kernel_rfl) (by kernel_rfl) (YF.pu (by rfl) (fun _ => run_eq_of ?run) (fun _ => by simp [go_sem, *])) ⟨H.sub (A := [_]) (List.Sublist.cons _ (List.Sublist.cons_cons _ (List.nil_sublist _))), hr⟩
        case run => intro K hK; go_simp; exact hK
        try walk_nrm
        co_applyP AnyF.take Sd.rely (i := 1) rfl (by kernel_rfl) (by kernel_rfl) (by kernel_rfl) (YF.pu (by rfl) (fun _ => run_eq_of ?run) (fun _ => by simp [go_sem, *])) ⟨H.sub (A := [_]) (List.Sublist.cons _ (List.Sublist.cons_cons _ (List.nil_sublist _))), hr⟩
        case run => intro K hK; go_simp; exact hK
        try walk_nrm
        co_applyP AnyF.take Sd.rely (i := 2) rfl (by kernel_rfl) (by kernel_rfl) (by kernel_rfl) (YF.pu (by rfl) (fun _ => run_eq_of ?run) (fun _ => by simp [go_sem, *])) ⟨H.sub (A := [_]) (List.Sublist.cons _ (List.Sublist.cons_cons _ (List.nil_sublist _))), hr⟩
        case run => intro K hK; go_simp; exact hK
        try walk_nrm
        co_applyP AnyF.take Sd.rely (i := 3) rfl (by kernel_rfl) (by kernel_rfl) (by kernel_rfl) (YF.ld1 0 4 (by rfl) rfl (by rfl) rfl rfl rfl Try.underlying102 rfl) ⟨H.sub (A := [_]) (List.Sublist.cons _ (List.Sublist.cons_cons _ (List.nil_sublist _))), hr⟩
        try walk_nrm
        co_applyP AnyF.take Sd.rely (i := 4) rfl (by kernel_rfl) (by kernel_rfl) (by kernel_rfl) (YF.pu (by rfl) (fun _ => run_eq_of ?run) (fun _ => by simp [go_sem, *])) ⟨H.sub (A := [_]) (List.Sublist.cons _ (List.Sublist.cons_cons _ (List.nil_sublist _))), hr⟩
        case run => intro K hK; go_simp; exact hK
        try walk_nrm
        co_applyP AnyF.take Sd.rely (i := 5) rfl (by kernel_rfl) (by kernel_rfl) (by kernel_rfl) (YF.pu (by rfl) (fun _ => run_eq_of ?run) (fun _ => by simp [go_sem, *])) ⟨H.sub (A := [_]) (List.Sublist.cons _ (List.Sublist.cons_cons _ (List.nil_sublist _))), hr⟩
        case run => intro K hK; go_simp; exact hK
        try walk_nrm
        co_applyP AnyF.take Sd.rely (i := 6) rfl (by kernel_rfl) (by kernel_rfl) (by kernel_rfl) (YF.pu (by rfl) (fun _ => run_eq_of ?run) (fun _ => by simp [go_sem, *])) ⟨H.sub (A := [_]) (List.Sublist.cons _ (List.Sublist.cons_cons _ (List.nil_sublist _))), hr⟩
        case run => intro K hK; go_simp; exact hK
        try walk_nrm
        co_applyP AnyF.take Sd.rely (i := 7) rfl (by kernel_rfl) (by kernel_rfl) (by kernel_rfl) (YF.ld1 0 3 (by rfl) rfl (by rfl) rfl rfl rfl Try.underlying102 rfl) ⟨H.sub (A := [_]) (List.Sublist.cons _ (List.Sublist.cons_cons _ (List.nil_sublist _))), hr⟩
        try walk_nrm
        co_applyP AnyF.take Sd.rely (i := 8) rfl (by kernel_rfl) (by kernel_rfl) (by kernel_rfl) (YF.pu (by rfl) (fun _ => run_eq_of ?run) (fun _ => by simp [go_sem, *])) ⟨H.sub (A := [_]) (List.Sublist.cons _ (List.Sublist.cons_cons _ (List.nil_sublist _))), hr⟩
        case run => intro K hK; go_simp; exact hK
        try walk_nrm
        co_apply AnyF.done (by kernel_rfl)
        intro K hK1 w hr1
        replace H := H.rely hr1
        replace hKs := Nat.le_trans hK1 hKs
        clear hr1 hK1
        simp only [thenF]
        co_apply WF.cond (t := false) rfl
        simp only [Bool.false_eq_true, ↓reduceIte]
        co_apply WF.skip
        simp only [thenF]
        co_apply WF.region
        try simp only [List.size_toArray, List.length_cons, List.length_nil, Nat.reduceAdd, Nat.zero_add, List.range, List.range.loop]
        co_applyP OF.pu rfl (by rfl) (fun _ => run_eq_of ?run) (fun _ => by simp [go_sem, *])
        case run => intro K hK; go_simp; exact hK
        try walk_nrm
        co_applyP OF.pu rfl (by rfl) (fun _ => run_eq_of ?run) (fun _ => by simp [go_sem, *])
        case run => intro K hK; go_simp; exact hK
        try walk_nrm
        co_applyP OF.pu rfl (by rfl) (fun _ => run_eq_of ?run) (fun _ => by simp [go_sem, *])
        case run => intro K hK; go_simp; exact hK
        try walk_nrm
        co_applyP OF.st1 1 5 rfl (by rfl) rfl H hq rfl rfl rfl rfl rfl (by kernel_rfl)
        intro K w₁ w hK1 hr1 hu1 H1
        replace H := H1
        replace hKs := Nat.le_trans hK1 hKs
        clear hr1 hK1 hu1 H1
        simp only [List.set_cons_zero, List.set_cons_succ, List.setIfInBounds_toArray] at H
        try walk_nrm
        co_apply OF.nil
        exact retG_of rfl (resultsC_none (by rfl) _) (fun K₂ hK₂ w₂ r₂ => ⟨K₁, u, by omega, hu, rfl, hg, (H.rely r₂).tail⟩)
      · skip
        co_applyP OpF.al rfl (by rfl) H (fun _ => run_eq_of ?run) (fun _ => by simp [go_sem, *])
        case run => intro K hK; go_simp; exact hK
        intro K y' w b2 hK1 hg1 H1
        replace hg := hg.trans hg1
        replace hr := hg1.role.trans hr
        have hq1 : y'.role.quiet = false := by rw [hr]; rfl
        replace hq := hq1
        replace H := H1
        replace hKs := Nat.le_trans hK1 hKs
        clear hg1 H1 hq1 hK1
        try walk_nrm
        refine ⟨⟨H.sub (A := [_]) (List.Sublist.cons _ (List.Sublist.cons_cons _ (List.nil_sublist _))), hr⟩, ?_⟩
        try walk_nrm
        refine AnyF.all (rs := [25]) (by kernel_rfl) (by simp) ?_
        intro i hi
        simp only [List.mem_cons, List.not_mem_nil, or_false] at hi
        subst hi
        co_applyP OpF.cV rfl (by rfl) rfl rfl Try.func80 (by kernel_rfl) (by kernel_rfl) H
        intro K₀ w₁ hK0 H0
        co_apply Exists.intro
        co_apply And.intro
        · walk_nrm
          exact (hdeed _ u (by omega) H0 hq).more (by omega)
        rintro _ K y' w hK2 ⟨rfl, hg1, H1⟩
        have hK1 := Nat.le_trans hK2 hK0
        clear hK2 hK0 H0
        replace hg := hg.trans hg1
        replace hr := hg1.role.trans hr
        have hq1 : y'.role.quiet = false := by rw [hr]; rfl
        replace hq := hq1
        replace H := H1
        replace hKs := Nat.le_trans hK1 hKs
        clear hg1 H1 hq1 hK1
        try walk_nrm
        refine ⟨⟨H.sub (A := [_]) (List.Sublist.cons _ (List.Sublist.cons_cons _ (List.nil_sublist _))), hr⟩, ?_⟩
        try walk_nrm
        co_applyP AnyF.take Sd.rely (i := 26) rfl (by kernel_rfl) (by kernel_rfl) (by kernel_rfl) (YF.pu (by rfl) (fun _ => run_eq_of ?run) (fun _ => by simp [go_sem, *])) ⟨H.sub (A := [_]) (List.Sublist.cons _ (List.Sublist.cons_cons _ (List.nil_sublist _))), hr⟩
        case run => intro K hK; go_simp; exact hK
        try walk_nrm
        co_applyP AnyF.take Sd.rely (i := 27) rfl (by kernel_rfl) (by kernel_rfl) (by kernel_rfl) (YF.pu (by rfl) (fun _ => run_eq_of ?run) (fun _ => by simp [go_sem, *])) ⟨H.sub (A := [_]) (List.Sublist.cons _ (List.Sublist.cons_cons _ (List.nil_sublist _))), hr⟩
        case run => intro K hK; go_simp; exact hK
        try walk_nrm
        co_applyP AnyF.take Sd.rely (i := 28) rfl (by kernel_rfl) (by kernel_rfl) (by kernel_rfl) (YF.pu (by rfl) (fun _ => run_eq_of ?run) (fun _ => by simp [go_sem, *])) ⟨H.sub (A := [_]) (List.Sublist.cons _ (List.Sublist.cons_cons _ (List.nil_sublist _))), hr⟩
        case run => intro K hK; go_simp; exact hK
        try walk_nrm
        refine AnyF.all (rs := [30]) (by kernel_rfl) (by simp) ?_
        intro i hi
        simp only [List.mem_cons, List.not_mem_nil, or_false] at hi
        subst hi
        co_applyP OpF.str 0 rfl (by rfl) rfl H hq rfl rfl rfl (by kernel_rfl) (by rfl) (by kernel_rfl)
        intro K w hK1 H1
        replace H := H1
        replace hKs := Nat.le_trans hK1 hKs
        clear hK1 H1
        simp only [List.set_cons_zero] at H
        refine ⟨⟨H.sub (A := [_]) (List.Sublist.cons _ (List.Sublist.cons_cons _ (List.nil_sublist _))), hr⟩, ?_⟩
        try walk_nrm
        co_applyP AnyF.take Sd.rely (i := 31) rfl (by kernel_rfl) (by kernel_rfl) (by kernel_rfl) (YF.pu (by rfl) (fun _ => run_eq_of ?run) (fun _ => by simp [go_sem, *])) ⟨H.sub (A := [_]) (List.Sublist.cons _ (List.Sublist.cons_cons _ (List.nil_sublist _))), hr⟩
        case run => intro K hK; go_simp; exact hK
        try walk_nrm
        co_apply AnyF.done (by kernel_rfl)
        intro K hK1 w hr1
        replace H := H.rely hr1
        replace hKs := Nat.le_trans hK1 hKs
        clear hr1 hK1
        simp only [thenF]
        co_apply WF.seqP
        co_apply WF.region
        try simp only [List.size_toArray, List.length_cons, List.length_nil, Nat.reduceAdd, Nat.zero_add, List.range, List.range.loop]
        co_applyP OF.pu rfl (by rfl) (fun _ => run_eq_of ?run) (fun _ => by simp [go_sem, *])
        case run => intro K hK; go_simp; exact hK
        try walk_nrm
        co_applyP OF.ldr 0 rfl (by rfl) rfl H hq rfl rfl Try.underlying38 rfl (by kernel_rfl)
        intro K w hK1 hr1 H1
        replace H := H1
        replace hKs := Nat.le_trans hK1 hKs
        clear hr1 hK1 H1
        try walk_nrm
        co_applyP OF.callJ rfl (by rfl) rfl
        · walk_nrm
          exact hpacked u (by omega) H hq
        rintro _ K y' w hK1 ⟨rfl, hg1, H1⟩
        replace hg := hg.trans hg1
        replace hr := hg1.role.trans hr
        have hq1 : y'.role.quiet = false := by rw [hr]; rfl
        replace hq := hq1
        replace H := H1
        replace hKs := Nat.le_trans hK1 hKs
        clear hg1 H1 hq1 hK1
        try walk_nrm
        co_applyP OF.pu rfl (by rfl) (fun _ => run_eq_of ?run) (fun _ => by simp [go_sem, *])
        case run => intro K hK; go_simp; exact hK
        try walk_nrm
        co_applyP OF.pu rfl (by rfl) (fun _ => run_eq_of ?run) (fun _ => by simp [go_sem, *])
        case run => intro K hK; go_simp; exact hK
        try walk_nrm
        co_applyP OF.st1 1 4 rfl (by rfl) rfl H hq rfl rfl rfl rfl rfl (by kernel_rfl)
        intro K w₁ w hK1 hr1 hu1 H1
        replace H := H1
        replace hKs := Nat.le_trans hK1 hKs
        clear hr1 hK1 hu1 H1
        simp only [List.set_cons_zero, List.set_cons_succ, List.setIfInBounds_toArray] at H
        try walk_nrm
        co_apply OF.nil
        simp only [thenF]
        co_apply WF.seqP
        co_apply WF.seqP
        have hne : ((wdv (u : Int) true).num == (wdv (((u + 1) : Nat) : Int) true).num) = false := by
          have : ¬ (wdv (u : Int) true).num = (wdv (((u + 1) : Nat) : Int) true).num := fun he => by have := (wdv_inj (by omega) (by omega) he).1; omega
          simpa using this
        have hne2 : ((wdv (u : Int) true).num == (wdv ((u : Int) + 1 : Int) true).num) = false := hne
        co_apply WF.drawnB B (nd + nv + ng) (Sd N _ _ _) (by simp only [List.size_toArray, List.length_cons, List.length_nil, Nat.reduceAdd, Nat.zero_add]; omega) (by kernel_rfl)
        intro K hK1 w₀ hr1
        replace H := (H.rely hr1).drew
        replace hKs := Nat.le_trans hK1 hKs
        clear hr1 hK1
        generalize ({ w₀ with drawn := w₀.drawn + 1 } : World) = w at H ⊢
        try simp only [List.size_toArray, List.length_cons, List.length_nil, Nat.reduceAdd, Nat.zero_add]
        co_applyP AnyF.take Sd.rely (i := 0) rfl (by kernel_rfl) (by kernel_rfl) (by kernel_rfl) (YF.pu (by rfl) (fun _ => run_eq_of ?run) (fun _ => by simp [go_sem, *])) ⟨H.sub (A := [_]) (List.Sublist.cons _ (List.Sublist.cons_cons _ (List.nil_sublist _))), hr⟩
        case run => intro K hK; go_simp; exact hK
        try walk_nrm
        co_applyP AnyF.take Sd.rely (i := 1) rfl (by kernel_rfl) (by kernel_rfl) (by kernel_rfl) (YF.pu (by rfl) (fun _ => run_eq_of ?run) (fun _ => by simp [go_sem, *])) ⟨H.sub (A := [_]) (List.Sublist.cons _ (List.Sublist.cons_cons _ (List.nil_sublist _))), hr⟩
        case run => intro K hK; go_simp; exact hK
        try walk_nrm
        co_applyP AnyF.take Sd.rely (i := 2) rfl (by kernel_rfl) (by kernel_rfl) (by kernel_rfl) (YF.pu (by rfl) (fun _ => run_eq_of ?run) (fun _ => by simp [go_sem, *])) ⟨H.sub (A := [_]) (List.Sublist.cons _ (List.Sublist.cons_cons _ (List.nil_sublist _))), hr⟩
        case run => intro K hK; go_simp; exact hK
        try walk_nrm
        co_applyP AnyF.take Sd.rely (i := 3) rfl (by kernel_rfl) (by kernel_rfl) (by kernel_rfl) (YF.ld1 0 4 (by rfl) rfl (by rfl) rfl rfl rfl Try.underlying102 rfl) ⟨H.sub (A := [_]) (List.Sublist.cons _ (List.Sublist.cons_cons _ (List.nil_sublist _))), hr⟩
        try walk_nrm
        co_applyP AnyF.take Sd.rely (i := 4) rfl (by kernel_rfl) (by kernel_rfl) (by kernel_rfl) (YF.pu (by rfl) (fun _ => run_eq_of ?run) (fun _ => by simp [go_sem, *])) ⟨H.sub (A := [_]) (List.Sublist.cons _ (List.Sublist.cons_cons _ (List.nil_sublist _))), hr⟩
        case run => intro K hK; go_simp; exact hK
        try walk_nrm
        co_applyP AnyF.take Sd.rely (i := 5) rfl (by kernel_rfl) (by kernel_rfl) (by kernel_rfl) (YF.pu (by rfl) (fun _ => run_eq_of ?run) (fun _ => by simp [go_sem, *])) ⟨H.sub (A := [_]) (List.Sublist.cons _ (List.Sublist.cons_cons _ (List.nil_sublist _))), hr⟩
        case run => intro K hK; go_simp; exact hK
        try walk_nrm
        co_applyP AnyF.take Sd.rely (i := 6) rfl (by kernel_rfl) (by kernel_rfl) (by kernel_rfl) (YF.pu (by rfl) (fun _ => run_eq_of ?run) (fun _ => by simp [go_sem, *])) ⟨H.sub (A := [_]) (List.Sublist.cons _ (List.Sublist.cons_cons _ (List.nil_sublist _))), hr⟩
        case run => intro K hK; go_simp; exact hK
        try walk_nrm
        co_applyP AnyF.take Sd.rely (i := 7) rfl (by kernel_rfl) (by kernel_rfl) (by kernel_rfl) (YF.ld1 0 3 (by rfl) rfl (by rfl) rfl rfl rfl Try.underlying102 rfl) ⟨H.sub (A := [_]) (List.Sublist.cons _ (List.Sublist.cons_cons _ (List.nil_sublist _))), hr⟩
        try walk_nrm
        co_applyP AnyF.take Sd.rely (i := 8) rfl (by kernel_rfl) (by kernel_rfl) (by kernel_rfl) (YF.pu (by rfl) (fun _ => run_eq_of ?run) (fun _ => by simp [go_sem, *])) ⟨H.sub (A := [_]) (List.Sublist.cons _ (List.Sublist.cons_cons _ (List.nil_sublist _))), hr⟩
        case run => intro K hK; go_simp; exact hK
        try walk_nrm
        co_apply AnyF.done (by kernel_rfl)
        intro K hK1 w hr1
        replace H := H.rely hr1
        replace hKs := Nat.le_trans hK1 hKs
        clear hr1 hK1
        simp only [thenF]
        co_apply WF.cond (t := false) rfl
        simp only [Bool.false_eq_true, ↓reduceIte]
        co_apply WF.skip
        simp only [thenF]
        co_apply WF.region
        try simp only [List.size_toArray, List.length_cons, List.length_nil, Nat.reduceAdd, Nat.zero_add, List.range, List.range.loop]
        co_applyP OF.pu rfl (by rfl) (fun _ => run_eq_of ?run) (fun _ => by simp [go_sem, *])
        case run => intro K hK; go_simp; exact hK
        try walk_nrm
        co_applyP OF.pu rfl (by rfl) (fun _ => run_eq_of ?run) (fun _ => by simp [go_sem, *])
        case run => intro K hK; go_simp; exact hK
        try walk_nrm
        co_applyP OF.pu rfl (by rfl) (fun _ => run_eq_of ?run) (fun _ => by simp [go_sem, *])
        case run => intro K hK; go_simp; exact hK
        try walk_nrm
        co_applyP OF.st1 1 5 rfl (by rfl) rfl H hq rfl rfl rfl rfl rfl (by kernel_rfl)
        intro K w₁ w hK1 hr1 hu1 H1
        replace H := H1
        replace hKs := Nat.le_trans hK1 hKs
        clear hr1 hK1 hu1 H1
        simp only [List.set_cons_zero, List.set_cons_succ, List.setIfInBounds_toArray] at H
        try walk_nrm
        co_apply OF.nil
        exact retG_of rfl (resultsC_none (by rfl) _) (fun K₂ hK₂ w₂ r₂ => ⟨K₁, u, by omega, hu, rfl, hg, (H.rely r₂).tail⟩)
    · skip
      co_applyP OpF.al rfl (by rfl) H (fun _ => run_eq_of ?run) (fun _ => by simp [go_sem, *])
      case run => intro K hK; go_simp; exact hK
      intro K y' w b2 hK1 hg1 H1
      replace hg := hg.trans hg1
      replace hr := hg1.role.trans hr
      have hq1 : y'.role.quiet = false := by rw [hr]; rfl
      replace hq := hq1
      replace H := H1
      replace hKs := Nat.le_trans hK1 hKs
      clear hg1 H1 hq1 hK1
      try walk_nrm
      refine ⟨⟨H.sub (A := [_]) (List.Sublist.cons _ (List.Sublist.cons_cons _ (List.nil_sublist _))), hr⟩, ?_⟩
      try walk_nrm
      refine AnyF.all (rs := [24]) (by kernel_rfl) (by simp) ?_
      intro i hi
      simp only [List.mem_cons, List.not_mem_nil, or_false] at hi
      subst hi
      co_applyP OpF.cJ rfl (by rfl) rfl Try.func44 (by kernel_rfl) (by kernel_rfl) H
      intro K₀ w₁ hK0 H0
      co_apply Exists.intro
      co_apply And.intro
      · walk_nrm
        exact (hview (u + 1) true (by omega) H0 hq).more (by omega)
      rintro _ K y' w hK2 ⟨rfl, hg1, H1⟩
      have hK1 := Nat.le_trans hK2 hK0
      clear hK2 hK0 H0
      replace hg := hg.trans hg1
      replace hr := hg1.role.trans hr
      have hq1 : y'.role.quiet = false := by rw [hr]; rfl
      replace hq := hq1
      replace H := H1
      replace hKs := Nat.le_trans hK1 hKs
      clear hg1 H1 hq1 hK1
      try walk_nrm
      refine ⟨⟨H.sub (A := [_]) (List.Sublist.cons _ (List.Sublist.cons_cons _ (List.nil_sublist _))), hr⟩, ?_⟩
      try walk_nrm
      refine AnyF.all (rs := [25]) (by kernel_rfl) (by simp) ?_
      intro i hi
      simp only [List.mem_cons, List.not_mem_nil, or_false] at hi
      subst hi
      co_applyP OpF.cV rfl (by rfl) rfl rfl Try.func80 (by kernel_rfl) (by kernel_rfl) H
      intro K₀ w₁ hK0 H0
      co_apply Exists.intro
      co_apply And.intro
      · walk_nrm
        exact (hdeed _ u (by omega) H0 hq).more (by omega)
      rintro _ K y' w hK2 ⟨rfl, hg1, H1⟩
      have hK1 := Nat.le_trans hK2 hK0
      clear hK2 hK0 H0
      replace hg := hg.trans hg1
      replace hr := hg1.role.trans hr
      have hq1 : y'.role.quiet = false := by rw [hr]; rfl
      replace hq := hq1
      replace H := H1
      replace hKs := Nat.le_trans hK1 hKs
      clear hg1 H1 hq1 hK1
      try walk_nrm
      refine ⟨⟨H.sub (A := [_]) (List.Sublist.cons _ (List.Sublist.cons_cons _ (List.nil_sublist _))), hr⟩, ?_⟩
      try walk_nrm
      co_applyP AnyF.take Sd.rely (i := 26) rfl (by kernel_rfl) (by kernel_rfl) (by kernel_rfl) (YF.pu (by rfl) (fun _ => run_eq_of ?run) (fun _ => by simp [go_sem, *])) ⟨H.sub (A := [_]) (List.Sublist.cons _ (List.Sublist.cons_cons _ (List.nil_sublist _))), hr⟩
      case run => intro K hK; go_simp; exact hK
      try walk_nrm
      co_applyP AnyF.take Sd.rely (i := 27) rfl (by kernel_rfl) (by kernel_rfl) (by kernel_rfl) (YF.pu (by rfl) (fun _ => run_eq_of ?run) (fun _ => by simp [go_sem, *])) ⟨H.sub (A := [_]) (List.Sublist.cons _ (List.Sublist.cons_cons _ (List.nil_sublist _))), hr⟩
      case run => intro K hK; go_simp; exact hK
      try walk_nrm
      co_applyP AnyF.take Sd.rely (i := 28) rfl (by kernel_rfl) (by kernel_rfl) (by kernel_rfl) (YF.pu (by rfl) (fun _ => run_eq_of ?run) (fun _ => by simp [go_sem, *])) ⟨H.sub (A := [_]) (List.Sublist.cons _ (List.Sublist.cons_cons _ (List.nil_sublist _))), hr⟩
      case run => intro K hK; go_simp; exact hK
      try walk_nrm
      refine AnyF.all (rs := [30]) (by kernel_rfl) (by simp) ?_
      intro i hi
      simp only [List.mem_cons, List.not_mem_nil, or_false] at hi
      subst hi
      co_applyP OpF.str 0 rfl (by rfl) rfl H hq rfl rfl rfl (by kernel_rfl) (by rfl) (by kernel_rfl)
      intro K w hK1 H1
      replace H := H1
      replace hKs := Nat.le_trans hK1 hKs
      clear hK1 H1
      simp only [List.set_cons_zero] at H
      refine ⟨⟨H.sub (A := [_]) (List.Sublist.cons _ (List.Sublist.cons_cons _ (List.nil_sublist _))), hr⟩, ?_⟩
      try walk_nrm
      co_applyP AnyF.take Sd.rely (i := 31) rfl (by kernel_rfl) (by kernel_rfl) (by kernel_rfl) (YF.pu (by rfl) (fun _ => run_eq_of ?run) (fun _ => by simp [go_sem, *])) ⟨H.sub (A := [_]) (List.Sublist.cons _ (List.Sublist.cons_cons _ (List.nil_sublist _))), hr⟩
      case run => intro K hK; go_simp; exact hK
      try walk_nrm
      co_apply AnyF.done (by kernel_rfl)
      intro K hK1 w hr1
      replace H := H.rely hr1
      replace hKs := Nat.le_trans hK1 hKs
      clear hr1 hK1
      simp only [thenF]
      co_apply WF.seqP
      co_apply WF.region
      try simp only [List.size_toArray, List.length_cons, List.length_nil, Nat.reduceAdd, Nat.zero_add, List.range, List.range.loop]
      co_applyP OF.pu rfl (by rfl) (fun _ => run_eq_of ?run) (fun _ => by simp [go_sem, *])
      case run => intro K hK; go_simp; exact hK
      try walk_nrm
      co_applyP OF.ldr 0 rfl (by rfl) rfl H hq rfl rfl Try.underlying38 rfl (by kernel_rfl)
      intro K w hK1 hr1 H1
      replace H := H1
      replace hKs := Nat.le_trans hK1 hKs
      clear hr1 hK1 H1
      try walk_nrm
      co_applyP OF.callJ rfl (by rfl) rfl
      · walk_nrm
        exact hpacked u (by omega) H hq
      rintro _ K y' w hK1 ⟨rfl, hg1, H1⟩
      replace hg := hg.trans hg1
      replace hr := hg1.role.trans hr
      have hq1 : y'.role.quiet = false := by rw [hr]; rfl
      replace hq := hq1
      replace H := H1
      replace hKs := Nat.le_trans hK1 hKs
      clear hg1 H1 hq1 hK1
      try walk_nrm
      co_applyP OF.pu rfl (by rfl) (fun _ => run_eq_of ?run) (fun _ => by simp [go_sem, *])
      case run => intro K hK; go_simp; exact hK
      try walk_nrm
      co_applyP OF.pu rfl (by rfl) (fun _ => run_eq_of ?run) (fun _ => by simp [go_sem, *])
      case run => intro K hK; go_simp; exact hK
      try walk_nrm
      co_applyP OF.st1 1 4 rfl (by rfl) rfl H hq rfl rfl rfl rfl rfl (by kernel_rfl)
      intro K w₁ w hK1 hr1 hu1 H1
      replace H := H1
      replace hKs := Nat.le_trans hK1 hKs
      clear hr1 hK1 hu1 H1
      simp only [List.set_cons_zero, List.set_cons_succ, List.setIfInBounds_toArray] at H
      try walk_nrm
      co_apply OF.nil
      simp only [thenF]
      co_apply WF.seqP
      co_apply WF.seqP
      have hne : ((wdv (u : Int) true).num == (wdv (((u + 1) : Nat) : Int) true).num) = false := by
        have : ¬ (wdv (u : Int) true).num = (wdv (((u + 1) : Nat) : Int) true).num := fun he => by have := (wdv_inj (by omega) (by omega) he).1; omega
        simpa using this
      have hne2 : ((wdv (u : Int) true).num == (wdv ((u : Int) + 1 : Int) true).num) = false := hne
      co_apply WF.drawnB B (nd + nv + ng) (Sd N _ _ _) (by simp only [List.size_toArray, List.length_cons, List.length_nil, Nat.reduceAdd, Nat.zero_add]; omega) (by kernel_rfl)
      intro K hK1 w₀ hr1
      replace H := (H.rely hr1).drew
      replace hKs := Nat.le_trans hK1 hKs
      clear hr1 hK1
      generalize ({ w₀ with drawn := w₀.drawn + 1 } : World) = w at H ⊢
      try simp only [List.size_toArray, List.length_cons, List.length_nil, Nat.reduceAdd, Nat.zero_add]
      co_applyP AnyF.take Sd.rely (i := 0) rfl (by kernel_rfl) (by kernel_rfl) (by kernel_rfl) (YF.pu (by rfl) (fun _ => run_eq_of ?run) (fun _ => by simp [go_sem, *])) ⟨H.sub (A := [_]) (List.Sublist.cons _ (List.Sublist.cons_cons _ (List.nil_sublist _))), hr⟩
      case run => intro K hK; go_simp; exact hK
      try walk_nrm
      co_applyP AnyF.take Sd.rely (i := 1) rfl (by kernel_rfl) (by kernel_rfl) (by kernel_rfl) (YF.pu (by rfl) (fun _ => run_eq_of ?run) (fun _ => by simp [go_sem, *])) ⟨H.sub (A := [_]) (List.Sublist.cons _ (List.Sublist.cons_cons _ (List.nil_sublist _))), hr⟩
      case run => intro K hK; go_simp; exact hK
      try walk_nrm
      co_applyP AnyF.take Sd.rely (i := 2) rfl (by kernel_rfl) (by kernel_rfl) (by kernel_rfl) (YF.pu (by rfl) (fun _ => run_eq_of ?run) (fun _ => by simp [go_sem, *])) ⟨H.sub (A := [_]) (List.Sublist.cons _ (List.Sublist.cons_cons _ (List.nil_sublist _))), hr⟩
      case run => intro K hK; go_simp; exact hK
      try walk_nrm
      co_applyP AnyF.take Sd.rely (i := 3) rfl (by kernel_rfl) (by kernel_rfl) (by kernel_rfl) (YF.ld1 0 4 (by rfl) rfl (by rfl) rfl rfl rfl Try.underlying102 rfl) ⟨H.sub (A := [_]) (List.Sublist.cons _ (List.Sublist.cons_cons _ (List.nil_sublist _))), hr⟩
      try walk_nrm
      co_applyP AnyF.take Sd.rely (i := 4) rfl (by kernel_rfl) (by kernel_rfl) (by kernel_rfl) (YF.pu (by rfl) (fun _ => run_eq_of ?run) (fun _ => by simp [go_sem, *])) ⟨H.sub (A := [_]) (List.Sublist.cons _ (List.Sublist.cons_cons _ (List.nil_sublist _))), hr⟩
      case run => intro K hK; go_simp; exact hK
      try walk_nrm
      co_applyP AnyF.take Sd.rely (i := 5) rfl (by kernel_rfl) (by kernel_rfl) (by kernel_rfl) (YF.pu (by rfl) (fun _ => run_eq_of ?run) (fun _ => by simp [go_sem, *])) ⟨H.sub (A := [_]) (List.Sublist.cons _ (List.Sublist.cons_cons _ (List.nil_sublist _))), hr⟩
      case run => intro K hK; go_simp; exact hK
      try walk_nrm
      co_applyP AnyF.take Sd.rely (i := 6) rfl (by kernel_rfl) (by kernel_rfl) (by kernel_rfl) (YF.pu (by rfl) (fun _ => run_eq_of ?run) (fun _ => by simp [go_sem, *])) ⟨H.sub (A := [_]) (List.Sublist.cons _ (List.Sublist.cons_cons _ (List.nil_sublist _))), hr⟩
      case run => intro K hK; go_simp; exact hK
      try walk_nrm
      co_applyP AnyF.take Sd.rely (i := 7) rfl (by kernel_rfl) (by kernel_rfl) (by kernel_rfl) (YF.ld1 0 3 (by rfl) rfl (by rfl) rfl rfl rfl Try.underlying102 rfl) ⟨H.sub (A := [_]) (List.Sublist.cons _ (List.Sublist.cons_cons _ (List.nil_sublist _))), hr⟩
      try walk_nrm
      co_applyP AnyF.take Sd.rely (i := 8) rfl (by kernel_rfl) (by kernel_rfl) (by kernel_rfl) (YF.pu (by rfl) (fun _ => run_eq_of ?run) (fun _ => by simp [go_sem, *])) ⟨H.sub (A := [_]) (List.Sublist.cons _ (List.Sublist.cons_cons _ (List.nil_sublist _))), hr⟩
      case run => intro K hK; go_simp; exact hK
      try walk_nrm
      co_apply AnyF.done (by kernel_rfl)
      intro K hK1 w hr1
      replace H := H.rely hr1
      replace hKs := Nat.le_trans hK1 hKs
      clear hr1 hK1
      simp only [thenF]
      co_apply WF.cond (t := false) rfl
      simp only [Bool.false_eq_true, ↓reduceIte]
      co_apply WF.skip
      simp only [thenF]
      co_apply WF.region
      try simp only [List.size_toArray, List.length_cons, List.length_nil, Nat.reduceAdd, Nat.zero_add, List.range, List.range.loop]
      co_applyP OF.pu rfl (by rfl) (fun _ => run_eq_of ?run) (fun _ => by simp [go_sem, *])
      case run => intro K hK; go_simp; exact hK
      try walk_nrm
      co_applyP OF.pu rfl (by rfl) (fun _ => run_eq_of ?run) (fun _ => by simp [go_sem, *])
      case run => intro K hK; go_simp; exact hK
      try walk_nrm
      co_applyP OF.pu rfl (by rfl) (fun _ => run_eq_of ?run) (fun _ => by simp [go_sem, *])
      case run => intro K hK; go_simp; exact hK
      try walk_nrm
      co_applyP OF.st1 1 5 rfl (by rfl) rfl H hq rfl rfl rfl rfl rfl (by kernel_rfl)
      intro K w₁ w hK1 hr1 hu1 H1
      replace H := H1
      replace hKs := Nat.le_trans hK1 hKs
      clear hr1 hK1 hu1 H1
      simp only [List.set_cons_zero, List.set_cons_succ, List.setIfInBounds_toArray] at H
      try walk_nrm
      co_apply OF.nil
      exact retG_of rfl (resultsC_none (by rfl) _) (fun K₂ hK₂ w₂ r₂ => ⟨K₁, u, by omega, hu, rfl, hg, (H.rely r₂).tail⟩)
  · skip
    co_applyP OpF.al rfl (by rfl) H (fun _ => run_eq_of ?run) (fun _ => by simp [go_sem, *])
    case run => intro K hK; go_simp; exact hK
    intro K y' w b2 hK1 hg1 H1
    replace hg := hg.trans hg1
    replace hr := hg1.role.trans hr
    have hq1 : y'.role.quiet = false := by rw [hr]; rfl
    replace hq := hq1
    replace H := H1
    replace hKs := Nat.le_trans hK1 hKs
    clear hg1 H1 hq1 hK1
    try walk_nrm
    refine ⟨⟨H.sub (A := [_]) (List.Sublist.cons _ (List.Sublist.cons_cons _ (List.nil_sublist _))), hr⟩, ?_⟩
    try walk_nrm
    refine AnyF.all (rs := [0]) (by kernel_rfl) (by simp) ?_
    intro i hi
    simp only [List.mem_cons, List.not_mem_nil, or_false] at hi
    subst hi
    co_applyP OpF.cJ rfl (by rfl) rfl Try.func60 (by kernel_rfl) (by kernel_rfl) H
    intro K₀ w₁ hK0 H0
    co_apply Exists.intro
    co_apply And.intro
    · walk_nrm
      exact (hdeeds H0 hq).more (by omega)
    rintro _ K y' w hK2 ⟨rfl, hg1, H1⟩
    have hK1 := Nat.le_trans hK2 hK0
    clear hK2 hK0 H0
    replace hg := hg.trans hg1
    replace hr := hg1.role.trans hr
    have hq1 : y'.role.quiet = false := by rw [hr]; rfl
    replace hq := hq1
    replace H := H1
    replace hKs := Nat.le_trans hK1 hKs
    clear hg1 H1 hq1 hK1
    try walk_nrm
    refine ⟨⟨H.sub (A := [_]) (List.Sublist.cons _ (List.Sublist.cons_cons _ (List.nil_sublist _))), hr⟩, ?_⟩
    try walk_nrm
    co_applyP AnyF.take Sd.rely (i := 6) rfl (by kernel_rfl) (by kernel_rfl) (by kernel_rfl) (YF.pu (v := .agg #[.func (.func 80) #[] #[]]) (by rfl) (fun _ => by kernel_rfl) (fun _ => by kernel_rfl)) ⟨H.sub (A := [_]) (List.Sublist.cons _ (List.Sublist.cons_cons _ (List.nil_sublist _))), hr⟩
    try walk_nrm
    co_applyP AnyF.take Sd.rely (i := 7) rfl (by kernel_rfl) (by kernel_rfl) (by kernel_rfl) (YF.pu (v := .func (.func 80) #[] #[]) (by rfl) (fun _ => by kernel_rfl) (fun _ => by kernel_rfl)) ⟨H.sub (A := [_]) (List.Sublist.cons _ (List.Sublist.cons_cons _ (List.nil_sublist _))), hr⟩
    try walk_nrm
    refine AnyF.all (rs := [24]) (by kernel_rfl) (by simp) ?_
    intro i hi
    simp only [List.mem_cons, List.not_mem_nil, or_false] at hi
    subst hi
    co_applyP OpF.cJ rfl (by rfl) rfl Try.func44 (by kernel_rfl) (by kernel_rfl) H
    intro K₀ w₁ hK0 H0
    co_apply Exists.intro
    co_apply And.intro
    · walk_nrm
      exact (hview (u + 1) true (by omega) H0 hq).more (by omega)
    rintro _ K y' w hK2 ⟨rfl, hg1, H1⟩
    have hK1 := Nat.le_trans hK2 hK0
    clear hK2 hK0 H0
    replace hg := hg.trans hg1
    replace hr := hg1.role.trans hr
    have hq1 : y'.role.quiet = false := by rw [hr]; rfl
    replace hq := hq1
    replace H := H1
    replace hKs := Nat.le_trans hK1 hKs
    clear hg1 H1 hq1 hK1
    try walk_nrm
    refine ⟨⟨H.sub (A := [_]) (List.Sublist.cons _ (List.Sublist.cons_cons _ (List.nil_sublist _))), hr⟩, ?_⟩
    try walk_nrm
    refine AnyF.all (rs := [25]) (by kernel_rfl) (by simp) ?_
    intro i hi
    simp only [List.mem_cons, List.not_mem_nil, or_false] at hi
    subst hi
    co_applyP OpF.cV rfl (by rfl) rfl rfl Try.func80 (by kernel_rfl) (by kernel_rfl) H
    intro K₀ w₁ hK0 H0
    co_apply Exists.intro
    co_apply And.intro
    · walk_nrm
      exact (hdeed _ u (by omega) H0 hq).more (by omega)
    rintro _ K y' w hK2 ⟨rfl, hg1, H1⟩
    have hK1 := Nat.le_trans hK2 hK0
    clear hK2 hK0 H0
    replace hg := hg.trans hg1
    replace hr := hg1.role.trans hr
    have hq1 : y'.role.quiet = false := by rw [hr]; rfl
    replace hq := hq1
    replace H := H1
    replace hKs := Nat.le_trans hK1 hKs
    clear hg1 H1 hq1 hK1
    try walk_nrm
    refine ⟨⟨H.sub (A := [_]) (List.Sublist.cons _ (List.Sublist.cons_cons _ (List.nil_sublist _))), hr⟩, ?_⟩
    try walk_nrm
    co_applyP AnyF.take Sd.rely (i := 26) rfl (by kernel_rfl) (by kernel_rfl) (by kernel_rfl) (YF.pu (by rfl) (fun _ => run_eq_of ?run) (fun _ => by simp [go_sem, *])) ⟨H.sub (A := [_]) (List.Sublist.cons _ (List.Sublist.cons_cons _ (List.nil_sublist _))), hr⟩
    case run => intro K hK; go_simp; exact hK
    try walk_nrm
    co_applyP AnyF.take Sd.rely (i := 27) rfl (by kernel_rfl) (by kernel_rfl) (by kernel_rfl) (YF.pu (by rfl) (fun _ => run_eq_of ?run) (fun _ => by simp [go_sem, *])) ⟨H.sub (A := [_]) (List.Sublist.cons _ (List.Sublist.cons_cons _ (List.nil_sublist _))), hr⟩
    case run => intro K hK; go_simp; exact hK
    try walk_nrm
    co_applyP AnyF.take Sd.rely (i := 28) rfl (by kernel_rfl) (by kernel_rfl) (by kernel_rfl) (YF.pu (by rfl) (fun _ => run_eq_of ?run) (fun _ => by simp [go_sem, *])) ⟨H.sub (A := [_]) (List.Sublist.cons _ (List.Sublist.cons_cons _ (List.nil_sublist _))), hr⟩
    case run => intro K hK; go_simp; exact hK
    try walk_nrm
    refine AnyF.all (rs := [30]) (by kernel_rfl) (by simp) ?_
    intro i hi
    simp only [List.mem_cons, List.not_mem_nil, or_false] at hi
    subst hi
    co_applyP OpF.str 0 rfl (by rfl) rfl H hq rfl rfl rfl (by kernel_rfl) (by rfl) (by kernel_rfl)
    intro K w hK1 H1
    replace H := H1
    replace hKs := Nat.le_trans hK1 hKs
    clear hK1 H1
    simp only [List.set_cons_zero] at H
    refine ⟨⟨H.sub (A := [_]) (List.Sublist.cons _ (List.Sublist.cons_cons _ (List.nil_sublist _))), hr⟩, ?_⟩
    try walk_nrm
    co_applyP AnyF.take Sd.rely (i := 31) rfl (by kernel_rfl) (by kernel_rfl) (by kernel_rfl) (YF.pu (by rfl) (fun _ => run_eq_of ?run) (fun _ => by simp [go_sem, *])) ⟨H.sub (A := [_]) (List.Sublist.cons _ (List.Sublist.cons_cons _ (List.nil_sublist _))), hr⟩
    case run => intro K hK; go_simp; exact hK
    try walk_nrm
    co_apply AnyF.done (by kernel_rfl)
    intro K hK1 w hr1
    replace H := H.rely hr1
    replace hKs := Nat.le_trans hK1 hKs
    clear hr1 hK1
    simp only [thenF]
    co_apply WF.seqP
    co_apply WF.region
    try simp only [List.size_toArray, List.length_cons, List.length_nil, Nat.reduceAdd, Nat.zero_add, List.range, List.range.loop]
    co_applyP OF.pu rfl (by rfl) (fun _ => run_eq_of ?run) (fun _ => by simp [go_sem, *])
    case run => intro K hK; go_simp; exact hK
    try walk_nrm
    co_applyP OF.ldr 0 rfl (by rfl) rfl H hq rfl rfl Try.underlying38 rfl (by kernel_rfl)
    intro K w hK1 hr1 H1
    replace H := H1
    replace hKs := Nat.le_trans hK1 hKs
    clear hr1 hK1 H1
    try walk_nrm
    co_applyP OF.callJ rfl (by rfl) rfl
    · walk_nrm
      exact hpacked u (by omega) H hq
    rintro _ K y' w hK1 ⟨rfl, hg1, H1⟩
    replace hg := hg.trans hg1
    replace hr := hg1.role.trans hr
    have hq1 : y'.role.quiet = false := by rw [hr]; rfl
    replace hq := hq1
    replace H := H1
    replace hKs := Nat.le_trans hK1 hKs
    clear hg1 H1 hq1 hK1
    try walk_nrm
    co_applyP OF.pu rfl (by rfl) (fun _ => run_eq_of ?run) (fun _ => by simp [go_sem, *])
    case run => intro K hK; go_simp; exact hK
    try walk_nrm
    co_applyP OF.pu rfl (by rfl) (fun _ => run_eq_of ?run) (fun _ => by simp [go_sem, *])
    case run => intro K hK; go_simp; exact hK
    try walk_nrm
    co_applyP OF.st1 1 4 rfl (by rfl) rfl H hq rfl rfl rfl rfl rfl (by kernel_rfl)
    intro K w₁ w hK1 hr1 hu1 H1
    replace H := H1
    replace hKs := Nat.le_trans hK1 hKs
    clear hr1 hK1 hu1 H1
    simp only [List.set_cons_zero, List.set_cons_succ, List.setIfInBounds_toArray] at H
    try walk_nrm
    co_apply OF.nil
    simp only [thenF]
    co_apply WF.seqP
    co_apply WF.seqP
    have hne : ((wdv (u : Int) true).num == (wdv (((u + 1) : Nat) : Int) true).num) = false := by
      have : ¬ (wdv (u : Int) true).num = (wdv (((u + 1) : Nat) : Int) true).num := fun he => by have := (wdv_inj (by omega) (by omega) he).1; omega
      simpa using this
    have hne2 : ((wdv (u : Int) true).num == (wdv ((u : Int) + 1 : Int) true).num) = false := hne
    co_apply WF.drawnB B (nd + nv + ng) (Sd N _ _ _) (by simp only [List.size_toArray, List.length_cons, List.length_nil, Nat.reduceAdd, Nat.zero_add]; omega) (by kernel_rfl)
    intro K hK1 w₀ hr1
    replace H := (H.rely hr1).drew
    replace hKs := Nat.le_trans hK1 hKs
    clear hr1 hK1
    generalize ({ w₀ with drawn := w₀.drawn + 1 } : World) = w at H ⊢
    try simp only [List.size_toArray, List.length_cons, List.length_nil, Nat.reduceAdd, Nat.zero_add]
    co_applyP AnyF.take Sd.rely (i := 0) rfl (by kernel_rfl) (by kernel_rfl) (by kernel_rfl) (YF.pu (by rfl) (fun _ => run_eq_of ?run) (fun _ => by simp [go_sem, *])) ⟨H.sub (A := [_]) (List.Sublist.cons _ (List.Sublist.cons_cons _ (List.nil_sublist _))), hr⟩
    case run => intro K hK; go_simp; exact hK
    try walk_nrm
    co_applyP AnyF.take Sd.rely (i := 1) rfl (by kernel_rfl) (by kernel_rfl) (by kernel_rfl) (YF.pu (by rfl) (fun _ => run_eq_of ?run) (fun _ => by simp [go_sem, *])) ⟨H.sub (A := [_]) (List.Sublist.cons _ (List.Sublist.cons_cons _ (List.nil_sublist _))), hr⟩
    case run => intro K hK; go_simp; exact hK
    try walk_nrm
    co_applyP AnyF.take Sd.rely (i := 2) rfl (by kernel_rfl) (by kernel_rfl) (by kernel_rfl) (YF.pu (by rfl) (fun _ => run_eq_of ?run) (fun _ => by simp [go_sem, *])) ⟨H.sub (A := [_]) (List.Sublist.cons _ (List.Sublist.cons_cons _ (List.nil_sublist _))), hr⟩
    case run => intro K hK; go_simp; exact hK
    try walk_nrm
    co_applyP AnyF.take Sd.rely (i := 3) rfl (by kernel_rfl) (by kernel_rfl) (by kernel_rfl) (YF.ld1 0 4 (by rfl) rfl (by rfl) rfl rfl rfl Try.underlying102 rfl) ⟨H.sub (A := [_]) (List.Sublist.cons _ (List.Sublist.cons_cons _ (List.nil_sublist _))), hr⟩
    try walk_nrm
    co_applyP AnyF.take Sd.rely (i := 4) rfl (by kernel_rfl) (by kernel_rfl) (by kernel_rfl) (YF.pu (by rfl) (fun _ => run_eq_of ?run) (fun _ => by simp [go_sem, *])) ⟨H.sub (A := [_]) (List.Sublist.cons _ (List.Sublist.cons_cons _ (List.nil_sublist _))), hr⟩
    case run => intro K hK; go_simp; exact hK
    try walk_nrm
    co_applyP AnyF.take Sd.rely (i := 5) rfl (by kernel_rfl) (by kernel_rfl) (by kernel_rfl) (YF.pu (by rfl) (fun _ => run_eq_of ?run) (fun _ => by simp [go_sem, *])) ⟨H.sub (A := [_]) (List.Sublist.cons _ (List.Sublist.cons_cons _ (List.nil_sublist _))), hr⟩
    case run => intro K hK; go_simp; exact hK
    try walk_nrm
    co_applyP AnyF.take Sd.rely (i := 6) rfl (by kernel_rfl) (by kernel_rfl) (by kernel_rfl) (YF.pu (by rfl) (fun _ => run_eq_of ?run) (fun _ => by simp [go_sem, *])) ⟨H.sub (A := [_]) (List.Sublist.cons _ (List.Sublist.cons_cons _ (List.nil_sublist _))), hr⟩
    case run => intro K hK; go_simp; exact hK
    try walk_nrm
    co_applyP AnyF.take Sd.rely (i := 7) rfl (by kernel_rfl) (by kernel_rfl) (by kernel_rfl) (YF.ld1 0 3 (by rfl) rfl (by rfl) rfl rfl rfl Try.underlying102 rfl) ⟨H.sub (A := [_]) (List.Sublist.cons _ (List.Sublist.cons_cons _ (List.nil_sublist _))), hr⟩
    try walk_nrm
    co_applyP AnyF.take Sd.rely (i := 8) rfl (by kernel_rfl) (by kernel_rfl) (by kernel_rfl) (YF.pu (by rfl) (fun _ => run_eq_of ?run) (fun _ => by simp [go_sem, *])) ⟨H.sub (A := [_]) (List.Sublist.cons _ (List.Sublist.cons_cons _ (List.nil_sublist _))), hr⟩
    case run => intro K hK; go_simp; exact hK
    try walk_nrm
    co_apply AnyF.done (by kernel_rfl)
    intro K hK1 w hr1
    replace H := H.rely hr1
    replace hKs := Nat.le_trans hK1 hKs
    clear hr1 hK1
    simp only [thenF]
    co_apply WF.cond (t := false) rfl
    simp only [Bool.false_eq_true, ↓reduceIte]
    co_apply WF.skip
    simp only [thenF]
    co_apply WF.region
    try simp only [List.size_toArray, List.length_cons, List.length_nil, Nat.reduceAdd, Nat.zero_add, List.range, List.range.loop]
    co_applyP OF.pu rfl (by rfl) (fun _ => run_eq_of ?run) (fun _ => by simp [go_sem, *])
    case run => intro K hK; go_simp; exact hK
    try walk_nrm
    co_applyP OF.pu rfl (by rfl) (fun _ => run_eq_of ?run) (fun _ => by simp [go_sem, *])
    case run => intro K hK; go_simp; exact hK
    try walk_nrm
    co_applyP OF.pu rfl (by rfl) (fun _ => run_eq_of ?run) (fun _ => by simp [go_sem, *])
    case run => intro K hK; go_simp; exact hK
    try walk_nrm
    co_applyP OF.st1 1 5 rfl (by rfl) rfl H hq rfl rfl rfl rfl rfl (by kernel_rfl)
    intro K w₁ w hK1 hr1 hu1 H1
    replace H := H1
    replace hKs := Nat.le_trans hK1 hKs
    clear hr1 hK1 hu1 H1
    simp only [List.set_cons_zero, List.set_cons_succ, List.setIfInBounds_toArray] at H
    try walk_nrm
    co_apply OF.nil
    exact retG_of rfl (resultsC_none (by rfl) _) (fun K₂ hK₂ w₂ r₂ => ⟨K₁, u, by omega, hu, rfl, hg, (H.rely r₂).tail⟩)

end Go.Proofs.Ytgnhddnhcfmipaa.Ids
