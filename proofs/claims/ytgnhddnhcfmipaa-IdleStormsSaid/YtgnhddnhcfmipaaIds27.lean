/- IdleStorms: Wait in a storm. Printed by wip/tools/gen_ids27.py. -/
import Derived.Test.YtgnhddnhcfmipaaIds26
namespace Go.Proofs.Ytgnhddnhcfmipaa.Ids
open Go Go.Conc Go.RowKit Go.Proofs.Ytgnhddnhcfmipaa.Eg Go.Proofs.Ytgnhddnhcfmipaa Go.ConcR.Gen

/-- The group's count as it was seen. -/
def SeenG (c : Cfg) (K₁ n : Nat) (K : Nat) (w : World) : Prop := K ≤ K₁ ∧ (K = K₁ → w.heap[c.wg]? = some (grO ((n : Nat) * 4294967296) 0))
theorem SeenG.keeps (c : Cfg) (k : Nat) (K₁ n : Nat) : Keeps (.boss c (.op k false)) (SeenG c K₁ n) := by
  refine ⟨fun y K K' w w' hr hR hs => ?_, fun y K w w' hr hst hw hs => ?_⟩
  · unfold R at hR
    rw [if_neg (by rw [hr]; simp [Role.solo])] at hR
    obtain ⟨h1, h2, h3, h4, h5⟩ := hR
    refine ⟨Nat.le_trans h1 hs.1, fun e => ?_⟩
    have e1 : K' = K := by have := hs.1; omega
    have := h5 e1
    rw [hr] at this
    exact (this : w'.heap[c.wg]? = w.heap[c.wg]?).trans (hs.2 (by omega))
  · refine ⟨hs.1, fun e => ?_⟩
    obtain ⟨hb, ap⟩ := hst.boss hr
    obtain ⟨s, m, hg⟩ := hb.grp
    rw [hw c.wg (lt_of_some hg) fun ho => (ap _ ho).2.2.2 rfl]
    exact hs.2 e

section
variable {N : Nat} {F : Nat → World → Prop} {m : Bool} {fn : FuncId} {Q : PostF (S N)} {K K' n : Nat} {y : Gh Role} {a : Act} {w : World} {l : List Row} {c : Cfg} {ops : Array Oper} {i : Nat} {rest : List Nat} {o : Oper}
theorem StB.opn {k : Nat} (h : StB c (.op k false) w) : ∃ n : Nat, n ≤ 16 ∧ w.heap[c.wg]? = some (grO ((n : Nat) * 4294967296) 0) ∧ (n = 0 → 0 < k → StB c .free w) ∧ (∀ s : Int, StB c .reg (w.setCell ⟨c.wg, 0, none⟩ (.int .u64 s))) := by
  obtain ⟨s1, u, e, hwd, n, h1, h2, h3, h4, h5⟩ := h
  have h4' : w.heap[c.wg]? = some (grO ((n : Nat) * 4294967296) 0) := by simpa [b2n] using h4
  refine ⟨n, by omega, h4', fun hn hk => ⟨s1, u, e, hwd, by rw [h4', hn]; rfl, h5 hn hk⟩, fun s => ⟨s1.setg h4' _ _, u, e, (heap_setCell_other _ _ _ _ (wdg hwd h4')).trans hwd, s, 0, gr_set0 h4' s, .inl rfl⟩⟩

/-- THE SEMAPHORE: it waits, or takes the count. -/
theorem OF.sem {f : FuncId} {fn' : Func} {axs : Array Operand} {ats : Array TypeId} (ho : ops[i]? = some o) (hw : Region.wanted o (yielded ops a.tmps) = true) (hop : o.op = .call { callee := .value (.func f), args := axs, argTypes := ats })
    (hf : Try.prog.funcs[f]? = some fn') (hname : (fn'.name == "runtime.NumGoroutine") = false) (hb : fn'.body.isNone = true) (hx : Extern.findNext fn' = none) (he : Extern.find fn' = some Extern.Sync.semacquire) (H : Ctx N T0 y K w l) (hr : y.role = .boss c .reg)
    (hax : (axs.map a.eval)[0]? = some (.pointer (some ⟨c.wg, 1, none⟩)))
    (hn : ∀ K₁ w₁, K₁ ≤ K → Ctx N T0 ⟨y.own, y.rem, y.deaf, .boss c .free⟩ K₁ w₁ l → OF (S N) m fn ops rest n Q K₁ ⟨y.own, y.rem, y.deaf, .boss c .free⟩ (a.put o.dst (.tuple #[])) w₁) : OF (S N) m fn ops (i :: rest) (n + 1) Q K y a w := by
  intro b kk cs F' hb' hk hc
  refine J.step (f := fun K => F' K + n) rfl fun K₁ hK w₁ r => ?_
  have H₁ := H.rely r
  obtain ⟨⟨s1, u, e, hwd, s, mm, hg, hm⟩, ap⟩ := H₁.st.boss hr
  have hcc := gr_cell hg
  unfold Nxt
  rcases hm with rfl | ⟨rfl, rfl, hfin⟩
  · rw [show (S N).P = Try.prog from rfl, stepG_semacquire_wait ho hw hop hf hname hb hx he hax hcc.2.1]
    exact .inr (.inl ⟨rfl, rfl, rfl, rfl, rfl, rfl, rfl, c, s, hr, hg⟩)
  · rw [show (S N).P = Try.prog from rfl, stepG_semacquire ho hw hk hop hf hname hb hx he hax hcc.2.1 (by decide) (hcc.2.2 1)]
    refine .inl ⟨rfl, ⟨y.own, y.rem, y.deaf, .boss c .free⟩, K₁, .sem hr hg, .inl ⟨rfl, ?_⟩⟩
    have H2 : Ctx N T0 ⟨y.own, y.rem, y.deaf, .boss c .free⟩ K₁ (w₁.setCell ⟨c.wg, 1, none⟩ (.int .u32 0)) l := H₁.gturn hr H₁.st.1 ⟨s1.setg hg _ _, u, e, (heap_setCell_other _ _ _ _ (wdg hwd hg)).trans hwd, gr_set1 hg 0, hfin⟩
    exact hn K₁ _ hK H2 b kk cs F' hb' hk fun e K₂ y₂ a₂ w₂ hK₂ q => hc e K₂ y₂ a₂ w₂ (by omega) q

/-- The rows that come back. -/
def back (c : Cfg) (l : List Row) : List Row := (c.tb, #[.int .i64 (c.T : Int)], 3) :: (c.wb, #[.pointer (some ⟨c.wd, 0, none⟩)], 23) :: (c.wd, #[.int .i64 c.d, .int .u64 (wdv ((0 : Nat) : Int) (decide (0 < c.T))).num], 100) :: l

/-- GOROUTINE 0 TAKES OVER. -/
theorem OF.acq {f : FuncId} {fn' : Func} {axs : Array Operand} {ats : Array TypeId} (ho : ops[i]? = some o) (hw : Region.wanted o (yielded ops a.tmps) = true) (hop : o.op = .call { callee := .value (.func f), args := axs, argTypes := ats })
    (hf : Try.prog.funcs[f]? = some fn') (hname : (fn'.name == "runtime.NumGoroutine") = false) (hb : fn'.body.isNone = true) (hx : Extern.findNext fn' = none) (he : Extern.find fn' = some (Extern.Race.marked .acquire)) (H : Ctx N T0 y K w l) (hr : y.role = .boss c .free) (hdf : y.deaf = 0)
    (hN : N ≤ c.wd ∧ N ≤ c.tb ∧ N ≤ c.wb) (hax : (axs.map a.eval)[0]? = some (.pointer (some ⟨c.wg, 0, none⟩)))
    (hn : ∀ K₁ y' w₁, K₁ ≤ K → y'.role = .alone (fun b => c.shun b ∨ b = c.wg) → y'.deaf = 0 → y'.rem = y.rem → (∀ b, y.own b → y'.own b) → Ctx N T0 y' K₁ w₁ (back c l) → OF (S N) m fn ops rest n Q K₁ y' (a.put o.dst (.tuple #[])) w₁) : OF (S N) m fn ops (i :: rest) (n + 1) Q K y a w := by
  refine OF.turn H fun K₁ w₁ hK _ H₁ => ?_
  obtain ⟨⟨s1, u, e, hwd, hg, rfl, rfl⟩, ap⟩ := H₁.st.boss hr
  have hcl := H₁.st.2.1
  rw [hr] at hcl
  have ne1 := ne_of_obj s1.tb s1.wb (by simp)
  have ne2 := ne_of_obj s1.tb hwd (by simp [wdO])
  have ne3 := ne_of_obj s1.wb hwd (by simp [wdO])
  have ng1 := ne_of_obj s1.tb hg (by simp [grO])
  have ng2 := ne_of_obj s1.wb hg (by simp [grO])
  have ng3 := wdg hwd hg
  have ow : ∀ b, y.own b → N ≤ b ∧ b < w₁.heap.size ∧ ¬ c.shun b ∧ b ≠ c.wg := fun b hb => ⟨H₁.hi b hb, H₁.lo b hb, hcl.2 b (.inl hb), (ap b hb).2.2.2⟩
  refine ⟨_, w₁, _, ⟨fun b => N ≤ b ∧ b < w₁.heap.size ∧ ¬ c.shun b ∧ b ≠ c.wg, y.rem, y.deaf, .alone fun b => c.shun b ∨ b = c.wg⟩, K₁, fun b kk cs hb' hk => stepG_markAt .acquire (by simp) ho hw hk hop hf hname hb hx he hax, fun wk => .acq hr hdf, Nat.le_refl _, ?_⟩
  refine hn K₁ _ w₁ hK rfl hdf rfl ow ⟨⟨?_, fun p hp => ?_⟩, ⟨H₁.st.1, ⟨fun b hb => hb.elim (hcl.1 b) fun e => e ▸ lt_of_some hg, fun b hb hs => ?_⟩, trivial⟩, fun b hb => hb.1, fun b hb => hb.2.1, H₁.big, Keeps.triv _, trivial⟩
  · have hnd := H₁.rows.nd
    have hno : ∀ b, (b = c.tb ∨ b = c.wb ∨ b = c.wd) → b ∉ l.map (·.1) := fun b hb hm => by
      obtain ⟨p, hp, e⟩ := List.mem_map.1 hm
      have := ap p.1 (H₁.rows.at_ p hp).1
      rcases hb with h | h | h <;> simp [e, h] at this
    simp only [back, List.map_cons, List.nodup_cons, List.mem_cons, not_or]
    exact ⟨⟨ne1, ne2, hno _ (.inl rfl)⟩, ⟨ne3, hno _ (.inr (.inl rfl))⟩, hno _ (.inr (.inr rfl)), hnd⟩
  · simp only [back, List.mem_cons] at hp
    rcases hp with rfl | rfl | rfl | hp
    · exact ⟨⟨hN.2.1, lt_of_some s1.tb, hcl.2 _ (.inr (.inr (.inl rfl))), ng1⟩, s1.tb⟩
    · exact ⟨⟨hN.2.2, lt_of_some s1.wb, hcl.2 _ (.inr (.inr (.inr rfl))), ng2⟩, s1.wb⟩
    · exact ⟨⟨hN.1, lt_of_some hwd, hcl.2 _ (.inr (.inl rfl)), ng3⟩, hwd⟩
    · exact ⟨ow _ (H₁.rows.at_ p hp).1, (H₁.rows.at_ p hp).2⟩
  · rcases hb with hb | hb
    · exact hs.elim hb.2.2.1 hb.2.2.2
    · exact hb
end

set_option maxRecDepth 100000 in
theorem load_b : ∃ nf, ∀ {N : Nat} {F : Nat → World → Prop} {m : Bool} {y : Gh Role} {K : Nat} {w : World} {l : List Row} (c : Cfg) (k : Nat) (_ : 0 < k) (_ : y.role = .boss c (.op k false)) (_ : Ctx N F y K w l), CJ (S N) m 43 #[.pointer (some ⟨c.wg, 0, none⟩)] nf
    (fun r K' y' w' => (r = .int .u64 0 ∧ y' = ⟨y.own, y.rem, y.deaf, .boss c .free⟩ ∧ Ctx N T0 y' K' w' l) ∨ (∃ K₁ n : Nat, K' ≤ K₁ ∧ K₁ ≤ K ∧ 0 < n ∧ n ≤ 16 ∧ r = .int .u64 ((n : Nat) * 4294967296) ∧ y' = y ∧ Ctx N (SeenG c K₁ n) y' K' w' l)) K y w := by
  co_apply Exists.intro
  intro N F m y K w l c k hk0 hr H
  have hq : y.role.quiet = false := by rw [hr]; rfl
  co_apply CJ.of_WF Try.func43 (by kernel_rfl) (by rfl)
  simp only [show Try.f43.ntmps = 7 from rfl]
  try walk_nrm
  co_apply WF.seqP
  co_apply WF.region
  try simp only [List.size_toArray, List.length_cons, List.length_nil, Nat.zero_add, List.range, List.range.loop]
  co_applyP OF.pu rfl (by rfl) (fun _ => run_eq_of ?run) (fun _ => by simp [go_sem, *])
  case run => intro K hK; go_simp; exact hK
  try walk_nrm
  co_apply OF.nil
  try simp only [thenF]
  co_apply WF.seqP
  co_apply WF.region
  try simp only [List.size_toArray, List.length_cons, List.length_nil, Nat.reduceAdd, Nat.zero_add, List.range, List.range.loop]
  co_applyP OF.pu rfl (by rfl) (fun _ => run_eq_of ?run) (fun _ => by simp [go_sem, *])
  case run => intro K hK; go_simp; exact hK
  try walk_nrm
  co_applyP OF.pu rfl (by rfl) (fun _ => run_eq_of ?run) (fun _ => by simp [go_sem, *])
  case run => intro K hK; go_simp; exact hK
  try walk_nrm
  co_applyP OF.pu rfl (by rfl) (fun _ => run_eq_of ?run) (fun _ => by simp [go_sem, *])
  case run => intro K hK; go_simp; exact hK
  try walk_nrm
  co_apply OF.turn H
  intro K₁ w₁ hK1 hr1 H1
  obtain ⟨n, hn, hg, hz, _⟩ := (H1.st.boss hr).1.opn
  have hc := gr_cell hg
  by_cases hn0 : n = 0
  · skip
    subst hn0
    refine ⟨_, w₁, _, ⟨y.own, y.rem, y.deaf, .boss c .free⟩, K₁, fun b kk cs hb hk => stepG_load_atomic rfl (by rfl) hk rfl Try.func58 (by kernel_rfl) (by kernel_rfl) (by kernel_rfl) .u64 (by kernel_rfl) rfl hc.1, fun wk => .zero hr hk0 (by simpa using hg) (fun x hx => by simp at hx; subst hx; exact atm_mk _ _ _), Nat.le_refl _, ?_⟩
    have H2 := H1.gas (d' := y.deaf) hr H1.st.1 (hz rfl hk0)
    try walk_nrm
    co_applyP OF.pu rfl (by rfl) (fun _ => run_eq_of ?run) (fun _ => by simp [go_sem, *])
    case run => intro K hK; go_simp; exact hK
    try walk_nrm
    co_apply OF.nil
    try simp only [thenF]
    co_apply WF.ret
    exact retG_of rfl (resultsC_tmp (by rfl) _) (fun K₂ hK₂ w₂ r₂ => .inl ⟨by simp [], rfl, H2.rely r₂⟩)
  · skip
    refine ⟨_, w₁, _, y, K₁, fun b kk cs hb hk => stepG_load_atomic rfl (by rfl) hk rfl Try.func58 (by kernel_rfl) (by kernel_rfl) (by kernel_rfl) .u64 (by kernel_rfl) rfl hc.1, fun wk => .plain (plain_atm (c := c) (b := c.wg) (i := 0) (by rw [hr]; rfl) (.inl rfl) (fun x hx => by simp at hx; subst hx; exact atm_mk _ _ _) hq), Nat.le_refl _, ?_⟩
    have H2 := H1.to (F' := SeenG c K₁ n) (by rw [hr]; exact SeenG.keeps _ _ _ _) ⟨Nat.le_refl _, fun _ => hg⟩
    try walk_nrm
    co_applyP OF.pu rfl (by rfl) (fun _ => run_eq_of ?run) (fun _ => by simp [go_sem, *])
    case run => intro K hK; go_simp; exact hK
    try walk_nrm
    co_apply OF.nil
    try simp only [thenF]
    co_apply WF.ret
    exact retG_of rfl (resultsC_tmp (by rfl) _) (fun K₂ hK₂ w₂ r₂ => .inr ⟨K₁, n, hK₂, hK1, by omega, hn, rfl, rfl, H2.rely r₂⟩)

set_option maxRecDepth 100000 in
theorem load_f : ∃ nf, ∀ {N : Nat} {F : Nat → World → Prop} {m : Bool} {y : Gh Role} {K : Nat} {w : World} {l : List Row} (c : Cfg) (_ : y.role = .boss c .free) (_ : Ctx N F y K w l), CJ (S N) m 43 #[.pointer (some ⟨c.wg, 0, none⟩)] nf (fun r K' y' w' => r = .int .u64 0 ∧ y' = y ∧ Ctx N F y' K' w' l) K y w := by
  co_apply Exists.intro
  intro N F m y K w l c hr H
  have hq : y.role.quiet = false := by rw [hr]; rfl
  co_apply CJ.of_WF Try.func43 (by kernel_rfl) (by rfl)
  simp only [show Try.f43.ntmps = 7 from rfl]
  try walk_nrm
  co_apply WF.seqP
  co_apply WF.region
  try simp only [List.size_toArray, List.length_cons, List.length_nil, Nat.zero_add, List.range, List.range.loop]
  co_applyP OF.pu rfl (by rfl) (fun _ => run_eq_of ?run) (fun _ => by simp [go_sem, *])
  case run => intro K hK; go_simp; exact hK
  try walk_nrm
  co_apply OF.nil
  try simp only [thenF]
  co_apply WF.seqP
  co_apply WF.region
  try simp only [List.size_toArray, List.length_cons, List.length_nil, Nat.reduceAdd, Nat.zero_add, List.range, List.range.loop]
  co_applyP OF.pu rfl (by rfl) (fun _ => run_eq_of ?run) (fun _ => by simp [go_sem, *])
  case run => intro K hK; go_simp; exact hK
  try walk_nrm
  co_applyP OF.pu rfl (by rfl) (fun _ => run_eq_of ?run) (fun _ => by simp [go_sem, *])
  case run => intro K hK; go_simp; exact hK
  try walk_nrm
  co_applyP OF.pu rfl (by rfl) (fun _ => run_eq_of ?run) (fun _ => by simp [go_sem, *])
  case run => intro K hK; go_simp; exact hK
  try walk_nrm
  co_apply OF.turn H
  intro K₁ w₁ hK1 hr1 H1
  have hfr := (H1.st.boss hr).1
  obtain ⟨_, u, e, _, hg, _⟩ := hfr
  have hc := gr_cell hg
  refine ⟨_, w₁, _, y, K₁, fun b kk cs hb hk => stepG_load_atomic rfl (by rfl) hk rfl Try.func58 (by kernel_rfl) (by kernel_rfl) (by kernel_rfl) .u64 (by kernel_rfl) rfl hc.1, fun wk => .plain (plain_atm (c := c) (b := c.wg) (i := 0) (by rw [hr]; rfl) (.inl rfl) (fun x hx => by simp at hx; subst hx; exact atm_mk _ _ _) hq), Nat.le_refl _, ?_⟩
  try walk_nrm
  co_applyP OF.pu rfl (by rfl) (fun _ => run_eq_of ?run) (fun _ => by simp [go_sem, *])
  case run => intro K hK; go_simp; exact hK
  try walk_nrm
  co_apply OF.nil
  try simp only [thenF]
  co_apply WF.ret
  exact retG_of rfl (resultsC_tmp (by rfl) _) (fun K₂ hK₂ w₂ r₂ => ⟨rfl, rfl, H1.rely r₂⟩)

set_option maxRecDepth 100000 in
theorem cas_b : ∃ nf, ∀ {N : Nat} {m : Bool} {y : Gh Role} {K : Nat} {w : World} {l : List Row} (c : Cfg) (k K₀ n : Nat) (_ : 0 < k) (_ : 0 < n) (_ : n ≤ 16) (_ : y.role = .boss c (.op k false)) (_ : 0 < y.rem) (_ : Ctx N (SeenG c K₀ n) y K w l), CJ (S N) m 59 #[.pointer (some ⟨c.wg, 0, none⟩), .int .u64 ((n : Nat) * 4294967296), .int .u64 ((n : Nat) * 4294967296 + 1)] nf
    (fun r K' y' w' => (r = .bool true ∧ K' < K ∧ y' = ⟨y.own, y.rem - 1, y.deaf, .boss c .reg⟩ ∧ Ctx N T0 y' K' w' l) ∨ (r = .bool false ∧ K' < K₀ ∧ y' = y ∧ Ctx N T0 y' K' w' l)) K y w := by
  co_apply Exists.intro
  intro N m y K w l c k K₀ n hk0 hn hn16 hr hrem H
  have hq : y.role.quiet = false := by rw [hr]; rfl
  co_apply CJ.of_WF Try.func59 (by kernel_rfl) (by rfl)
  simp only [show Try.f59.ntmps = 13 from rfl]
  try walk_nrm
  co_apply WF.seqP
  co_apply WF.region
  try simp only [List.size_toArray, List.length_cons, List.length_nil, Nat.zero_add, List.range, List.range.loop]
  co_applyP OF.pu rfl (by rfl) (fun _ => run_eq_of ?run) (fun _ => by simp [go_sem, *])
  case run => intro K hK; go_simp; exact hK
  try walk_nrm
  co_apply OF.nil
  try simp only [thenF]
  co_apply WF.seqP
  co_apply WF.region
  try simp only [List.size_toArray, List.length_cons, List.length_nil, Nat.reduceAdd, Nat.zero_add, List.range, List.range.loop]
  co_applyP OF.pu rfl (by rfl) (fun _ => run_eq_of ?run) (fun _ => by simp [go_sem, *])
  case run => intro K hK; go_simp; exact hK
  try walk_nrm
  co_applyP OF.pu rfl (by rfl) (fun _ => run_eq_of ?run) (fun _ => by simp [go_sem, *])
  case run => intro K hK; go_simp; exact hK
  try walk_nrm
  co_applyP OF.pu rfl (by rfl) (fun _ => run_eq_of ?run) (fun _ => by simp [go_sem, *])
  case run => intro K hK; go_simp; exact hK
  try walk_nrm
  co_applyP OF.pu rfl (by rfl) (fun _ => run_eq_of ?run) (fun _ => by simp [go_sem, *])
  case run => intro K hK; go_simp; exact hK
  try walk_nrm
  co_applyP OF.pu rfl (by rfl) (fun _ => run_eq_of ?run) (fun _ => by simp [go_sem, *])
  case run => intro K hK; go_simp; exact hK
  try walk_nrm
  co_apply OF.turn H
  intro K₁ w₁ hK1 hr1 H1
  obtain ⟨n2, hn2, hg, _, hreg⟩ := (H1.st.boss hr).1.opn
  have hc := gr_cell hg
  by_cases hx : n2 = n
  · skip
    subst hx
    obtain ⟨K₂, rfl⟩ : ∃ K₂, K₁ = K₂ + 1 := ⟨K₁ - 1, by have := H1.st.1; omega⟩
    obtain ⟨n3, rfl⟩ : ∃ n3, n2 = n3 + 1 := ⟨n2 - 1, by omega⟩
    refine ⟨_, _, _, ⟨y.own, y.rem - 1, y.deaf, .boss c .reg⟩, K₂, fun b kk cs hb hk => stepG_cas_hit rfl (by rfl) hk rfl Try.func78 (by kernel_rfl) (by kernel_rfl) (by kernel_rfl) .u64 (by kernel_rfl) rfl rfl rfl hc.1 (hc.2.2 0), fun wk => .reg hr hk0 hg hrem rfl (fun x hx => by simp at hx; rcases hx with rfl | rfl <;> exact atm_mk _ _ _), by omega, ?_⟩
    have H2 := H1.gturn (d' := y.deaf) (r' := y.rem - 1) (K' := K₂) hr (by have := H1.st.1; omega) (hreg (((n3 + 1 : Nat) : Int) * 4294967296 + 1))
    try walk_nrm
    co_applyP OF.pu rfl (by rfl) (fun _ => run_eq_of ?run) (fun _ => by simp [go_sem, *])
    case run => intro K hK; go_simp; exact hK
    try walk_nrm
    co_apply OF.nil
    try simp only [thenF]
    co_apply WF.ret
    exact retG_of rfl (resultsC_tmp (by rfl) _) (fun K₃ hK₃ w₂ r₂ => .inl ⟨rfl, by omega, rfl, H2.rely r₂⟩)
  · skip
    have hne : ¬ ((n2 : Nat) : Int) * 4294967296 = ((n : Nat) : Int) * 4294967296 := by omega
    have hlt : K₁ < K₀ := Nat.lt_of_le_of_ne H1.mem.1 fun e => by have := (grO_inj (Option.some.inj (hg.symm.trans (H1.mem.2 e)))).1; omega
    refine ⟨_, w₁, _, y, K₁, fun b kk cs hb hk => stepG_cas_miss rfl (by rfl) hk rfl Try.func78 (by kernel_rfl) (by kernel_rfl) (by kernel_rfl) .u64 (by kernel_rfl) rfl rfl rfl hc.1 (hc.2.2 0) hne, fun wk => .plain (plain_atm (c := c) (b := c.wg) (i := 0) (by rw [hr]; rfl) (.inl rfl) (fun x hx => by simp at hx; subst hx; exact atm_mk _ _ _) hq), Nat.le_refl _, ?_⟩
    have H2 := H1.t0
    try walk_nrm
    co_applyP OF.pu rfl (by rfl) (fun _ => run_eq_of ?run) (fun _ => by simp [go_sem, *])
    case run => intro K hK; go_simp; exact hK
    try walk_nrm
    co_apply OF.nil
    try simp only [thenF]
    co_apply WF.ret
    exact retG_of rfl (resultsC_tmp (by rfl) _) (fun K₃ hK₃ w₂ r₂ => .inr ⟨rfl, by omega, rfl, H2.rely r₂⟩)

end Go.Proofs.Ytgnhddnhcfmipaa.Ids
