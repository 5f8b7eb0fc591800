/- IdleStorms: steps of one goroutine, its stack known. -/
import Derived.Test.YtgnhddnhcfmipaaIds17
import Derived.Conc.WgGenAddNeg
import Derived.Laws.LoneSync
namespace Go.Proofs.Ytgnhddnhcfmipaa.Ids
open Go Go.Conc Go.RowKit Go.Proofs.Ytgnhddnhcfmipaa.Eg Go.Proofs.Ytgnhddnhcfmipaa

section
variable {N : Nat} {m : Bool} {K n : Nat} {y : Gh Role} {b b₀ : Frame} {a a₀ : Act} {w : World} {k : List Item} {cs : List Frame} {ops : Array Oper} {i : Nat} {rest : List Nat} {o : Oper} {fn : Func} {todo : List Item}

theorem J.pu {v : Value} (ho : ops[i]? = some o) (hw : Region.wanted o (yielded ops a.tmps) = true) (hk : b.kind ≠ .early) (hr : ∀ w, (execOp a.eval o).run Try.prog w = .ok (.value v) w) (he : ∀ w, (execOp a.eval o).events Try.prog w #[] = #[])
    (h : J (S N) m K n y (Conc.G (b.at (a.put o.dst v) (.inRegion ops rest :: k)) cs) w) : J (S N) m K (n + 1) y (Conc.G (b.at a (.inRegion ops (i :: rest) :: k)) cs) w :=
  J.ctl rfl rfl (fun w => by rw [show (S N).P = Try.prog from rfl, stepG_value ho hw hk (hr w)]; unfold listed; rw [he w, seen_none]) h
theorem J.unw (ho : ops[i]? = some o) (hw : Region.wanted o (yielded ops a.tmps) = false)
    (h : J (S N) m K n y (Conc.G (b.at (a.put o.dst undef) (.inRegion ops rest :: k)) cs) w) : J (S N) m K (n + 1) y (Conc.G (b.at a (.inRegion ops (i :: rest) :: k)) cs) w :=
  J.ctl rfl rfl (fun _ => stepG_unwanted ho hw) h
theorem J.enter {f : FuncId} {c : Code} {args : Array Operand} {ats : Array TypeId} (ho : ops[i]? = some o) (hw : Region.wanted o (yielded ops a.tmps) = true) (hk : b.kind ≠ .early) (hop : o.op = .call { callee := .value (.func f), args, argTypes := ats })
    (hf : Try.prog.funcs[f]? = some fn) (hname : (fn.name == "runtime.NumGoroutine") = false) (hbody : fn.body = some c)
    (h : J (S N) m K n y (Conc.G ((base f).at { tmps := args.map a.eval ++ Array.replicate (fn.ntmps - (args.map a.eval).size) undef, defers := [] } [.code c]) (b.at a (.inRegion ops (i :: rest) :: k) :: cs)) w) : J (S N) m K (n + 1) y (Conc.G (b.at a (.inRegion ops (i :: rest) :: k)) cs) w := by
  refine J.ctl rfl rfl (fun w => ?_) h
  have hb' : fn.body.isNone = false := by rw [hbody]; rfl
  rw [show (S N).P = Try.prog from rfl, stepG_enter ho hw hk (run_call_body hop hf hname hb'), enter_at _ hf hbody]
  have : listed Try.prog b.fn a o w = #[] := by unfold listed; rw [events_call_body hop hf hname hb']; exact seen_none _ _
  rw [this]
theorem J.leave0 (hn : b.kind = .normal) (hd : a.defers = []) (hf : Try.prog.funcs[b.fn]? = some fn) (hr : fn.results = #[])
    (h : J (S N) m K n y (Conc.G (b₀.at (a₀.put ((ops[i]?).bind (·.dst)) (.tuple #[])) (.inRegion ops rest :: k)) cs) w) :
    J (S N) m K (n + 1) y (Conc.G { b.at a todo with mode := .returning } (b₀.at a₀ (.inRegion ops (i :: rest) :: k) :: cs)) w :=
  J.ctl rfl rfl (fun w => by rw [show (S N).P = Try.prog from rfl, stepG_leave hn hd hf (results_none hr _ _ w) (events_results_none hr _ _), Frame.finish_at]) h
theorem J.leave1 {t : Tmp} (hn : b.kind = .normal) (hd : a.defers = []) (hf : Try.prog.funcs[b.fn]? = some fn) (hr : fn.results = #[.tmp t])
    (h : J (S N) m K n y (Conc.G (b₀.at (a₀.put ((ops[i]?).bind (·.dst)) (a.tmps.getD t undef)) (.inRegion ops rest :: k)) cs) w) :
    J (S N) m K (n + 1) y (Conc.G { b.at a todo with mode := .returning } (b₀.at a₀ (.inRegion ops (i :: rest) :: k) :: cs)) w :=
  J.ctl rfl rfl (fun w => by rw [show (S N).P = Try.prog from rfl, stepG_leave hn hd hf (results_tmp hr _ _ w) (events_results_tmp hr _ _), Frame.finish_at]) h
theorem J.defer {f : FuncId} {axs : Array Operand} {ats : Array TypeId} (ho : ops[i]? = some o) (hw : Region.wanted o (yielded ops a.tmps) = true) (hk : b.kind ≠ .early) (hop : o.op = .defer { callee := .value (.func f), args := axs, argTypes := ats })
    (h : J (S N) m K n y (Conc.G (b.at (Act.put ⟨a.tmps, dcall f (axs.map a.eval) :: a.defers⟩ o.dst undef) (.inRegion ops rest :: k)) cs) w) : J (S N) m K (n + 1) y (Conc.G (b.at a (.inRegion ops (i :: rest) :: k)) cs) w :=
  J.ctl rfl rfl (fun _ => stepG_defer ho hw hk hop) h
theorem J.bub {f : FuncId} {axs : Array Operand} {ats : Array TypeId} (v : Value) (ho : ops[i]? = some o) (hw : Region.wanted o (yielded ops a.tmps) = true) (hk : b.kind ≠ .early) (hop : o.op = .call { callee := .value (.func f), args := axs, argTypes := ats })
    (hf : Try.prog.funcs[f]? = some fn) (hname : (fn.name == "runtime.NumGoroutine") = false) (hb : fn.body.isNone = true) (hn : Extern.findNext fn = none) (he : Extern.find fn = some (fun _ => pure v))
    (h : J (S N) m K n y (Conc.G (b.at (a.put o.dst v) (.inRegion ops rest :: k)) cs) w) : J (S N) m K (n + 1) y (Conc.G (b.at a (.inRegion ops (i :: rest) :: k)) cs) w :=
  J.ctl rfl rfl (fun _ => stepG_entry_pure v ho hw hk hop hf hname hb hn he) h
theorem J.unwind {f : FuncId} {c : Code} {args : Array Value} {ds : List Deferred} (hd : a.defers = dcall f args :: ds) (hf : Try.prog.funcs[f]? = some fn) (hname : (fn.name == "runtime.NumGoroutine") = false) (hb : fn.body = some c)
    (h : J (S N) m K n y (Conc.G ((baseD f).at { tmps := args ++ Array.replicate (fn.ntmps - args.size) undef, defers := [] } [.code c]) ({ b.at ⟨a.tmps, ds⟩ todo with mode := .returning } :: cs)) w) :
    J (S N) m K (n + 1) y (Conc.G { b.at a todo with mode := .returning } cs) w :=
  J.ctl rfl rfl (fun _ => stepG_unwind_enter hd hf hname hb) h

/-- An operation that looks at the world and turns nothing. -/
theorem J.see {v : Value} (ho : ops[i]? = some o) (hw : Region.wanted o (yielded ops a.tmps) = true) (hk : b.kind ≠ .early) (H : Ctx N T0 y K w [])
    (hr : ∀ K w, Ctx N T0 y K w [] → (execOp a.eval o).run Try.prog w = .ok (.value v) w ∧ (execOp a.eval o).events Try.prog w #[] = #[])
    (h : ∀ K₁ w₁, K₁ ≤ K → Ctx N T0 y K₁ w₁ [] → J (S N) m K₁ n y (Conc.G (b.at (a.put o.dst v) (.inRegion ops rest :: k)) cs) w₁) : J (S N) m K (n + 1) y (Conc.G (b.at a (.inRegion ops (i :: rest) :: k)) cs) w := by
  refine J.step (f := fun _ => n) rfl fun K₁ hK w₁ r => ?_
  have H₁ := H.rely r
  obtain ⟨h1, h2⟩ := hr _ _ H₁
  unfold Nxt
  rw [show (S N).P = Try.prog from rfl, stepG_value ho hw hk h1]
  have : listed Try.prog b.fn a o w₁ = #[] := by unfold listed; rw [h2]; exact seen_none _ _
  rw [this]
  exact .inl ⟨rfl, y, K₁, (S N).idle _ _ _ _, .inl ⟨rfl, h K₁ w₁ hK H₁⟩⟩

/-- A step of the goroutine's own kind. -/
theorem J.own {g : Goroutine} (hr : g.status = .running) (H : Ctx N T0 y K w [])
    (h : ∀ K₁ w₁, K₁ ≤ K → Ctx N T0 y K₁ w₁ [] → ∃ g' w' es y' K', g'.status = .running ∧ stepG Try.prog m g w₁ = .go g' w' es ∧ (∀ wk, D N y K₁ w₁ y' K' w' es wk) ∧ K' ≤ K₁ ∧ J (S N) m K' n y' g' w') : J (S N) m K (n + 1) y g w := by
  refine J.step (f := fun _ => n) hr fun K₁ hK w₁ r => ?_
  obtain ⟨g', w', es, y', K', h0, h1, h2, h3, h4⟩ := h K₁ w₁ hK (H.rely r)
  unfold Nxt
  rw [show (S N).P = Try.prog from rfl, h1]
  refine .inl ⟨h0, y', K', h2 _, ?_⟩
  rcases Nat.lt_or_eq_of_le h3 with hlt | rfl
  · exact .inr ⟨hlt, _, h4⟩
  · exact .inl ⟨rfl, h4⟩

/-- .. or one behind which it only leaves. -/
theorem J.ownX {g : Goroutine} (hr : g.status = .running) (H : Ctx N T0 y K w [])
    (h : ∀ K₁ w₁, K₁ ≤ K → Ctx N T0 y K₁ w₁ [] → (∃ g' w' es y' K', g'.status = .running ∧ stepG Try.prog false g w₁ = .go g' w' es ∧ (∀ wk, D N y K₁ w₁ y' K' w' es wk) ∧ K' ≤ K₁ ∧ J (S N) false K' n y' g' w') ∨
      (∃ g' w' es y' K' q d, stepG Try.prog false g w₁ = .go g' w' es ∧ Exit y K₁ w₁ y' K' w' es (mayWake Try.prog g) d ∧ K' ≤ K₁ ∧ QuitsD Try.prog q d g')) : J (S N) false K (n + 1) y g w := by
  refine J.step (f := fun _ => n) hr fun K₁ hK w₁ r => ?_
  unfold Nxt
  rcases h K₁ w₁ hK (H.rely r) with ⟨g', w', es, y', K', h0, h1, h2, h3, h4⟩ | ⟨g', w', es, y', K', q, d, h1, h2, h3, h4⟩
  · rw [show (S N).P = Try.prog from rfl, h1]
    refine .inl ⟨h0, y', K', h2 _, ?_⟩
    rcases Nat.lt_or_eq_of_le h3 with hlt | rfl
    · exact .inr ⟨hlt, _, h4⟩
    · exact .inl ⟨rfl, h4⟩
  · rw [show (S N).P = Try.prog from rfl, h1]
    exact .inr (.inr ⟨rfl, y', K', q, d, h2, h3, h4⟩)
end

section
variable {N : Nat} {K K' : Nat} {y y' : Gh Role} {w : World}
/-- The same world, another role. -/
theorem Ctx.as (H : Ctx N T0 y K w []) (ho : y'.own = y.own) (hs : St y' K' w) : Ctx N T0 y' K' w [] :=
  ⟨⟨List.nodup_nil, fun p hp => by simp at hp⟩, hs, fun b hb => H.hi b (ho ▸ hb), fun b hb => H.lo b (ho ▸ hb), H.big, Keeps.triv _, trivial⟩
theorem Ctx.as' (H : Ctx N T0 y K w []) (ho : y'.own = y.own) {p : Addr} {v : Value} (hs : St y' K' (w.setCell p v)) : Ctx N T0 y' K' (w.setCell p v) [] :=
  ⟨⟨List.nodup_nil, fun p hp => by simp at hp⟩, hs, fun b hb => H.hi b (ho ▸ hb), fun b hb => by rw [set_size]; exact H.lo b (ho ▸ hb), by rw [set_size]; exact H.big, Keeps.triv _, trivial⟩

theorem St.rel {c : Cfg} {d : Bool} (h : St y K w) (hr : y.role = .work c (.busy false d)) (hd : 0 < c.T → d = true) : St ⟨y.own, y.rem, y.deaf, .work c .rel⟩ K w := by
  obtain ⟨⟨s1, ⟨u, e, x1, x2, x3, x4⟩, x5⟩, ap⟩ := h.work hr
  exact ⟨h.1, ⟨fun b hb => hb.elim, fun b _ hb => hb.elim⟩, ⟨s1, ⟨u, e, x1, Nat.zero_le _, by simp only [Wp.vac] at *; omega, fun hT => x4 (.inr (hd hT))⟩, x5⟩, ap⟩
theorem St.deaf {c : Cfg} (h : St y K w) (hr : y.role = .work c .rel) : St ⟨y.own, y.rem, 1, .work c .deaf⟩ K w := by
  obtain ⟨⟨s1, ⟨u, e, x1, x2, x3, x4⟩, x5⟩, ap⟩ := h.work hr
  exact ⟨h.1, ⟨fun b hb => hb.elim, fun b _ hb => hb.elim⟩, ⟨s1, ⟨u, e, x1, x2, x3, x4⟩, x5⟩, ap⟩
theorem St.last {c : Cfg} (h : St y K w) (hr : y.role = .work c .deaf) (hw : w.heap[c.wg]? = some (grO 4294967297 0)) (h1 : 0 < y.rem) (hK : K = K' + 1) : St ⟨y.own, y.rem - 1, y.deaf, .work c .last⟩ K' (w.setCell ⟨c.wg, 0, none⟩ (.int .u64 1)) := by
  obtain ⟨⟨s1, ⟨u, e, x1, x2, x3, x4⟩, x5⟩, ap⟩ := h.work hr
  have hne := wdg x1 hw
  exact ⟨by have := h.1; simp only; omega, ⟨fun b hb => hb.elim, fun b _ hb => hb.elim⟩, ⟨s1.setg hw _ _, ⟨u, e, (heap_setCell_other _ _ _ _ hne).trans x1, x2, x3, x4⟩, gr_set0 hw 1⟩, ap⟩
theorem St.stored {c : Cfg} (h : St y K w) (hr : y.role = .work c .last) : St ⟨y.own, y.rem, y.deaf, .work c .stored⟩ K (w.setCell ⟨c.wg, 0, none⟩ (.int .u64 0)) := by
  obtain ⟨⟨s1, ⟨u, e, x1, x2, x3, x4⟩, x5⟩, ap⟩ := h.work hr
  have hne := wdg x1 x5
  exact ⟨h.1, ⟨fun b hb => hb.elim, fun b _ hb => hb.elim⟩, ⟨s1.setg x5 _ _, ⟨u, e, (heap_setCell_other _ _ _ _ hne).trans x1, x2, x3, x4⟩, gr_set0 x5 0⟩, ap⟩
theorem gr_cell {w : World} {g : Nat} {s m : Int} (h : w.heap[g]? = some (grO s m)) : w.cell? ⟨g, 0, none⟩ = some (.int .u64 s) ∧ w.cell? ⟨g, 1, none⟩ = some (.int .u32 m) ∧ ∀ i, w.frozen? ⟨g, i, none⟩ = false :=
  ⟨by simp [World.cell?, h, grO], by simp [World.cell?, h, grO], fun i => by simp [World.frozen?, h, grO]⟩
/-- A worker sees the group. -/
theorem St.grp {c : Cfg} {q : Wp} (h : St y K w) (hr : y.role = .work c q) : ∃ s, w.heap[c.wg]? = some (grO s 0) := by
  have := (h.work hr).1.2.2
  cases q with
  | busy _ _ => obtain ⟨v, wt, _, _, x⟩ := this; exact ⟨_, x⟩
  | rel => obtain ⟨v, wt, _, _, x⟩ := this; exact ⟨_, x⟩
  | deaf => obtain ⟨v, wt, _, _, x⟩ := this; exact ⟨_, x⟩
  | last => exact ⟨_, this⟩
  | stored => exact ⟨_, this⟩
  | gone => exact this.elim
end

noncomputable def bot : Frame := { (default : Frame) with fn := Try.prog.funcs.size, defers := [], mode := .panicking [goexitEntry] }
set_option maxRecDepth 100000 in
theorem quitsTail (T : Array Value) (todo : List Item) : QuitsD Try.prog 2 0 (Conc.G { (baseD 55).at ⟨T, []⟩ todo with mode := .returning } [bot]) := by
  refine QuitsD.ctl (g' := Conc.G bot []) rfl (fun w => ?_) ?_
  · simp [Conc.G, stepG, unwind, doReturn, results, Frame.at, baseD, bot, Try.func55, Try.f55, seen, GStep.after, goexitEntry]
  refine QuitsD.ctl (g' := { Conc.G bot [] with status := .finished }) rfl (fun w => ?_) ⟨rfl, rfl⟩
  simp [Conc.G, stepG, unwind, bot, goexitEntry, Frame.catches]
  rfl
end Go.Proofs.Ytgnhddnhcfmipaa.Ids
