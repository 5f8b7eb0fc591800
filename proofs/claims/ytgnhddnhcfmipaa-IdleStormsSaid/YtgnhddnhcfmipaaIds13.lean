/- IdleStorms: regions that draw: the rules, on own rows. -/
import Derived.Test.YtgnhddnhcfmipaaIds12
import Derived.Test.YtgnhddnhcfmipaaEg12
namespace Go.Proofs.Ytgnhddnhcfmipaa.Ids
open Go Go.Conc Go.RowKit Go.Proofs.Ytgnhddnhcfmipaa.Eg Go.Proofs.Ytgnhddnhcfmipaa

theorem run_enter_of {r : Result Next} {f : FuncId} {args : Array Value} {w : World} (h : ∀ K : Result Next → Prop, K (.ok (.enter f args) w) → K r) : r = .ok (.enter f args) w := h (· = .ok (.enter f args) w) rfl

theorem run_callv {P : Program} {a : Act} {w : World} {o : Oper} {f : FuncId} {fn : Func} {x : Operand} {args : Array Operand} {ats : Array TypeId} (hop : o.op = .call { callee := .value x, args, argTypes := ats }) (hx : a.eval x = .func (.func f) #[] #[])
    (hf : P.funcs[f]? = some fn) (hname : (fn.name == "runtime.NumGoroutine") = false) (hb : fn.body.isNone = false) : (execOp a.eval o).run P w = .ok (.enter f (args.map a.eval)) w := by
  have h1 : ¬ fn.name = "runtime.NumGoroutine" := by simpa using hname
  have h2 : ¬ fn.body = none := by cases hx : fn.body <;> simp_all
  unfold execOp
  simp [hop, resolve, Deferred.ofValue, invoke, callFunc, hf, h1, h2, hx]
theorem events_callv {P : Program} {a : Act} {w : World} {o : Oper} {f : FuncId} {fn : Func} {x : Operand} {args : Array Operand} {ats : Array TypeId} (hop : o.op = .call { callee := .value x, args, argTypes := ats }) (hx : a.eval x = .func (.func f) #[] #[])
    (hf : P.funcs[f]? = some fn) (hname : (fn.name == "runtime.NumGoroutine") = false) (hb : fn.body.isNone = false) (es : Array Event) : (execOp a.eval o).events P w es = es := by
  have h1 : ¬ fn.name = "runtime.NumGoroutine" := by simpa using hname
  have h2 : ¬ fn.body = none := by cases hx : fn.body <;> simp_all
  unfold execOp
  simp [hop, resolve, Deferred.ofValue, invoke, callFunc, hf, h1, h2, hx]

theorem Ctx.sub {N : Nat} {F : Nat → World → Prop} {y : Gh Role} {K : Nat} {w : World} {l A : List Row} (H : Ctx N F y K w l) (h : A.Sublist l) : Ctx N F y K w A :=
  ⟨⟨H.rows.nd.sublist (h.map _), fun p hp => H.rows.at_ p (h.subset hp)⟩, H.st, H.hi, H.lo, H.big, H.keeps, H.mem⟩

/-- What is held throughout a region that draws. -/
def Sd (N : Nat) (F : Nat → World → Prop) (r : Role) (A : List Row) (K : Nat) (y : Gh Role) (w : World) : Prop := Ctx N F y K w A ∧ y.role = r
theorem Sd.rely {N : Nat} {F : Nat → World → Prop} {r : Role} {A : List Row} : ∀ K K₁ (y : (S N).G) w w₁, Sd N F r A K y w → K₁ ≤ K → (S N).R y K K₁ w w₁ → Sd N F r A K₁ y w₁ := fun _ _ _ _ _ h _ r => ⟨h.1.rely r, h.2⟩
theorem lets (N : Nat) : ∀ (y : (S N).G) K (w : World) wk, (S N).D y K w y K { w with drawn := w.drawn + 1 } #[] wk := fun y K w wk =>
  .plain ⟨rfl, rfl, rfl, rfl, ⟨rfl, rfl, rfl, Nat.le_refl _, fun _ _ => rfl⟩, fun _ h => h, fun _ h => .inl h, fun _ _ _ => rfl, by simp, fun _ => rfl⟩
theorem Ctx.drew {N : Nat} {F : Nat → World → Prop} {y : Gh Role} {K : Nat} {w : World} {l : List Row} (H : Ctx N F y K w l) : Ctx N F y K { w with drawn := w.drawn + 1 } l := H.rely (R.at y K w (w.drawn + 1))

/-- A sum that unification does not take apart. -/
@[irreducible] def pl (a b : Nat) : Nat := a + b + 1
theorem pl_eq (a b : Nat) : pl a b = a + b + 1 := by unfold pl; rfl
theorem WF.seqP {Z : Eg.Sys} {m : Bool} {fn : FuncId} {Q : PostF Z} {K : Nat} {y : Z.G} {a : Act} {w : World} {c d : Code} {n₁ n₂ : Nat} (h : WF Z m fn c n₁ (thenF (fun K' y' a' w' => WF Z m fn d n₂ Q K' y' a' w') Q) K y a w) : WF Z m fn (.seq c d) (pl n₁ n₂) Q K y a w := by
  rw [pl_eq]; exact WF.seq h

theorem WF.drawnB {N : Nat} {m : Bool} {fn : FuncId} {ops : Array Oper} {Q : PostF (S N)} (B nf : Nat) (Z : Nat → (S N).G → World → Prop) {id K : Nat} {y : Gh Role} {a : Act} {w : World} (hB : ops.size * (nf + 1) + 2 ≤ B) (hm : Try.prog.follows .mixedOrders = true)
    (h : ∀ K₁, K₁ ≤ K → ∀ w₁, R y K K₁ w w₁ → AnyF (S N) m fn .any ops nf Q Z ops.size (Array.replicate ops.size false) K₁ y a { w₁ with drawn := w₁.drawn + 1 }) :
    WF (S N) m fn (.region id ops true) B Q K y a w := (WF.drawn nf Z (lets N) hm h).more hB

section
variable {N : Nat} {F : Nat → World → Prop} {r : Role} {A : List Row} {m : Bool} {fn : FuncId} {Q : PostF (S N)} {K nf : Nat} {y : Gh Role} {a : Act} {w : World} {l l' : List Row} {ops : Array Oper} {i : Nat} {o : Oper} {P : Nat → Gh Role → Act → World → Prop}

theorem YF.pu {v : Value} (hw : Region.wanted o (yielded ops a.tmps) = true) (hr : ∀ w, (execOp a.eval o).run Try.prog w = .ok (.value v) w) (he : ∀ w, (execOp a.eval o).events Try.prog w #[] = #[]) : YieldsF (S N) fn ops (Sd N F r A) o v a :=
  .inl ⟨hw, fun K y w _ => ⟨hr w, fun wk => by
    have : listed (S N).P fn a o w = #[] := by unfold listed; exact (by rw [show (execOp a.eval o).events (S N).P w #[] = #[] from he w, seen_none])
    rw [this]; exact (S N).idle _ _ _ _⟩⟩
theorem YF.unw (hw : Region.wanted o (yielded ops a.tmps) = false) : YieldsF (S N) fn ops (Sd N F r A) o undef a := .inr ⟨hw, rfl⟩
theorem YF.rd {v : Value} (hw : Region.wanted o (yielded ops a.tmps) = true) (hq : r.quiet = false) (hr : ∀ own w, Rows own w A → (execOp a.eval o).run Try.prog w = .ok (.value v) w) (he : ∀ own w, Rows own w A → ∀ e ∈ (execOp a.eval o).events Try.prog w #[], OwnEv own e) : YieldsF (S N) fn ops (Sd N F r A) o v a :=
  .inl ⟨hw, fun K y w hS => ⟨hr _ w hS.1.rows, fun wk => by
    have hev : ∀ e ∈ listed Try.prog fn a o w, OwnEv y.own e := fun e hm => he _ _ hS.1.rows e (mem_listed hm)
    exact .plain ⟨rfl, rfl, rfl, (own_deaf hev _).symm, Below.refl _ _, fun _ h => h, fun _ h => .inl h, fun _ _ _ => rfl, fun e hm => (hev e hm).ok, fun h => by rw [hS.2, hq] at h; cases h⟩⟩⟩
theorem YF.ld1 {ty t : TypeId} {x : Operand} {d : TypeDesc} {b : Nat} {vs : Array Value} {v : Value} (k j : Nat) (hw : Region.wanted o (yielded ops a.tmps) = true) (hop : o.op = .load ty x) (hq : r.quiet = false) (hx : a.eval x = .pointer (some ⟨b, j, none⟩))
    (hk : A[k]? = some (b, vs, t)) (hv : vs[j]? = some v) (hu : Try.prog.underlying ty = some d) (hd : aggD d = false) : YieldsF (S N) fn ops (Sd N F r A) o v a :=
  YF.rd hw hq (fun _ _ hF => (run_ld1 hop hx hu hd (hF.cell k j hk hv)).1) (fun _ _ hF e he => by
    rw [(run_ld1 hop hx hu hd (hF.cell k j hk hv)).2] at he
    simp only [List.mem_toArray, List.mem_cons, List.not_mem_nil, or_false] at he
    subst he
    exact ⟨_, hF.mine k hk, rfl⟩)
theorem YF.ldS {ty : TypeId} {x : Operand} {d : TypeDesc} {v : Value} {c : Cfg} {q : Wp} {ad : Addr} (hw : Region.wanted o (yielded ops a.tmps) = true) (hop : o.op = .load ty x) (hr : r = .work c q) (hq : r.quiet = false) (hx : a.eval x = .pointer (some ad))
    (hv : ∀ w, StW c q w → w.cell? ad = some v) (hs : ad.block = c.tb ∨ ad.block = c.wb ∨ (ad.block = c.wd ∧ ad.off ≠ 1)) (hu : Try.prog.underlying ty = some d) (hd : aggD d = false) : YieldsF (S N) fn ops (Sd N F r A) o v a := by
  refine .inl ⟨hw, fun K y w hS => ?_⟩
  have hry : y.role = .work c q := hS.2.trans hr
  have hc := hv w (hS.1.st.work hry).1
  obtain ⟨h1, h2⟩ := run_ld1 (a := a) hop hx hu hd hc
  have hev : ∀ e ∈ listed Try.prog fn a o w, e = ⟨.cell ad, false, false⟩ := fun e hm => by
    have := mem_listed hm
    rw [h2] at this
    simpa using this
  refine ⟨h1, fun wk => .plain ⟨rfl, rfl, rfl, (deafBehind_still (fun e he => ?_) _).symm, Below.refl _ _, fun _ h => h, fun _ h => .inl h, fun _ _ _ => rfl, fun e hm => ?_, fun h => by rw [hS.2, hq] at h; cases h⟩⟩
  · rw [hev e he]; exact ⟨by simp, by simp⟩
  · rw [hev e hm]
    refine ⟨fun x hx => ?_, fun b hb => by cases hb⟩
    cases hx
    exact ⟨fun hk => (by cases hk), .inr (.inl ⟨by rw [hry]; exact ⟨ad, rfl, hs⟩, rfl⟩)⟩

/-- What is held where the role may turn: rows alone. -/
theorem YR.pu {Z : Nat → (S N).G → World → Prop} {v : Value} (hw : Region.wanted o (yielded ops a.tmps) = true) (hr : ∀ w, (execOp a.eval o).run Try.prog w = .ok (.value v) w) (he : ∀ w, (execOp a.eval o).events Try.prog w #[] = #[]) : YieldsF (S N) fn ops Z o v a :=
  .inl ⟨hw, fun K y w _ => ⟨hr w, fun wk => by
    have : listed (S N).P fn a o w = #[] := by unfold listed; exact (by rw [show (execOp a.eval o).events (S N).P w #[] = #[] from he w, seen_none])
    rw [this]; exact (S N).idle _ _ _ _⟩⟩
theorem YR.unw {Z : Nat → (S N).G → World → Prop} (hw : Region.wanted o (yielded ops a.tmps) = false) : YieldsF (S N) fn ops Z o undef a := .inr ⟨hw, rfl⟩
/-- .. some cells of one row alone. -/
def Sr (N b : Nat) (t : TypeId) (cells : List (Nat × Value)) (K : Nat) (y : Gh Role) (w : World) : Prop := (∃ (F : Nat → World → Prop) (l : List Row) (k : Nat) (vs : Array Value), Ctx N F y K w l ∧ l[k]? = some (b, vs, t) ∧ ∀ p ∈ cells, vs[p.1]? = some p.2) ∧ y.role.quiet = false
theorem Sr.rely {N b : Nat} {t : TypeId} {cells : List (Nat × Value)} : ∀ K K₁ (y : (S N).G) w w₁, Sr N b t cells K y w → K₁ ≤ K → (S N).R y K K₁ w w₁ → Sr N b t cells K₁ y w₁ := fun _ _ _ _ _ ⟨⟨F, l, k, vs, h1, h2⟩, h3⟩ _ r => ⟨⟨F, l, k, vs, h1.rely r, h2⟩, h3⟩
theorem YR.ld1 {ty t : TypeId} {x : Operand} {d : TypeDesc} {b : Nat} {cells : List (Nat × Value)} {v : Value} (k j : Nat) (hw : Region.wanted o (yielded ops a.tmps) = true) (hop : o.op = .load ty x) (hx : a.eval x = .pointer (some ⟨b, j, none⟩))
    (hk : cells[k]? = some (j, v)) (hu : Try.prog.underlying ty = some d) (hd : aggD d = false) : YieldsF (S N) fn ops (Sr N b t cells) o v a :=
  .inl ⟨hw, fun K y w hS => by
    obtain ⟨⟨F, l, kk, vs, hC, hk', hcs⟩, hq⟩ := hS
    have hF := hC.rows
    obtain ⟨h1, h2⟩ := run_ld1 (a := a) hop hx hu hd (hF.cell kk j hk' (hcs (j, v) (List.mem_of_getElem? hk)))
    refine ⟨h1, fun wk => ?_⟩
    have hev : ∀ e ∈ listed Try.prog fn a o w, OwnEv y.own e := fun e hm => by
      have := mem_listed hm
      rw [h2] at this
      simp only [List.mem_toArray, List.mem_cons, List.not_mem_nil, or_false] at this
      subst this
      exact ⟨_, hF.mine kk hk', rfl⟩
    exact .plain ⟨rfl, rfl, rfl, (own_deaf hev _).symm, Below.refl _ _, fun _ h => h, fun _ h => .inl h, fun _ _ _ => rfl, fun e hm => (hev e hm).ok, fun h => by rw [hq] at h; cases h⟩⟩

theorem OpF.al {vs : Array Value} {t : TypeId} (ho : ops[i]? = some o) (hw : Region.wanted o (yielded ops a.tmps) = true) (H : Ctx N F y K w l)
    (hr : ∀ w, (execOp a.eval o).run Try.prog w = .ok (.value (.pointer (some ⟨w.heap.size, 0, none⟩))) (w.alloc (.cells vs t))) (he : ∀ w, (execOp a.eval o).events Try.prog w #[] = #[])
    (hn : ∀ K₁ y' w' b, K₁ ≤ K → Gr y y' → Ctx N F y' K₁ w' ((b, vs, t) :: l) → P K₁ y' (a.put o.dst (.pointer (some ⟨b, 0, none⟩))) w') : OpF (S N) m fn ops nf i P K y a w := by
  refine OpF.val ho hw fun K₁ hK w₁ r => ?_
  have H₁ := H.rely r
  have hev : listed Try.prog fn a o w₁ = #[] := by unfold listed; rw [he, seen_none]
  show uponK o a _ ((execOp a.eval o).run Try.prog w₁)
  rw [hr]
  have hsz : (w₁.alloc (.cells vs t)).heap.size = w₁.heap.size + 1 := al_size _ _
  have hold : ∀ b, b < w₁.heap.size → (w₁.alloc (.cells vs t)).heap[b]? = w₁.heap[b]? := fun b hb => al_old _ _ _ hb
  refine ⟨Gh.add y w₁.heap.size, fun wk => .plain ⟨rfl, rfl, rfl, by show y.deaf = _; rw [show listed (S N).P fn a o w₁ = #[] from hev]; rfl, ?_, fun _ h => .inl h, fun b h => h.imp id fun e => by subst e; omega, fun b hb _ => hold b hb, fun e hm => by rw [show listed (S N).P fn a o w₁ = #[] from hev] at hm; simp at hm, fun _ => hev⟩, hn K₁ _ _ _ hK (gr_add y _) ?_⟩
  · exact ⟨rfl, rfl, rfl, by rw [hsz]; omega, fun k hk => hold k (by have := H₁.big; omega)⟩
  · refine ⟨⟨List.nodup_cons.2 ⟨fun hm => ?_, H₁.rows.nd⟩, fun p hp => ?_⟩, H₁.st.kept rfl rfl (fun b h => h.imp id fun e => by subst e; exact Nat.le_refl _) (fun b hb _ => hold b hb) (by rw [hsz]; omega), fun b hb => hb.elim (H₁.hi b) fun e => by subst e; exact H₁.big, fun b hb => ?_, by rw [hsz]; have := H₁.big; omega, H₁.keeps, H₁.keeps.own _ _ _ _ rfl H₁.st (fun b hb _ => hold b hb) H₁.mem⟩
    · obtain ⟨p, hp, e⟩ := List.mem_map.1 hm
      have := H₁.rows.lt hp
      simp only at e
      omega
    · rcases List.mem_cons.1 hp with rfl | hp
      · exact ⟨.inr rfl, al_new _ _⟩
      · have := H₁.rows.at_ p hp
        exact ⟨.inl this.1, (hold _ (H₁.rows.lt hp)).trans this.2⟩
    · rw [hsz]
      rcases hb with hb | rfl
      · have := H₁.lo b hb; omega
      · omega

theorem OpF.st0 (ho : ops[i]? = some o) (hw : Region.wanted o (yielded ops a.tmps) = true) (H : Ctx N F y K w l) (hq : y.role.quiet = false)
    (hr : ∀ w, Rows y.own w l → ∃ w', (execOp a.eval o).run Try.prog w = .ok .skip w' ∧ Upd y.own w w' l') (he : ∀ w, Rows y.own w l → ∀ e ∈ (execOp a.eval o).events Try.prog w #[], OwnEv y.own e)
    (hn : ∀ K₁ w', K₁ ≤ K → Ctx N F y K₁ w' l' → P K₁ y (a.put o.dst undef) w') : OpF (S N) m fn ops nf i P K y a w := by
  refine OpF.val ho hw fun K₁ hK w₁ r => ?_
  have H₁ := H.rely r
  have hev : ∀ e ∈ listed Try.prog fn a o w₁, OwnEv y.own e := fun e hm => he _ H₁.rows e (mem_listed hm)
  obtain ⟨w', h1, h2⟩ := hr _ H₁.rows
  show uponK o a _ ((execOp a.eval o).run Try.prog w₁)
  rw [h1]
  have hb : Below N w₁ w' := ⟨h2.os, h2.tape, h2.output, by rw [h2.size]; exact Nat.le_refl _, fun k hk => h2.far k fun hx => by have := H.hi k hx; omega⟩
  refine ⟨y, fun wk => .plain ⟨rfl, rfl, rfl, (own_deaf hev _).symm, hb, fun _ h => h, fun _ h => .inl h, fun b _ h => h2.far b h, fun e hm => (hev e hm).ok, fun h => by rw [hq] at h; cases h⟩, hn K₁ w' hK ?_⟩
  exact ⟨h2.rows, H₁.st.kept rfl rfl (fun _ h => .inl h) (fun b _ h => h2.far b h) (by rw [h2.size]; exact Nat.le_refl _), H₁.hi, fun b hb => by rw [h2.size]; exact H₁.lo b hb, by rw [h2.size]; exact H₁.big, H₁.keeps, H₁.keeps.own _ _ _ _ rfl H₁.st (fun b _ h => h2.far b h) H₁.mem⟩
theorem OpF.st1 {ty t : TypeId} {x z : Operand} {b : Nat} {vs : Array Value} {v u : Value} (k j : Nat) (ho : ops[i]? = some o) (hw : Region.wanted o (yielded ops a.tmps) = true) (hop : o.op = .store ty x z) (H : Ctx N F y K w l) (hq : y.role.quiet = false) (hx : a.eval x = .pointer (some ⟨b, j, none⟩)) (hz : a.eval z = v)
    (hk : l[k]? = some (b, vs, t)) (hv : vs[j]? = some u) (h1 : v.oneCell' = true) (hi : (Try.prog.info? ty).map (·.size) = some 1)
    (hn : ∀ K₁ w', K₁ ≤ K → Ctx N F y K₁ w' (l.set k (b, vs.setIfInBounds j v, t)) → P K₁ y (a.put o.dst undef) w') : OpF (S N) m fn ops nf i P K y a w :=
  OpF.st0 ho hw H hq (fun _ hF => ⟨_, (run_st1 hop hx hz h1 hi (hF.cell k j hk hv) (hF.free k j hk)).1, (Upd.refl hF).set k j hk v⟩) (fun _ hF e he => by
    rw [(run_st1 hop hx hz h1 hi (hF.cell k j hk hv) (hF.free k j hk)).2] at he
    simp only [List.mem_toArray, List.mem_cons, List.not_mem_nil, or_false] at he
    subst he
    exact ⟨_, hF.mine k hk, rfl⟩) hn
theorem OpF.str {ty t : TypeId} {x z : Operand} {b : Nat} {vs cs : Array Value} (k : Nat) (ho : ops[i]? = some o) (hw : Region.wanted o (yielded ops a.tmps) = true) (hop : o.op = .store ty x z) (H : Ctx N F y K w l) (hq : y.role.quiet = false) (hx : a.eval x = .pointer (some ⟨b, 0, none⟩)) (hz : a.eval z = .agg cs)
    (hk : l[k]? = some (b, vs, t)) (hi : (Try.prog.info? ty).map (·.size) = some cs.size) (hs : vs.size = cs.size) (h1 : cs.all (·.oneCell') = true)
    (hn : ∀ K₁ w', K₁ ≤ K → Ctx N F y K₁ w' (l.set k (b, cs, t)) → P K₁ y (a.put o.dst undef) w') : OpF (S N) m fn ops nf i P K y a w :=
  OpF.st0 ho hw H hq (fun _ hF => ⟨_, (run_str hop hx hz (hF.row k hk) hi hs h1).1, (Upd.refl hF).row k hk cs⟩) (fun _ hF e he => by
    obtain ⟨ad, h2, h3⟩ := (run_str hop hx hz (hF.row k hk) hi hs h1).2 e he
    exact ⟨ad, h2 ▸ hF.mine k hk, h3⟩) hn

/-- A static call. -/
theorem OpF.cJ {f : FuncId} {fn' : Func} {args : Array Operand} {ats : Array TypeId} (ho : ops[i]? = some o) (hw : Region.wanted o (yielded ops a.tmps) = true) (hop : o.op = .call { callee := .value (.func f), args, argTypes := ats })
    (hf : Try.prog.funcs[f]? = some fn') (hname : (fn'.name == "runtime.NumGoroutine") = false) (hb : fn'.body.isNone = false) (H : Ctx N F y K w l)
    (h : ∀ K₁ w₁, K₁ ≤ K → Ctx N F y K₁ w₁ l → ∃ Post, CJ (S N) m f (args.map a.eval) nf Post K₁ y w₁ ∧ ∀ v K' y' w', K' ≤ K₁ → Post v K' y' w' → P K' y' (a.put o.dst v) w') : OpF (S N) m fn ops nf i P K y a w :=
  OpF.call ho hw (fun _ => run_call_body hop hf hname hb) (fun _ => events_call_body hop hf hname hb _) fun K₁ hK w₁ r => h K₁ w₁ hK (H.rely r)
/-- A call whose function is found at run time. -/
theorem OpF.cV {f : FuncId} {fn' : Func} {x : Operand} {args : Array Operand} {ats : Array TypeId} (ho : ops[i]? = some o) (hw : Region.wanted o (yielded ops a.tmps) = true) (hop : o.op = .call { callee := .value x, args, argTypes := ats }) (hx : a.eval x = .func (.func f) #[] #[])
    (hf : Try.prog.funcs[f]? = some fn') (hname : (fn'.name == "runtime.NumGoroutine") = false) (hb : fn'.body.isNone = false) (H : Ctx N F y K w l)
    (h : ∀ K₁ w₁, K₁ ≤ K → Ctx N F y K₁ w₁ l → ∃ Post, CJ (S N) m f (args.map a.eval) nf Post K₁ y w₁ ∧ ∀ v K' y' w', K' ≤ K₁ → Post v K' y' w' → P K' y' (a.put o.dst v) w') : OpF (S N) m fn ops nf i P K y a w :=
  OpF.call ho hw (fun _ => run_callv hop hx hf hname hb) (fun _ => events_callv hop hx hf hname hb _) fun K₁ hK w₁ r => h K₁ w₁ hK (H.rely r)
end
end Go.Proofs.Ytgnhddnhcfmipaa.Ids
