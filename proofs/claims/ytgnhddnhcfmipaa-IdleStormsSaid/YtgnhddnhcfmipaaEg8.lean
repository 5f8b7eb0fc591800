/- Calls in company whose results lie in a variable of their own. Plain: no program here. -/
import Derived.Test.YtgnhddnhcfmipaaEg2
namespace Go.Proofs.Ytgnhddnhcfmipaa.Eg
open Go Go.Conc

theorem stepG_leave_ev {P : Program} {main : Bool} {b : Frame} {a : Act} {w : World} {cs : List Frame} {fn : Func} {todo : List Item} {c : Frame} {v : Value} (hn : b.kind = .normal) (hd : a.defers = []) (hf : P.funcs[b.fn]? = some fn)
    (hr : (results fn a.tmps).run P w = .ok v w) :
    stepG P main (Conc.G { b.at a todo with mode := .returning } (c :: cs)) w = .go (Conc.G (c.finish v) cs) w (seen P b.fn ((results fn a.tmps).events P w #[])) := by
  simp [Conc.G, stepG, unwind, doReturn, Frame.at, hn, hd, hf, hr, GStep.after]

/-- A callee's body has come to its end: whatever the others have done meanwhile, the results can be read. -/
def retG (S : Sys) (f : FuncId) (fn : Func) (Post : Value → Nat → S.G → World → Prop) : PostF S
  | .normal, K, y, a, w | .ret, K, y, a, w => a.defers = [] ∧ ∀ K₁, K₁ ≤ K → ∀ w₁, S.R y K K₁ w w₁ → ∃ v y', (results fn a.tmps).run S.P w₁ = .ok v w₁ ∧ (∀ wk, S.D y K₁ w₁ y' K₁ w₁ (seen S.P f ((results fn a.tmps).events S.P w₁ #[])) wk) ∧ Post v K₁ y' w₁
  | _, _, _, _, _ => False

/-- ████ A CALL, FROM THE CALLEE's FIRST STEP TO ITS RETURN. ████ -/
def CJ (S : Sys) (m : Bool) (f : FuncId) (args : Array Value) (n : Nat) (Post : Value → Nat → S.G → World → Prop) (K : Nat) (y : S.G) (w : World) : Prop :=
  ∃ fn c, S.P.funcs[f]? = some fn ∧ (fn.name == "runtime.NumGoroutine") = false ∧ fn.body = some c ∧
    ∀ (fr : Frame) (cs : List Frame) (g : Nat → Nat), (∀ v K' y' w', K' ≤ K → Post v K' y' w' → J S m K' (g K') y' (Conc.G (fr.finish v) cs) w') →
      J S m K (g K + n) y (Conc.G ((base f).at { tmps := args ++ Array.replicate (fn.ntmps - args.size) undef, defers := [] } [.code c]) (fr :: cs)) w

section
variable {S : Sys} {m : Bool} {fn : FuncId} {Q : PostF S} {K n : Nat} {y : S.G} {a : Act} {w : World}

theorem CJ.mono {f : FuncId} {args : Array Value} {Post Post' : Value → Nat → S.G → World → Prop} (h : CJ S m f args n Post K y w) (hp : ∀ v K' y' w', K' ≤ K → Post v K' y' w' → Post' v K' y' w') : CJ S m f args n Post' K y w := by
  obtain ⟨fn, c, h1, h2, h3, h4⟩ := h
  exact ⟨fn, c, h1, h2, h3, fun fr cs g hg => h4 fr cs g fun v K' y' w' hK q => hg v K' y' w' hK (hp v K' y' w' hK q)⟩

theorem CJ.more {f : FuncId} {args : Array Value} {Post : Value → Nat → S.G → World → Prop} {n' : Nat} (h : CJ S m f args n Post K y w) (hn : n ≤ n') : CJ S m f args n' Post K y w := by
  obtain ⟨fn, c, h1, h2, h3, h4⟩ := h
  exact ⟨fn, c, h1, h2, h3, fun fr cs g hg => (h4 fr cs g hg).more (by omega)⟩

theorem CJ.of_WF {f : FuncId} {fn : Func} {c : Code} {args : Array Value} {Post : Value → Nat → S.G → World → Prop} (hf : S.P.funcs[f]? = some fn) (hname : (fn.name == "runtime.NumGoroutine") = false) (hb : fn.body = some c)
    (h : WF S m f c n (retG S f fn Post) K y { tmps := args ++ Array.replicate (fn.ntmps - args.size) undef, defers := [] } w) : CJ S m f args (n + 2) Post K y w := by
  refine ⟨fn, c, hf, hname, hb, fun fr cs g hg => ?_⟩
  have hleave : ∀ (K' : Nat) (y' : S.G) (a' : Act) (w' : World) (todo : List Item), K' ≤ K → retG S f fn Post .ret K' y' a' w' → J S m K' (g K' + 1) y' (Conc.G { (base f).at a' todo with mode := .returning } (fr :: cs)) w' := by
    rintro K' y' a' w' todo hK ⟨hd, h⟩
    refine J.step (f := g) rfl fun K₁ hK₁ w₁ r => ?_
    obtain ⟨v, y'', hr, hD, hp⟩ := h K₁ hK₁ w₁ r
    unfold Nxt
    rw [stepG_leave_ev (b := base f) rfl hd hf hr]
    exact .inl ⟨rfl, y'', K₁, hD _, .inl ⟨rfl, hg v K₁ y'' w₁ (by omega) hp⟩⟩
  have := h (base f) [] (fr :: cs) (fun K => g K + 2) rfl (by simp [base]) fun e K' y' a' w' hK q => by
    cases e with
    | normal => exact J.ctl rfl rfl (fun _ => stepG_end) (hleave K' y' a' w' [] hK q)
    | ret => exact fun todo => (hleave K' y' a' w' todo hK q).more (by omega)
    | exit id => exact q.elim
    | goto l => exact q.elim
    | panic ch => exact q.elim
    | outgrown => exact q.elim
  exact this.more (by omega)

/-- Results in temporaries: nothing is read. -/
theorem retG_of {f : FuncId} {fn : Func} {Post : Value → Nat → S.G → World → Prop} {v : Value} (hd : a.defers = []) (hv : ResultsC S.P fn a.tmps v) (hp : ∀ K₁, K₁ ≤ K → ∀ w₁, S.R y K K₁ w w₁ → Post v K₁ y w₁) :
    retG S f fn Post .ret K y a w :=
  ⟨hd, fun K₁ hK w₁ r => ⟨v, y, (hv w₁).1, fun wk => by rw [(hv w₁).2, seen_none]; exact S.idle _ _ _ _, hp K₁ hK w₁ r⟩⟩

/-- Through a call. -/
theorem OF.callJ {ops : Array Oper} {i : Nat} {rest : List Nat} {o : Oper} {f : FuncId} {args : Array Operand} {ats : Array TypeId} {nf : Nat} {Post : Value → Nat → S.G → World → Prop}
    (ho : ops[i]? = some o) (hw : Region.wanted o (yielded ops a.tmps) = true) (hop : o.op = .call { callee := .value (.func f), args, argTypes := ats })
    (hcall : CJ S m f (args.map a.eval) nf Post K y w) (hnext : ∀ v K' y' w', K' ≤ K → Post v K' y' w' → OF S m fn ops rest n Q K' y' (a.put o.dst v) w') : OF S m fn ops (i :: rest) (n + nf + 1) Q K y a w := by
  intro b k cs F hb hk hc
  obtain ⟨fn', c, hf, hname, hbody, hwp⟩ := hcall
  have hfin : ∀ v, (b.at a (.inRegion ops (i :: rest) :: k)).finish v = b.at (a.put o.dst v) (.inRegion ops rest :: k) := fun v => by rw [Frame.finish_at, ho]; rfl
  have hbodyJ := hwp (b.at a (.inRegion ops (i :: rest) :: k)) cs (fun K => F K + n) fun v K' y' w' hK q => by
    rw [hfin]
    exact hnext v K' y' w' hK q b k cs F hb hk fun e K₂ y₂ a₂ w₂ hK₂ q => hc e K₂ y₂ a₂ w₂ (by omega) q
  have hs : ∀ w, stepG S.P m (Conc.G (b.at a (.inRegion ops (i :: rest) :: k)) cs) w = .go (Conc.G ((base f).at { tmps := args.map a.eval ++ Array.replicate (fn'.ntmps - (args.map a.eval).size) undef, defers := [] } [.code c]) (b.at a (.inRegion ops (i :: rest) :: k) :: cs)) w #[] := by
    intro w
    have hb' : fn'.body.isNone = false := by rw [hbody]; rfl
    rw [stepG_enter ho hw hk (run_call_body hop hf hname hb'), enter_at _ hf hbody]
    have : listed S.P b.fn a o w = #[] := by unfold listed; rw [events_call_body hop hf hname hb']; exact seen_none S.P _
    rw [this]
  exact (J.ctl rfl rfl hs hbodyJ).more (by omega)

/-- An operation that looks at no memory: the same in every world. -/
theorem OF.pure {ops : Array Oper} {i : Nat} {rest : List Nat} {o : Oper} {v : Value} (ho : ops[i]? = some o) (hw : Region.wanted o (yielded ops a.tmps) = true)
    (hr : ∀ w, (execOp a.eval o).run S.P w = .ok (.value v) w) (he : ∀ w, (execOp a.eval o).events S.P w #[] = #[]) (h : OF S m fn ops rest n Q K y (a.put o.dst v) w) : OF S m fn ops (i :: rest) (n + 1) Q K y a w := by
  intro b k cs F hb hk hc
  exact J.ctl rfl rfl (fun w => by rw [stepG_value ho hw hk (hr w)]; unfold listed; rw [he w, seen_none]) (h b k cs F hb hk hc)

/-- Through a call whose function is found at run time. -/
theorem OF.callV {ops : Array Oper} {i : Nat} {rest : List Nat} {o : Oper} {f : FuncId} {args : Array Value} {nf : Nat} {Post : Value → Nat → S.G → World → Prop}
    (ho : ops[i]? = some o) (hw : Region.wanted o (yielded ops a.tmps) = true) (hrun : ∀ w, (execOp a.eval o).run S.P w = .ok (.enter f args) w) (hev : ∀ w, (execOp a.eval o).events S.P w #[] = #[])
    (hcall : CJ S m f args nf Post K y w) (hnext : ∀ v K' y' w', K' ≤ K → Post v K' y' w' → OF S m fn ops rest n Q K' y' (a.put o.dst v) w') : OF S m fn ops (i :: rest) (n + nf + 1) Q K y a w := by
  intro b k cs F hb hk hc
  obtain ⟨fn', c, hf, hname, hbody, hwp⟩ := hcall
  have hfin : ∀ v, (b.at a (.inRegion ops (i :: rest) :: k)).finish v = b.at (a.put o.dst v) (.inRegion ops rest :: k) := fun v => by rw [Frame.finish_at, ho]; rfl
  have hbodyJ := hwp (b.at a (.inRegion ops (i :: rest) :: k)) cs (fun K => F K + n) fun v K' y' w' hK q => by
    rw [hfin]
    exact hnext v K' y' w' hK q b k cs F hb hk fun e K₂ y₂ a₂ w₂ hK₂ q => hc e K₂ y₂ a₂ w₂ (by omega) q
  have hs : ∀ w, stepG S.P m (Conc.G (b.at a (.inRegion ops (i :: rest) :: k)) cs) w = .go (Conc.G ((base f).at { tmps := args ++ Array.replicate (fn'.ntmps - args.size) undef, defers := [] } [.code c]) (b.at a (.inRegion ops (i :: rest) :: k) :: cs)) w #[] := by
    intro w
    rw [stepG_enter ho hw hk (hrun w), enter_at _ hf hbody]
    have : listed S.P b.fn a o w = #[] := by unfold listed; rw [hev w]; exact seen_none S.P _
    rw [this]
  exact (J.ctl rfl rfl hs hbodyJ).more (by omega)
end
end Go.Proofs.Ytgnhddnhcfmipaa.Eg
