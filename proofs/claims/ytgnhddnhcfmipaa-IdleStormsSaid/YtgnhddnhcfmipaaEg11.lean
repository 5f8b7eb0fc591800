/- A callee that leaves with deferred calls. Plain: no program here. -/
import Derived.Test.YtgnhddnhcfmipaaEg8
import Derived.Conc.DeferLaws
namespace Go.Proofs.Ytgnhddnhcfmipaa.Eg
open Go Go.Conc

/-- The callee's frame is on its way out: within n steps the caller has its value. -/
def LV (S : Sys) (m : Bool) (f : FuncId) (Post : Value → Nat → S.G → World → Prop) (n K : Nat) (y : S.G) (a : Act) (w : World) : Prop :=
  ∀ (fr : Frame) (cs : List Frame) (g : Nat → Nat) (todo : List Item), (∀ v K' y' w', K' ≤ K → Post v K' y' w' → J S m K' (g K') y' (Conc.G (fr.finish v) cs) w') →
    J S m K (g K + n) y (Conc.G { (base f).at a todo with mode := .returning } (fr :: cs)) w

def retL (S : Sys) (m : Bool) (f : FuncId) (Post : Value → Nat → S.G → World → Prop) (n : Nat) : PostF S
  | .normal, K, y, a, w | .ret, K, y, a, w => LV S m f Post n K y a w
  | _, _, _, _, _ => False

section
variable {S : Sys} {m : Bool} {f : FuncId} {Post : Value → Nat → S.G → World → Prop} {K n : Nat} {y : S.G} {a : Act} {w : World}

theorem LV.more {n' : Nat} (h : LV S m f Post n K y a w) (hn : n ≤ n') : LV S m f Post n' K y a w := fun fr cs g todo hg => (h fr cs g todo hg).more (by omega)

/-- Nothing is deferred (any more). -/
theorem LV.done {fn : Func} (hf : S.P.funcs[f]? = some fn) (hd : a.defers = []) (h : ∀ K₁, K₁ ≤ K → ∀ w₁, S.R y K K₁ w w₁ → ∃ v y', (results fn a.tmps).run S.P w₁ = .ok v w₁ ∧ (∀ wk, S.D y K₁ w₁ y' K₁ w₁ (seen S.P f ((results fn a.tmps).events S.P w₁ #[])) wk) ∧ Post v K₁ y' w₁) :
    LV S m f Post 1 K y a w := by
  intro fr cs g todo hg
  refine J.step (f := g) rfl fun K₁ hK w₁ r => ?_
  obtain ⟨v, y', hr, hD, hp⟩ := h K₁ hK w₁ r
  unfold Nxt
  rw [stepG_leave_ev (b := base f) rfl hd hf hr]
  exact .inl ⟨rfl, y', K₁, hD _, .inl ⟨rfl, hg v K₁ y' w₁ hK hp⟩⟩

/-- .. and the results lie in temporaries. -/
theorem LV.tmp {fn : Func} (hf : S.P.funcs[f]? = some fn) (hd : a.defers = []) {v : Value} (hv : ResultsC S.P fn a.tmps v) (hp : ∀ K₁, K₁ ≤ K → ∀ w₁, S.R y K K₁ w w₁ → Post v K₁ y w₁) : LV S m f Post 1 K y a w :=
  LV.done hf hd fun K₁ hK w₁ r => ⟨v, y, (hv w₁).1, fun wk => by rw [(hv w₁).2, seen_none]; exact S.idle _ _ _ _, hp K₁ hK w₁ r⟩

/-- A deferred entry (a mark). -/
theorem LV.entry {fE : FuncId} {fnE : Func} {args : Array Value} {ds : List Deferred} {e : Array Value → Sem Value} {evs : Array Event} {v : Value} (hd : a.defers = dcall fE args :: ds)
    (hf : S.P.funcs[fE]? = some fnE) (hname : (fnE.name == "runtime.NumGoroutine") = false) (hb : fnE.body.isNone = true) (hn : Extern.findNext fnE = none) (he : Extern.find fnE = some e)
    (hrun : ∀ w, (e args).run S.P w = .ok v w) (hev : ∀ w, (e args).events S.P w #[⟨.mark (.extern fE), false, true⟩] = #[⟨.mark (.extern fE), false, true⟩] ++ evs) (hs : ∀ x ∈ evs, x.sync = true ∧ ∀ g, x.loc ≠ .mark (.extern g))
    (h : ∀ K₁, K₁ ≤ K → ∀ w₁, S.R y K K₁ w w₁ → ∃ y', (∀ wk, S.D y K₁ w₁ y' K₁ w₁ evs wk) ∧ LV S m f Post n K₁ y' ⟨a.tmps, ds⟩ w₁) : LV S m f Post (n + 1) K y a w := by
  intro fr cs g todo hg
  refine J.step (f := fun K => g K + n) rfl fun K₁ hK w₁ r => ?_
  obtain ⟨y', hD, hl⟩ := h K₁ hK w₁ r
  unfold Nxt
  rw [stepG_unwind_entry (b := base f) (w := w₁) hd hf hname hb hn he (hrun w₁) (hev w₁) hs]
  exact .inl ⟨rfl, y', K₁, hD _, .inl ⟨rfl, hl fr cs g todo fun v K' y' w' hK' hp => hg v K' y' w' (by omega) hp⟩⟩

theorem CJ.of_WFL {fn : Func} {c : Code} {args : Array Value} {n' : Nat} (hf : S.P.funcs[f]? = some fn) (hname : (fn.name == "runtime.NumGoroutine") = false) (hb : fn.body = some c)
    (h : WF S m f c n (retL S m f Post n') K y { tmps := args ++ Array.replicate (fn.ntmps - args.size) undef, defers := [] } w) : CJ S m f args (n + n' + 1) Post K y w := by
  refine ⟨fn, c, hf, hname, hb, fun fr cs g hg => ?_⟩
  have hl : ∀ K' y' a' w' todo, K' ≤ K → LV S m f Post n' K' y' a' w' → J S m K' (g K' + n') y' (Conc.G { (base f).at a' todo with mode := .returning } (fr :: cs)) w' :=
    fun K' y' a' w' todo hK q => q fr cs g todo fun v K₂ y₂ w₂ hK₂ hp => hg v K₂ y₂ w₂ (by omega) hp
  have := h (base f) [] (fr :: cs) (fun K => g K + n' + 1) rfl (by simp [base]) fun e K' y' a' w' hK q => by
    cases e with
    | normal => exact J.ctl rfl rfl (fun _ => stepG_end) (hl K' y' a' w' [] hK q)
    | ret => exact fun todo => (hl K' y' a' w' todo hK q).more (by omega)
    | exit id => exact q.elim
    | goto l => exact q.elim
    | panic ch => exact q.elim
    | outgrown => exact q.elim
  exact this.more (by omega)

/-- A deferred call of a function with parameters that are known: it is noted. -/
theorem OF.defer {fn : FuncId} {Q : PostF S} {ops : Array Oper} {i : Nat} {rest : List Nat} {o : Oper} {fD : FuncId} {as : Array Operand} {ats : Array TypeId} (ho : ops[i]? = some o) (hw : Region.wanted o (yielded ops a.tmps) = true)
    (hop : o.op = .defer { callee := .value (.func fD), args := as, argTypes := ats }) (h : OF S m fn ops rest n Q K y (Act.put ⟨a.tmps, dcall fD (as.map a.eval) :: a.defers⟩ o.dst undef) w) : OF S m fn ops (i :: rest) (n + 1) Q K y a w :=
  fun b k cs F hb hk hc => J.ctl rfl rfl (fun _ => stepG_defer ho hw hk hop) (h b k cs F hb hk hc)
end
end Go.Proofs.Ytgnhddnhcfmipaa.Eg
