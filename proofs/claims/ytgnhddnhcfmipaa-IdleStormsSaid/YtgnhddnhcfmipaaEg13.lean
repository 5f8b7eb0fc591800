/- The main goroutine's own function, from its first step to the run's end. -/
import Derived.Test.YtgnhddnhcfmipaaEg11
namespace Go.Proofs.Ytgnhddnhcfmipaa.Eg
open Go Go.Conc

theorem stepG_last {P : Program} {b : Frame} {a : Act} {w : World} {fn : Func} {todo : List Item} {v : Value} (hn : b.kind = .normal) (hd : a.defers = []) (hf : P.funcs[b.fn]? = some fn)
    (hi : P.inits.idxOf? b.fn = none) (hr : (results fn a.tmps).run P w = .ok v w) :
    stepG P true (Conc.G { b.at a todo with mode := .returning } []) w = .ended (.done v) w (seen P b.fn ((results fn a.tmps).events P w #[])) := by
  simp [Conc.G, stepG, unwind, doReturn, Frame.at, hn, hd, hf, hr, hi, GStep.after]

/-- ████ THE MAIN GOROUTINE. ████ Its results lie in temporaries. -/
theorem J.main {S : Sys} {f : FuncId} {fn : Func} {c : Code} {args : Array Value} {K n : Nat} {y : S.G} {w : World} (hf : S.P.funcs[f]? = some fn) (hb : fn.body = some c) (hi : S.P.inits.idxOf? f = none)
    (h : WF S true f c n (fun e K y a w => (e = .ret ∨ e = .normal) ∧ a.defers = [] ∧ ∃ v, ResultsC S.P fn a.tmps v ∧ ∀ K₁, K₁ ≤ K → ∀ w₁, S.R y K K₁ w w₁ → S.End y K₁ w₁ v #[]) K y { tmps := args ++ Array.replicate (fn.ntmps - args.size) undef, defers := [] } w) :
    J S true K (n + 2) y (Conc.G (Frame.enter S.P f args .normal) []) w := by
  rw [enter_at args hf hb]
  have hleave : ∀ (K' : Nat) (y' : S.G) (a' : Act) (w' : World) (todo : List Item), K' ≤ K → (a'.defers = [] ∧ ∃ v, ResultsC S.P fn a'.tmps v ∧ ∀ K₁, K₁ ≤ K' → ∀ w₁, S.R y' K' K₁ w' w₁ → S.End y' K₁ w₁ v #[]) →
      J S true K' 1 y' (Conc.G { (base f).at a' todo with mode := .returning } []) w' := by
    rintro K' y' a' w' todo hK ⟨hd, v, hv, h⟩
    refine J.step (f := fun _ => 0) rfl fun K₁ hK₁ w₁ r => ?_
    unfold Nxt
    rw [stepG_last (b := base f) rfl hd hf hi (hv w₁).1, (hv w₁).2, seen_none]
    exact ⟨rfl, rfl, v, rfl, h K₁ hK₁ w₁ r⟩
  have := h (base f) [] [] (fun K => 2) rfl (by simp [base]) fun e K' y' a' w' hK q => by
    obtain ⟨he, q⟩ := q
    rcases he with rfl | rfl
    · exact fun todo => (hleave K' y' a' w' todo hK q).more (by omega)
    · exact J.ctl rfl rfl (fun _ => stepG_end) (hleave K' y' a' w' [] hK q)
  exact this.more (by omega)
end Go.Proofs.Ytgnhddnhcfmipaa.Eg
