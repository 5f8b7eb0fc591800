/- IdleStorms: a worker, from its birth to its end. -/
import Derived.Test.YtgnhddnhcfmipaaIds19
namespace Go.Proofs.Ytgnhddnhcfmipaa.Ids
open Go Go.Conc Go.RowKit Go.Proofs.Ytgnhddnhcfmipaa.Eg Go.Proofs.Ytgnhddnhcfmipaa

def kidCall (c : Cfg) : Deferred := { target := .fn (.func 55) #[.pointer (some ⟨c.wg, 0, none⟩), .pointer (some ⟨c.tb, 0, none⟩), .pointer (some ⟨c.wb, 0, none⟩)], args := #[] }

set_option maxRecDepth 100000 in
theorem born_step (c : Cfg) (w : World) : stepG Try.prog false (born Try.prog (kidCall c)) w =
    .go (Conc.G ((baseD 55).at ⟨#[.pointer (some ⟨c.wg, 0, none⟩), .pointer (some ⟨c.tb, 0, none⟩), .pointer (some ⟨c.wb, 0, none⟩), undef, undef, undef, undef, undef, undef, undef, undef], []⟩ [.code (Try.f55.body.getD .skip)]) [bot]) w #[] := by
  simp [born, kidCall, stepG, unwind, callDeferred, invoke, callFunc, Try.func55, Try.f55, seen, GStep.after, Conc.G, Frame.enter, Frame.at, baseD, bot]

/-- ████ A WORKER. ████ -/
theorem kid (c : Cfg) : ∃ n, ∀ {N K : Nat} {y : Gh Role} {w : World} (_ : y.role = .work c (.busy false false)) (_ : y.deaf = 0) (_ : y.rem = 2 * c.T + 1) (_ : Ctx N T0 y K w []), J (S N) false K n y (born Try.prog (kidCall c)) w := by
  obtain ⟨nb, hbody⟩ := body55 c
  obtain ⟨nt, htail⟩ := tail55
  refine ⟨nt + 1 + nb + 1, fun {N K y w} hr hdf hrem H => ?_⟩
  refine J.ctl rfl rfl (fun w => born_step c w) ?_
  refine hbody (N := N) (Q := fun e K y a w => e = .normal ∧ ∀ todo, J (S N) false K nt y (Conc.G { (baseD 55).at a todo with mode := .returning } [bot]) w) hr hdf hrem H (fun K y a w ha hr hdf hrem H => ⟨rfl, fun todo => ?_⟩) (baseD 55) [] [bot] (fun _ => nt + 1) rfl (by simp [baseD]) fun e K' y' a' w' hK q => ?_
  · obtain ⟨tm, df⟩ := a
    simp only at ha
    subst ha
    exact htail c _ tm todo hr (fun h => by simpa using h) hdf (by omega) H
  · obtain ⟨rfl, q⟩ := q
    exact J.ctl rfl rfl (fun _ => stepG_end) (q [])
end Go.Proofs.Ytgnhddnhcfmipaa.Ids
