/- Net: the arguments, opened: a sweep's numbers. -/
import Derived.Test.YtfmjmjppkdaanaaOpen2
import Derived.Lib.SmallJoins
namespace Go.Proofs.Ytfmjmjppkdaanaa
open Go.ChangeShapes Go.WideShapes Go.ChangeAt Go.RowKit Go.Deep Go.Joins

set_option maxRecDepth 100000 in
theorem open_sweep {H : Type} {enc : TypeId × Value → H} {W : World} {v : Value} {d : DataW H} {p : List MemPlace} {r : Reach} {b0 : Nat} (hval : Value.okWide Try.prog W r b0 61 v) (h : DataW.Trod enc Try.prog W 0 (fun _ => true) true 61 v d p) :
    ∃ f s m n : Int, v = .agg #[.int .u64 f, .int .u64 s, .int .u64 m, .int .i64 n] := by
  obtain ⟨v0, v1, v2, v3, y0, y1, y2, y3, n, hv, _, _, h0, h1, h2, h3⟩ := open_agg4 Try.underlying61 (by kernel_rfl) (by kernel_rfl) hval h
  obtain ⟨x, e0, _⟩ := DataW.trod_int Try.underlying22 h0
  obtain ⟨y, e1, _⟩ := DataW.trod_int Try.underlying22 h1
  obtain ⟨z, e2, _⟩ := DataW.trod_int Try.underlying22 h2
  obtain ⟨t, e3, _⟩ := DataW.trod_int Try.underlying3 h3
  simp only [List.cons.injEq, and_true] at e0 e1 e2 e3
  exact ⟨x, y, z, t, by rw [hv, e0, e1, e2, e3]⟩
end Go.Proofs.Ytfmjmjppkdaanaa
