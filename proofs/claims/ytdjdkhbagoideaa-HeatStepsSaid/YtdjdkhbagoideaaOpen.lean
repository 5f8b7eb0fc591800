/- Heat: the arguments, opened: from which reading to which one. -/
import Derived.Test.YtdjdkhbagoideaaSettles
import Derived.WideShapes
import Derived.ChangeSlices
import Derived.OpenShut
import Derived.Conc.Holds
import Derived.Leaving
import Derived.Handed
import Derived.SizedLaws
namespace Go.Proofs.Ytdjdkhbagoideaa
open Go.ChangeShapes Go.WideShapes Go.ChangeAt Go.RowKit Go.Deep

theorem own : ownKnob Try.prog.godebug = none := by kernel_rfl
set_option maxRecDepth 100000 in
theorem rest_trod {H : Type} {enc : TypeId × Value → H} {W : World} {n : Nat} {cs : List Value} {x : DataW H × List MemPlace} (h : DataW.trod enc Try.prog W 0 (fun _ => true) true n 24 cs = some x) :
    ∃ a t b N : Int, cs = [.int .i16 a, .int .i16 t, .int .u8 b, .int .i64 N] ∧ (-32768 ≤ a ∧ a ≤ 32767) ∧ (-32768 ≤ t ∧ t ≤ 32767) ∧ 0 ≤ b ∧ b ≤ 255 := by
  obtain ⟨xs, m, rfl, _, hlen, hxl, hf⟩ := DataW.trod_struct Try.underlying24 h
  have c24 : Try.prog.cellsOf 24 = 4 := by kernel_rfl
  rw [c24] at hlen
  match cs, hlen with
  | [v0, v1, v2, v3], _ =>
    have q0 := hf 0 _ rfl
    have q1 := hf 1 _ rfl
    have q2 := hf 2 _ rfl
    have q3 := hf 3 _ rfl
    match xs, hxl with
    | [y0, y1, y2, y3], _ =>
      have c3 : Try.prog.cellsOf 3 = 1 := by kernel_rfl
      have c5 : Try.prog.cellsOf 5 = 1 := by kernel_rfl
      have c22 : Try.prog.cellsOf 22 = 1 := by kernel_rfl
      have r0 : DataW.trod enc Try.prog W 0 (fun _ => true) true m 22 (([v0, v1, v2, v3].drop 0).take (Try.prog.cellsOf 22)) = some y0 := q0
      have r1 : DataW.trod enc Try.prog W 0 (fun _ => true) true m 22 (([v0, v1, v2, v3].drop 1).take (Try.prog.cellsOf 22)) = some y1 := q1
      have r2 : DataW.trod enc Try.prog W 0 (fun _ => true) true m 5 (([v0, v1, v2, v3].drop 2).take (Try.prog.cellsOf 5)) = some y2 := q2
      have r3 : DataW.trod enc Try.prog W 0 (fun _ => true) true m 3 (([v0, v1, v2, v3].drop 3).take (Try.prog.cellsOf 3)) = some y3 := q3
      rw [c22] at r0 r1
      rw [c5] at r2
      rw [c3] at r3
      simp only [List.drop_zero, List.drop_succ_cons, List.take_succ_cons, List.take_zero] at r0 r1 r2 r3
      obtain ⟨a, h0, _, w0⟩ := DataW.trod_int Try.underlying22 r0
      obtain ⟨b, h1, _, w1⟩ := DataW.trod_int Try.underlying22 r1
      obtain ⟨c, h2, _, w2⟩ := DataW.trod_int Try.underlying5 r2
      obtain ⟨d, h3, _, _⟩ := DataW.trod_int Try.underlying3 r3
      simp only [List.cons.injEq, and_true] at h0 h1 h2 h3
      have b0 : -32768 ≤ a ∧ a ≤ 32767 := by simpa [Lit.wf, IntKind.min, IntKind.max, IntKind.bits, IntKind.signed] using w0
      have b1 : -32768 ≤ b ∧ b ≤ 32767 := by simpa [Lit.wf, IntKind.min, IntKind.max, IntKind.bits, IntKind.signed] using w1
      have b2 : 0 ≤ c ∧ c ≤ 255 := by simpa [Lit.wf, IntKind.min, IntKind.max, IntKind.bits, IntKind.signed] using w2
      exact ⟨a, b, c, d, by rw [h0, h1, h2, h3], b0, b1, b2.1, b2.2⟩
end Go.Proofs.Ytdjdkhbagoideaa
