/- RailsSets returns true: two sets of any rail, asked and dropped in any turns, and a nil one, answer as the document's sets do, and stand as they do behind each call; the list of holders that is handed out is new memory. -/
import Derived.Test.YtbbjnhajmckjoaaRows
import Derived.Test.YtbbjnhajmckjoaaSetsLaw
namespace Go.Proofs.Ytbbjnhajmckjoaa.railsSets
open Go.ChangeShapes Go.WideShapes Go.ChangeAt Go.RowKit

set_option maxRecDepth 100000 in
theorem contract (H : Type) (enc : TypeId × Value → H) (W : World) (base : Nat) (args : Array Value) (ds gs : List (DataW H)) (before : List MemPlace)
    (_hval : ∀ (j : Nat) t v, Try.f5.params[j]? = some t → args[j]? = some v → Value.okWide Try.prog W .any base t v)
    (hW : DataW.Whole enc Try.prog Try.f5.params.toList Rows.railsSetsSpec.vars false W args.toList ds gs before)  :
    Calls Try.prog 5 args W fun e W' => ∃ v, e = .returned v ∧ Rows.railsSetsSpec.post enc Try.prog Try.f5 false true false false W args v W' := by
  have hW' := hW
  obtain ⟨p, q, hA0, hV, rfl, _, _⟩ := hW
  have hA : DataW.TrodAll enc Try.prog W 0 (fun _ => true) true Try.f5.params.toList args.toList ds p := hA0
  rw [Try.params5] at hA _hval
  obtain ⟨v0, vs0, d0, ds0, p0, q0, hargs, rfl, rfl, h0, r0⟩ := trodAll_cons hA
  obtain ⟨v1, vs1, d1, ds1, p1, q1, rfl, rfl, rfl, h1, r1⟩ := trodAll_cons r0
  obtain ⟨rfl, rfl, rfl⟩ := trodAll_nil r1
  obtain rfl : args = #[v0, v1] := by cases args; simp_all
  obtain ⟨rfl, rfl⟩ := trodVars_none hV
  clear hA0
  refine law_calls (by kernel_rfl) (fun t ht => ?_) (tb := 4) rfl Try.underlying4 rfl rfl hW' ?_
  · rw [Try.params5] at ht
    have hm : t ∈ [45, 60] := by simpa using ht
    have hall : ([45, 60].all fun u => Try.prog.readableRec u && decide (u < Try.prog.types.size)) = true := by kernel_rfl
    simpa using List.all_eq_true.1 hall t hm
  obtain ⟨lo0, hi0, st0, rfl⟩ := open_rail (_hval 0 45 v0 rfl rfl) h0
  obtain ⟨n1, h1⟩ := h1
  obtain ⟨aa1, ll1, cc1, rfl⟩ := okWide_slice Try.underlying60 (_hval 1 60 v1 rfl rfl)
  simp only [Value.cells] at h1
  obtain ⟨A1, s, c1, e1, hp1, hw1⟩ := steps_trod h1
  simp only [List.cons.injEq, and_true] at e1
  rw [e1]
  exact sets_walk lo0 hi0 st0 s A1 c1 W hp1 hw1

set_option maxRecDepth 100000 in
theorem lifted (os : Os) (started : os.Started) (H : Type) (enc : TypeId × Value → H) :
    ReturnsInHanded {} Try.checked os 5 .any (Rows.railsSetsSpec.pre6 enc Try.prog Try.f5 Rows.railsSetsRow.domain false) (Rows.railsSetsSpec.post enc Try.prog Try.f5 false true false false) := by
  refine returnsInHanded_of_change_sized (C := Try.checked) own started (by kernel_rfl) Try.func5
    (ChangeSpec.witness6 (enc := enc) (C := Try.checked) false ⟨#[], #[.agg #[.int .i64 0, .int .i64 0, .int .i64 0], .slice none 0 0], []⟩ 8 (by kernel_rfl) (by kernel_rfl) (by kernel_rfl) (by kernel_rfl)) ?_
  intro W base args ds gs before hval hW _ _ _
  exact contract H enc W base args ds gs before hval hW

theorem said : Rows.RailsSetsSaid :=
  OpenClaim.holds_of_wide 5 Try.f5 rfl rfl rfl rfl rfl rfl rfl ⟨rfl, rfl, rfl, rfl, rfl⟩ rfl rfl rfl rfl rfl (by kernel_rfl) Try.func5 (by kernel_rfl)
    (of_decide_eq_true (by kernel_rfl)) (by unfold Func.isWrapper; first | (rw [if_pos (by decide +kernel)]; kernel_rfl) | (rw [if_neg (by decide +kernel)]; exact ⟨rfl, rfl⟩))
    (fun os started H enc _ => lifted os started H enc)
end Go.Proofs.Ytbbjnhajmckjoaa.railsSets
