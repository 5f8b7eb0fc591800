/- RailsWays returns true: of any fed rails that are some, and volts that hold, the moves that lead from the ones to the others may be made one behind the other: behind each the volts hold, no rail is moved twice, at the end they are the others, and back again are as many. -/
import Derived.Test.YtbbjnhajmckjoaaRows
import Derived.Test.YtbbjnhajmckjoaaOpen
import Derived.Test.YtbbjnhajmckjoaaWaysLaw
namespace Go.Proofs.Ytbbjnhajmckjoaa.railsWays
open Go.ChangeShapes Go.WideShapes Go.ChangeAt Go.RowKit

set_option maxRecDepth 100000 in
theorem contract (H : Type) (enc : TypeId × Value → H) (W : World) (base : Nat) (args : Array Value) (ds gs : List (DataW H)) (before : List MemPlace)
    (_hval : ∀ (j : Nat) t v, Try.f7.params[j]? = some t → args[j]? = some v → Value.okWide Try.prog W .any base t v)
    (hW : DataW.Whole enc Try.prog Try.f7.params.toList Rows.railsWaysSpec.vars false W args.toList ds gs before)  :
    Calls Try.prog 7 args W fun e W' => ∃ v, e = .returned v ∧ Rows.railsWaysSpec.post enc Try.prog Try.f7 false true false false W args v W' := by
  have hW' := hW
  obtain ⟨p, q, hA0, hV, rfl, _, _⟩ := hW
  have hA : DataW.TrodAll enc Try.prog W 0 (fun _ => true) true Try.f7.params.toList args.toList ds p := hA0
  rw [Try.params7] at hA _hval
  obtain ⟨v0, vs0, d0, ds0, p0, q0, hargs, rfl, rfl, h0, r0⟩ := trodAll_cons hA
  obtain ⟨v1, vs1, d1, ds1, p1, q1, rfl, rfl, rfl, h1, r1⟩ := trodAll_cons r0
  obtain ⟨v2, vs2, d2, ds2, p2, q2, rfl, rfl, rfl, h2, r2⟩ := trodAll_cons r1
  obtain ⟨rfl, rfl, rfl⟩ := trodAll_nil r2
  obtain rfl : args = #[v0, v1, v2] := by cases args; simp_all
  obtain ⟨rfl, rfl⟩ := trodVars_none hV
  clear hA0
  refine law_calls (by kernel_rfl) (fun t ht => ?_) (tb := 4) rfl Try.underlying4 rfl rfl hW' ?_
  · rw [Try.params7] at ht
    have hm : t ∈ [22, 23, 23] := by simpa using ht
    have hall : ([22, 23, 23].all fun u => Try.prog.readableRec u && decide (u < Try.prog.types.size)) = true := by kernel_rfl
    simpa using List.all_eq_true.1 hall t hm
  obtain ⟨n0, h0⟩ := h0
  obtain ⟨aa0, ll0, cc0, rfl⟩ := okWide_slice Try.underlying22 (_hval 0 22 v0 rfl rfl)
  simp only [Value.cells] at h0
  obtain ⟨A0, l, c0, e0, hp0, hz0, hw0⟩ := feds_trod h0
  simp only [List.cons.injEq, and_true] at e0
  rw [e0]
  obtain ⟨n1, h1⟩ := h1
  obtain ⟨aa1, ll1, cc1, rfl⟩ := okWide_slice Try.underlying23 (_hval 1 23 v1 rfl rfl)
  simp only [Value.cells] at h1
  obtain ⟨A1, f, c1, e1, hp1, hz1, hw1, hr1⟩ := ints_trod h1
  simp only [List.cons.injEq, and_true] at e1
  rw [e1]
  obtain ⟨n2, h2⟩ := h2
  obtain ⟨aa2, ll2, cc2, rfl⟩ := okWide_slice Try.underlying23 (_hval 2 23 v2 rfl rfl)
  simp only [Value.cells] at h2
  obtain ⟨A2, t, c2, e2, hp2, hz2, hw2, hr2⟩ := ints_trod h2
  simp only [List.cons.injEq, and_true] at e2
  rw [e2]
  exact ways_walk l f t A0 A1 A2 c0 c1 c2 W hp0 hp1 hp2

set_option maxRecDepth 100000 in
theorem lifted (os : Os) (started : os.Started) (H : Type) (enc : TypeId × Value → H) :
    ReturnsInHanded {} Try.checked os 7 .any (Rows.railsWaysSpec.pre6 enc Try.prog Try.f7 Rows.railsWaysRow.domain false) (Rows.railsWaysSpec.post enc Try.prog Try.f7 false true false false) := by
  refine returnsInHanded_of_change_sized (C := Try.checked) own started (by kernel_rfl) Try.func7
    (ChangeSpec.witness6 (enc := enc) (C := Try.checked) false ⟨#[], #[.slice none 0 0, .slice none 0 0, .slice none 0 0], []⟩ 8 (by kernel_rfl) (by kernel_rfl) (by kernel_rfl) (by kernel_rfl)) ?_
  intro W base args ds gs before hval hW _ _ _
  exact contract H enc W base args ds gs before hval hW

theorem said : Rows.RailsWaysSaid :=
  OpenClaim.holds_of_wide 7 Try.f7 rfl rfl rfl rfl rfl rfl rfl ⟨rfl, rfl, rfl, rfl, rfl⟩ rfl rfl rfl rfl rfl (by kernel_rfl) Try.func7 (by kernel_rfl)
    (of_decide_eq_true (by kernel_rfl)) (by unfold Func.isWrapper; first | (rw [if_pos (by decide +kernel)]; kernel_rfl) | (rw [if_neg (by decide +kernel)]; exact ⟨rfl, rfl⟩))
    (fun os started H enc _ => lifted os started H enc)
end Go.Proofs.Ytbbjnhajmckjoaa.railsWays
