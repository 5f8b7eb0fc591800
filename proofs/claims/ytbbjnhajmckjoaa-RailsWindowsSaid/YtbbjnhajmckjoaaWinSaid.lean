/- RailsWindows returns true: of any rail that may be, made out of any, and any windows that may be, what meets is the least rung in all of them, of more windows it is not less and in any order the same; a set in which somebody asks for each refuses just what would leave nothing, holds all others, and who drops leaves what there was. -/
import Derived.Test.YtbbjnhajmckjoaaRows
import Derived.Test.YtbbjnhajmckjoaaOpen2
import Derived.Test.YtbbjnhajmckjoaaWinLaw
namespace Go.Proofs.Ytbbjnhajmckjoaa.railsWindows
open Go.ChangeShapes Go.WideShapes Go.ChangeAt Go.RowKit

set_option maxRecDepth 100000 in
theorem contract (H : Type) (enc : TypeId × Value → H) (W : World) (base : Nat) (args : Array Value) (ds gs : List (DataW H)) (before : List MemPlace)
    (_hval : ∀ (j : Nat) t v, Try.f6.params[j]? = some t → args[j]? = some v → Value.okWide Try.prog W .any base t v)
    (hW : DataW.Whole enc Try.prog Try.f6.params.toList Rows.railsWindowsSpec.vars false W args.toList ds gs before)  :
    Calls Try.prog 6 args W fun e W' => ∃ v, e = .returned v ∧ Rows.railsWindowsSpec.post enc Try.prog Try.f6 false true false false W args v W' := by
  have hW' := hW
  obtain ⟨p, q, hA0, hV, rfl, _, _⟩ := hW
  have hA : DataW.TrodAll enc Try.prog W 0 (fun _ => true) true Try.f6.params.toList args.toList ds p := hA0
  rw [Try.params6] at hA _hval
  obtain ⟨v0, vs0, d0, ds0, p0, q0, hargs, rfl, rfl, h0, r0⟩ := trodAll_cons hA
  obtain ⟨v1, vs1, d1, ds1, p1, q1, rfl, rfl, rfl, h1, r1⟩ := trodAll_cons r0
  obtain ⟨rfl, rfl, rfl⟩ := trodAll_nil r1
  obtain rfl : args = #[v0, v1] := by cases args; simp_all
  obtain ⟨rfl, rfl⟩ := trodVars_none hV
  clear hA0
  refine law_calls (by kernel_rfl) (fun t ht => ?_) (tb := 4) rfl Try.underlying4 rfl rfl hW' ?_
  · rw [Try.params6] at ht
    have hm : t ∈ [45, 46] := by simpa using ht
    have hall : ([45, 46].all fun u => Try.prog.readableRec u && decide (u < Try.prog.types.size)) = true := by kernel_rfl
    simpa using List.all_eq_true.1 hall t hm
  obtain ⟨lo0, hi0, st0, rfl⟩ := open_rail (_hval 0 45 v0 rfl rfl) h0
  obtain ⟨n1, h1⟩ := h1
  obtain ⟨aa1, ll1, cc1, rfl⟩ := okWide_slice Try.underlying46 (_hval 1 46 v1 rfl rfl)
  simp only [Value.cells] at h1
  obtain ⟨A1, ws, c1, e1, hp1, hz1, hw1⟩ := wants_trod h1
  simp only [List.cons.injEq, and_true] at e1
  rw [e1]
  exact windows_walk lo0 hi0 st0 ws A1 c1 W hp1

set_option maxRecDepth 100000 in
theorem lifted (os : Os) (started : os.Started) (H : Type) (enc : TypeId × Value → H) :
    ReturnsInHanded {} Try.checked os 6 .any (Rows.railsWindowsSpec.pre6 enc Try.prog Try.f6 Rows.railsWindowsRow.domain false) (Rows.railsWindowsSpec.post enc Try.prog Try.f6 false true false false) := by
  refine returnsInHanded_of_change_sized (C := Try.checked) own started (by kernel_rfl) Try.func6
    (ChangeSpec.witness6 (enc := enc) (C := Try.checked) false ⟨#[], #[.agg #[.int .i64 0, .int .i64 0, .int .i64 0], .slice none 0 0], []⟩ 8 (by kernel_rfl) (by kernel_rfl) (by kernel_rfl) (by kernel_rfl)) ?_
  intro W base args ds gs before hval hW _ _ _
  exact contract H enc W base args ds gs before hval hW

theorem said : Rows.RailsWindowsSaid :=
  OpenClaim.holds_of_wide 6 Try.f6 rfl rfl rfl rfl rfl rfl rfl ⟨rfl, rfl, rfl, rfl, rfl⟩ rfl rfl rfl rfl rfl (by kernel_rfl) Try.func6 (by kernel_rfl)
    (of_decide_eq_true (by kernel_rfl)) (by unfold Func.isWrapper; first | (rw [if_pos (by decide +kernel)]; kernel_rfl) | (rw [if_neg (by decide +kernel)]; exact ⟨rfl, rfl⟩))
    (fun os started H enc _ => lifted os started H enc)
end Go.Proofs.Ytbbjnhajmckjoaa.railsWindows
