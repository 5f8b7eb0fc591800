/- PointsLeast returns true: of any table and any everyday numbers what is best is in time and no other one in time draws less; with twice the time one draws no more; a load that is not high never leads upward. -/
import Derived.Test.YthmdhmknadhjeaaRows
import Derived.Test.YthmdhmknadhjeaaOpen
import Derived.Test.YthmdhmknadhjeaaLeast
namespace Go.Proofs.Ythmdhmknadhjeaa.pointsLeast
open Go.ChangeShapes Go.WideShapes Go.ChangeAt Go.RowKit

set_option maxRecDepth 100000 in
theorem contract (H : Type) (enc : TypeId × Value → H) (W : World) (base : Nat) (args : Array Value) (ds gs : List (DataW H)) (before : List MemPlace)
    (_hval : ∀ (j : Nat) t v, Try.f11.params[j]? = some t → args[j]? = some v → Value.okWide Try.prog W .any base t v)
    (hW : DataW.Whole enc Try.prog Try.f11.params.toList Rows.pointsLeastSpec.vars false W args.toList ds gs before)  :
    Calls Try.prog 11 args W fun e W' => ∃ v, e = .returned v ∧ Rows.pointsLeastSpec.post enc Try.prog Try.f11 false true false false W args v W' := by
  have hW' := hW
  obtain ⟨p, q, hA0, hV, rfl, _, _⟩ := hW
  have hA : DataW.TrodAll enc Try.prog W 0 (fun _ => true) true Try.f11.params.toList args.toList ds p := hA0
  rw [Try.params11] at hA _hval
  obtain ⟨v0, vs0, d0, ds0, p0, q0, hargs, rfl, rfl, h0, r0⟩ := trodAll_cons hA
  obtain ⟨v1, vs1, d1, ds1, p1, q1, rfl, rfl, rfl, h1, r1⟩ := trodAll_cons r0
  obtain ⟨v2, vs2, d2, ds2, p2, q2, rfl, rfl, rfl, h2, r2⟩ := trodAll_cons r1
  obtain ⟨v3, vs3, d3, ds3, p3, q3, rfl, rfl, rfl, h3, r3⟩ := trodAll_cons r2
  obtain ⟨v4, vs4, d4, ds4, p4, q4, rfl, rfl, rfl, h4, r4⟩ := trodAll_cons r3
  obtain ⟨v5, vs5, d5, ds5, p5, q5, rfl, rfl, rfl, h5, r5⟩ := trodAll_cons r4
  obtain ⟨v6, vs6, d6, ds6, p6, q6, rfl, rfl, rfl, h6, r6⟩ := trodAll_cons r5
  obtain ⟨rfl, rfl, rfl⟩ := trodAll_nil r6
  obtain rfl : args = #[v0, v1, v2, v3, v4, v5, v6] := by cases args; simp_all
  obtain ⟨rfl, rfl⟩ := trodVars_none hV
  clear hA0
  refine law_calls (by kernel_rfl) (fun t ht => ?_) (tb := 4) rfl Try.underlying4 rfl rfl hW' ?_
  · rw [Try.params11] at ht
    have hm : t ∈ [27, 73, 73, 73, 73, 3, 62] := by simpa using ht
    have hall : ([27, 73, 73, 73, 73, 3, 62].all fun u => Try.prog.readableRec u && decide (u < Try.prog.types.size)) = true := by kernel_rfl
    simpa using List.all_eq_true.1 hall t hm
  obtain ⟨A0, l, c0, rfl, hp0, hd0⟩ := open_points (_hval 0 27 v0 rfl rfl) h0
  obtain ⟨work, rfl, rfl, rfl, wf1⟩ := open_int Try.underlying73 (_hval 1 73 v1 rfl rfl) h1
  have bd1 := bounds_u16 wf1
  obtain ⟨time, rfl, rfl, rfl, wf2⟩ := open_int Try.underlying73 (_hval 2 73 v2 rfl rfl) h2
  have bd2 := bounds_u16 wf2
  obtain ⟨far, rfl, rfl, rfl, wf3⟩ := open_int Try.underlying73 (_hval 3 73 v3 rfl rfl) h3
  have bd3 := bounds_u16 wf3
  obtain ⟨lek, rfl, rfl, rfl, wf4⟩ := open_int Try.underlying73 (_hval 4 73 v4 rfl rfl) h4
  have bd4 := bounds_u16 wf4
  obtain ⟨a, rfl, rfl, rfl, wf5⟩ := open_int Try.underlying3 (_hval 5 3 v5 rfl rfl) h5
  have bd5 := bounds_i64 wf5
  obtain ⟨ld, rfl, rfl, rfl, _⟩ := open_float Try.underlying62 (_hval 6 62 v6 rfl rfl) h6
  exact least_walk l A0 c0 work time far lek a ld bd1 bd2 bd3 bd4 W hp0

set_option maxRecDepth 100000 in
theorem lifted (os : Os) (started : os.Started) (H : Type) (enc : TypeId × Value → H) :
    ReturnsInHanded {} Try.checked os 11 .any (Rows.pointsLeastSpec.pre6 enc Try.prog Try.f11 Rows.pointsLeastRow.domain false) (Rows.pointsLeastSpec.post enc Try.prog Try.f11 false true false false) := by
  refine returnsInHanded_of_change_sized (C := Try.checked) own started (by kernel_rfl) Try.func11
    (ChangeSpec.witness6 (enc := enc) (C := Try.checked) false ⟨#[], #[.slice none 0 0, .int .u16 0, .int .u16 0, .int .u16 0, .int .u16 0, .int .i64 0, .float .f64 0], []⟩ 8 (by kernel_rfl) (by kernel_rfl) (by kernel_rfl) (by kernel_rfl)) ?_
  intro W base args ds gs before hval hW _ _ _
  exact contract H enc W base args ds gs before hval hW

theorem said : Rows.PointsLeastSaid :=
  OpenClaim.holds_of_wide 11 Try.f11 rfl rfl rfl rfl rfl rfl rfl ⟨rfl, rfl, rfl, rfl, rfl⟩ rfl rfl rfl rfl rfl (by kernel_rfl) Try.func11 (by kernel_rfl)
    (of_decide_eq_true (by kernel_rfl)) (by unfold Func.isWrapper; first | (rw [if_pos (by decide +kernel)]; kernel_rfl) | (rw [if_neg (by decide +kernel)]; exact ⟨rfl, rfl⟩))
    (fun os started H enc _ => lifted os started H enc)
end Go.Proofs.Ythmdhmknadhjeaa.pointsLeast
