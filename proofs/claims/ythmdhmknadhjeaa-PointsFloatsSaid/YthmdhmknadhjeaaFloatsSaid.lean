/- PointsFloats returns true: of any points and any floats, NaN and endless ones too, what a point draws, the best one, the next one are the document's; what was handed in stays; and so again over the same points with other rates in them. -/
import Derived.Test.YthmdhmknadhjeaaRows
import Derived.Test.YthmdhmknadhjeaaOpen
import Derived.Test.YthmdhmknadhjeaaFloats
namespace Go.Proofs.Ythmdhmknadhjeaa.pointsFloats
open Go.ChangeShapes Go.WideShapes Go.ChangeAt Go.RowKit

set_option maxRecDepth 100000 in
theorem contract (H : Type) (enc : TypeId × Value → H) (W : World) (base : Nat) (args : Array Value) (ds gs : List (DataW H)) (before : List MemPlace)
    (_hval : ∀ (j : Nat) t v, Try.f10.params[j]? = some t → args[j]? = some v → Value.okWide Try.prog W .any base t v)
    (hW : DataW.Whole enc Try.prog Try.f10.params.toList Rows.pointsFloatsSpec.vars false W args.toList ds gs before) 
    (hreach : (DataW.weightsEach Try.prog (Try.f10.params.toList ++ (OpenSpec.ofChange Rows.pointsFloatsSpec).bare.plain.varTypes Try.prog) (ds ++ gs)).all (· ≤ reachBytes) = true) :
    Calls Try.prog 10 args W fun e W' => ∃ v, e = .returned v ∧ Rows.pointsFloatsSpec.post enc Try.prog Try.f10 false true false false W args v W' := by
  have hW' := hW
  obtain ⟨p, q, hA0, hV, rfl, _, _⟩ := hW
  have hA : DataW.TrodAll enc Try.prog W 0 (fun _ => true) true Try.f10.params.toList args.toList ds p := hA0
  rw [Try.params10] at hA _hval
  obtain ⟨v0, vs0, d0, ds0, p0, q0, hargs, rfl, rfl, h0, r0⟩ := trodAll_cons hA
  obtain ⟨v1, vs1, d1, ds1, p1, q1, rfl, rfl, rfl, h1, r1⟩ := trodAll_cons r0
  obtain ⟨v2, vs2, d2, ds2, p2, q2, rfl, rfl, rfl, h2, r2⟩ := trodAll_cons r1
  obtain ⟨v3, vs3, d3, ds3, p3, q3, rfl, rfl, rfl, h3, r3⟩ := trodAll_cons r2
  obtain ⟨v4, vs4, d4, ds4, p4, q4, rfl, rfl, rfl, h4, r4⟩ := trodAll_cons r3
  obtain ⟨v5, vs5, d5, ds5, p5, q5, rfl, rfl, rfl, h5, r5⟩ := trodAll_cons r4
  obtain ⟨v6, vs6, d6, ds6, p6, q6, rfl, rfl, rfl, h6, r6⟩ := trodAll_cons r5
  obtain ⟨v7, vs7, d7, ds7, p7, q7, rfl, rfl, rfl, h7, r7⟩ := trodAll_cons r6
  obtain ⟨rfl, rfl, rfl⟩ := trodAll_nil r7
  obtain rfl : args = #[v0, v1, v2, v3, v4, v5, v6, v7] := by cases args; simp_all
  obtain ⟨rfl, rfl⟩ := trodVars_none hV
  clear hA0
  refine law_calls (by kernel_rfl) (fun t ht => ?_) (tb := 4) rfl Try.underlying4 rfl rfl hW' ?_
  · rw [Try.params10] at ht
    have hm : t ∈ [27, 3, 62, 62, 62, 62, 62, 62] := by simpa using ht
    have hall : ([27, 3, 62, 62, 62, 62, 62, 62].all fun u => Try.prog.readableRec u && decide (u < Try.prog.types.size)) = true := by kernel_rfl
    simpa using List.all_eq_true.1 hall t hm
  obtain ⟨A0, l, c0, rfl, hp0, hd0⟩ := open_points (_hval 0 27 v0 rfl rfl) h0
  obtain ⟨a, rfl, rfl, rfl, wf1⟩ := open_int Try.underlying3 (_hval 1 3 v1 rfl rfl) h1
  have bd1 := bounds_i64 wf1
  obtain ⟨wk, rfl, rfl, rfl, _⟩ := open_float Try.underlying62 (_hval 2 62 v2 rfl rfl) h2
  obtain ⟨tm, rfl, rfl, rfl, _⟩ := open_float Try.underlying62 (_hval 3 62 v3 rfl rfl) h3
  obtain ⟨fa, rfl, rfl, rfl, _⟩ := open_float Try.underlying62 (_hval 4 62 v4 rfl rfl) h4
  obtain ⟨lk, rfl, rfl, rfl, _⟩ := open_float Try.underlying62 (_hval 5 62 v5 rfl rfl) h5
  obtain ⟨up, rfl, rfl, rfl, _⟩ := open_float Try.underlying62 (_hval 6 62 v6 rfl rfl) h6
  obtain ⟨dn, rfl, rfl, rfl, _⟩ := open_float Try.underlying62 (_hval 7 62 v7 rfl rfl) h7
  exact floats_walk l A0 c0 a wk tm fa lk up dn W hp0 (reach_points (j := 0) hreach rfl rfl hd0)

set_option maxRecDepth 100000 in
theorem lifted (os : Os) (started : os.Started) (H : Type) (enc : TypeId × Value → H) :
    ReturnsInHanded {} Try.checked os 10 .any (Rows.pointsFloatsSpec.pre6 enc Try.prog Try.f10 Rows.pointsFloatsRow.domain false) (Rows.pointsFloatsSpec.post enc Try.prog Try.f10 false true false false) := by
  refine returnsInHanded_of_change_sized (C := Try.checked) own started (by kernel_rfl) Try.func10
    (ChangeSpec.witness6 (enc := enc) (C := Try.checked) false ⟨#[], #[.slice none 0 0, .int .i64 0, .float .f64 0, .float .f64 0, .float .f64 0, .float .f64 0, .float .f64 0, .float .f64 0], []⟩ 8 (by kernel_rfl) (by kernel_rfl) (by kernel_rfl) (by kernel_rfl)) ?_
  intro W base args ds gs before hval hW _ hreach _
  exact contract H enc W base args ds gs before hval hW hreach

theorem said : Rows.PointsFloatsSaid :=
  OpenClaim.holds_of_wide 10 Try.f10 rfl rfl rfl rfl rfl rfl rfl ⟨rfl, rfl, rfl, rfl, rfl⟩ rfl rfl rfl rfl rfl (by kernel_rfl) Try.func10 (by kernel_rfl)
    (of_decide_eq_true (by kernel_rfl)) (by unfold Func.isWrapper; first | (rw [if_pos (by decide +kernel)]; kernel_rfl) | (rw [if_neg (by decide +kernel)]; exact ⟨rfl, rfl⟩))
    (fun os started H enc _ => lifted os started H enc)
end Go.Proofs.Ythmdhmknadhjeaa.pointsFloats
