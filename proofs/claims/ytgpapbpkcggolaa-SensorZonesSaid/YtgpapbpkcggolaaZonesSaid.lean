/- SensorZones returns true: of any marks and any readings the program's Zone and Median are the document's; what was handed in stays; and so again over the same lists with something else in them. -/
import Derived.Test.YtgpapbpkcggolaaRows
import Derived.Test.YtgpapbpkcggolaaOpen
import Derived.Test.YtgpapbpkcggolaaZn1
namespace Go.Proofs.Ytgpapbpkcggolaa.sensorZones
open Go.ChangeShapes Go.WideShapes Go.ChangeAt Go.RowKit

set_option maxRecDepth 100000 in
theorem contract (H : Type) (enc : TypeId × Value → H) (W : World) (base : Nat) (args : Array Value) (ds gs : List (DataW H)) (before : List MemPlace)
    (_hval : ∀ (j : Nat) t v, Try.f4.params[j]? = some t → args[j]? = some v → Value.okWide Try.prog W .any base t v)
    (hW : DataW.Whole enc Try.prog Try.f4.params.toList Rows.sensorZonesSpec.vars false W args.toList ds gs before) 
    (hreach : (DataW.weightsEach Try.prog (Try.f4.params.toList ++ (OpenSpec.ofChange Rows.sensorZonesSpec).bare.plain.varTypes Try.prog) (ds ++ gs)).all (· ≤ reachBytes) = true) :
    Calls Try.prog 4 args W fun e W' => ∃ v, e = .returned v ∧ Rows.sensorZonesSpec.post enc Try.prog Try.f4 false true false false W args v W' := by
  have hW' := hW
  obtain ⟨p, q, hA0, hV, rfl, _, _⟩ := hW
  have hA : DataW.TrodAll enc Try.prog W 0 (fun _ => true) true Try.f4.params.toList args.toList ds p := hA0
  rw [Try.params4] at hA _hval
  obtain ⟨v0, vs0, d0, ds0, p0, q0, hargs, rfl, rfl, h0, r0⟩ := trodAll_cons hA
  obtain ⟨v1, vs1, d1, ds1, p1, q1, rfl, rfl, rfl, h1, r1⟩ := trodAll_cons r0
  obtain ⟨v2, vs2, d2, ds2, p2, q2, rfl, rfl, rfl, h2, r2⟩ := trodAll_cons r1
  obtain ⟨rfl, rfl, rfl⟩ := trodAll_nil r2
  obtain rfl : args = #[v0, v1, v2] := by cases args; simp_all
  obtain ⟨rfl, rfl⟩ := trodVars_none hV
  clear hA0
  refine law_calls (by kernel_rfl) (fun t ht => ?_) (tb := 4) rfl Try.underlying4 rfl rfl hW' ?_
  · rw [Try.params4] at ht
    have hm : t ∈ [31, 26, 31] := by simpa using ht
    have hall : ([31, 26, 31].all fun u => Try.prog.readableRec u && decide (u < Try.prog.types.size)) = true := by kernel_rfl
    simpa using List.all_eq_true.1 hall t hm
  obtain ⟨n0, h0⟩ := h0
  obtain ⟨aa0, ll0, cc0, rfl⟩ := okWide_slice Try.underlying31 (_hval 0 31 v0 rfl rfl)
  simp only [Value.cells] at h0
  obtain ⟨A0, mk, c0, e0, hp0, hz0, hw0, hr0⟩ := i8s_trod h0
  simp only [List.cons.injEq, and_true] at e0
  rw [e0]
  obtain ⟨deg, rfl, rfl, rfl, wf1⟩ := open_int Try.underlying26 (_hval 1 26 v1 rfl rfl) h1
  have bd1 := bounds_i8 wf1
  obtain ⟨n2, h2⟩ := h2
  obtain ⟨aa2, ll2, cc2, rfl⟩ := okWide_slice Try.underlying31 (_hval 2 31 v2 rfl rfl)
  simp only [Value.cells] at h2
  obtain ⟨A2, l, c2, e2, hp2, hz2, hw2, hr2⟩ := i8s_trod h2
  simp only [List.cons.injEq, and_true] at e2
  rw [e2]
  exact zones_walk mk l deg A0 A2 c0 c2 mk.length l.length W hp0 rfl hp2 rfl hz0 hz2 (by have := hw0 (wts hreach (j := 0) rfl rfl); omega) (by have := hw2 (wts hreach (j := 2) rfl rfl); omega) hr0 hr2

set_option maxRecDepth 100000 in
theorem lifted (os : Os) (started : os.Started) (H : Type) (enc : TypeId × Value → H) :
    ReturnsInHanded {} Try.checked os 4 .any (Rows.sensorZonesSpec.pre6 enc Try.prog Try.f4 Rows.sensorZonesRow.domain false) (Rows.sensorZonesSpec.post enc Try.prog Try.f4 false true false false) := by
  refine returnsInHanded_of_change_sized (C := Try.checked) own started (by kernel_rfl) Try.func4
    (ChangeSpec.witness6 (enc := enc) (C := Try.checked) false ⟨#[], #[.slice none 0 0, .int .i8 0, .slice none 0 0], []⟩ 8 (by kernel_rfl) (by kernel_rfl) (by kernel_rfl) (by kernel_rfl)) ?_
  intro W base args ds gs before hval hW _ hreach _
  exact contract H enc W base args ds gs before hval hW hreach

theorem said : Rows.SensorZonesSaid :=
  OpenClaim.holds_of_wide 4 Try.f4 rfl rfl rfl rfl rfl rfl rfl ⟨rfl, rfl, rfl, rfl, rfl⟩ rfl rfl rfl rfl rfl (by kernel_rfl) Try.func4 (by kernel_rfl)
    (of_decide_eq_true (by kernel_rfl)) (by unfold Func.isWrapper; first | (rw [if_pos (by decide +kernel)]; kernel_rfl) | (rw [if_neg (by decide +kernel)]; exact ⟨rfl, rfl⟩))
    (fun os started H enc _ => lifted os started H enc)
end Go.Proofs.Ytgpapbpkcggolaa.sensorZones
