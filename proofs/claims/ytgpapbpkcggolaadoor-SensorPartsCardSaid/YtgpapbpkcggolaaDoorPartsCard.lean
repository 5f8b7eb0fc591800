/- SensorParts returns true: a zone parts the marks, a mark more is a zone more at most; the median has at least half of the readings on either side, itself too, and hangs on no order. No condition: the row lists the array, the card ties it to the program's text. -/
import Derived.Test.YtgpapbpkcggolaaDoorFrame
import Derived.Test.YtgpapbpkcggolaaDoorOpen
import Derived.Test.YtgpapbpkcggolaaDoorPrt1
namespace Go.Proofs.YtgpapbpkcggolaaDoor.sensorParts
open Go.ChangeShapes Go.WideShapes Go.ChangeAt Go.RowKit

set_option maxRecDepth 100000 in
theorem contract (H : Type) (enc : TypeId × Value → H) (W : World) (base : Nat) (args : Array Value) (ds gs : List (DataW H)) (before : List MemPlace)
    (_hval : ∀ (j : Nat) t v, Tryd.f7.params[j]? = some t → args[j]? = some v → Value.okWide Tryd.prog W .any base t v)
    (hW : DataW.Whole enc Tryd.prog Tryd.f7.params.toList Rows.sensorPartsSpec.vars false W args.toList ds gs before) (_hL : laidMetH Tryd.prog Rows.sensorPartsRow.laid W)
    (hreach : (DataW.weightsEach Tryd.prog (Tryd.f7.params.toList ++ (OpenSpec.ofChange Rows.sensorPartsSpec).bare.plain.varTypes Tryd.prog) (ds ++ gs)).all (· ≤ reachBytes) = true) :
    Calls Tryd.prog 7 args W fun e W' => ∃ v, e = .returned v ∧ Rows.sensorPartsSpec.post enc Tryd.prog Tryd.f7 false true false false W args v W' := by
  have hW' := hW
  obtain ⟨p, q, hA0, hV, rfl, _, _⟩ := hW
  have hA : DataW.TrodAll enc Tryd.prog W 0 (fun _ => true) true Tryd.f7.params.toList args.toList ds p := hA0
  rw [Tryd.params7] at hA _hval
  obtain ⟨v0, vs0, d0, ds0, p0, q0, hargs, rfl, rfl, h0, r0⟩ := trodAll_cons hA
  obtain ⟨v1, vs1, d1, ds1, p1, q1, rfl, rfl, rfl, h1, r1⟩ := trodAll_cons r0
  obtain ⟨v2, vs2, d2, ds2, p2, q2, rfl, rfl, rfl, h2, r2⟩ := trodAll_cons r1
  obtain ⟨rfl, rfl, rfl⟩ := trodAll_nil r2
  obtain rfl : args = #[v0, v1, v2] := by cases args; simp_all
  obtain ⟨rfl, rfl⟩ := trodVars_none hV
  clear hA0
  refine law_calls (by kernel_rfl) (fun t ht => ?_) (tb := 4) rfl Tryd.underlying4 rfl rfl hW' ?_
  · rw [Tryd.params7] at ht
    have hm : t ∈ [47, 35, 47] := by simpa using ht
    have hall : ([47, 35, 47].all fun u => Tryd.prog.readableRec u && decide (u < Tryd.prog.types.size)) = true := by kernel_rfl
    simpa using List.all_eq_true.1 hall t hm
  obtain ⟨n0, h0⟩ := h0
  obtain ⟨aa0, ll0, cc0, rfl⟩ := okWide_slice Tryd.underlying47 (_hval 0 47 v0 rfl rfl)
  simp only [Value.cells] at h0
  obtain ⟨A0, mk, c0, e0, hp0, hz0, hw0, hr0, hx0⟩ := i8s_trod h0
  simp only [List.cons.injEq, and_true] at e0
  rw [e0]
  obtain ⟨deg, rfl, rfl, rfl, wf1⟩ := open_int Tryd.underlying35 (_hval 1 35 v1 rfl rfl) h1
  have bd1 := bounds_i8 wf1
  obtain ⟨n2, h2⟩ := h2
  obtain ⟨aa2, ll2, cc2, rfl⟩ := okWide_slice Tryd.underlying47 (_hval 2 47 v2 rfl rfl)
  simp only [Value.cells] at h2
  obtain ⟨A2, l, c2, e2, hp2, hz2, hw2, hr2, hx2⟩ := i8s_trod h2
  simp only [List.cons.injEq, and_true] at e2
  rw [e2]
  exact parts_walk mk l deg A0 A2 c0 c2 mk.length l.length W (has_of_laid _hL) hp0 rfl hp2 rfl (by have := hw2 (wts hreach (j := 2) rfl rfl); omega) hx0

theorem laid_met (os : Os) : laidMet Tryd.prog Rows.sensorPartsRow.laid ((laidWorld os).forCall (fun _ _ => 0) ⟨#[], #[.slice none 0 0, .int .i8 0, .slice none 0 0], []⟩).memory :=
  laidMet_of_run' 8 (by kernel_rfl) (by kernel_rfl)
theorem reads (os : Os) {H : Type} (enc : TypeId × Value → H) : ∃ places, DataW.whole enc Tryd.prog ((laidWorld os).forCall (fun _ _ => 0) ⟨#[], #[.slice none 0 0, .int .i8 0, .slice none 0 0], []⟩).memory Tryd.f7.params.toList Rows.sensorPartsSpec.vars false (#[.slice none 0 0, .int .i8 0, .slice none 0 0] : Array Value).toList 8 = some ([.nil, .lit (.int .i8 0), .nil], [], places) :=
  ⟨[], by kernel_rfl⟩

set_option maxRecDepth 100000 in
theorem lifted (os : Os) (started : os.Started) (H : Type) (enc : TypeId × Value → H) (F : Stop.Interp) :
    ReturnsInHanded {} Tryd.checked os 7 .any ((OpenSpec.ofChange Rows.sensorPartsSpec).preRow enc Tryd.prog Tryd.f7 Rows.sensorPartsRow.domain false Rows.sensorPartsRow.laid) (((OpenSpec.ofChange Rows.sensorPartsSpec).at F).post enc Tryd.prog Tryd.f7 false true false false) := by
  obtain ⟨places, hx⟩ := reads os enc
  refine returnsInHanded_of_row (C := Tryd.checked) (s := OpenSpec.ofChange Rows.sensorPartsSpec) own started (by kernel_rfl) Tryd.func7
    (witness_row_at (enc := enc) (C := Tryd.checked) false (laidWorld os) #[.slice none 0 0, .int .i8 0, .slice none 0 0] rfl (by kernel_rfl) (by kernel_rfl) (by kernel_rfl)
      (OpenSpec.preRow_of_cond 8 hx (by kernel_rfl) (fun k hk => by cases hk) (by kernel_rfl) (laid_met os))) ?_
  intro W base args ds gs before hval hW _ _ hreach hL _ _
  exact contract H enc W base args ds gs before hval hW hL hreach

theorem said : Rows.SensorPartsSaid :=
  OpenClaim.holds_of_cond 7 Tryd.f7 rfl rfl rfl rfl rfl rfl rfl ⟨rfl, rfl, rfl, rfl, rfl⟩ rfl rfl rfl rfl rfl (by kernel_rfl) Tryd.func7 (by kernel_rfl)
    (of_decide_eq_true (by kernel_rfl)) (by unfold Func.isWrapper; first | (rw [if_pos (by decide +kernel)]; kernel_rfl) | (rw [if_neg (by decide +kernel)]; exact ⟨rfl, rfl⟩))
    (fun os started H enc _ F => by rw [OpenClaim.pre_eq_preRow]; exact lifted os started H enc F)

theorem plain (f : FuncId) (fn : Func) (hf : Tryd.pinned.checked.prog.funcNamed "reveille/reveillelaw11.SensorParts" = some f) (hfn : Tryd.pinned.checked.prog.funcs[f]? = some fn) :
    false = Tryd.pinned.checked.prog.looks [] ∧ ∀ (j : Nat) t, fn.params[j]? = some t → Tryd.pinned.checked.prog.wantsStandIn t = false := by
  obtain rfl : f = 7 := Option.some.inj ((show Tryd.prog.funcNamed "reveille/reveillelaw11.SensorParts" = some 7 by kernel_rfl).symm.trans hf) |>.symm
  obtain rfl : fn = Tryd.f7 := (Option.some.inj (Tryd.func7.symm.trans hfn)).symm
  refine ⟨by kernel_rfl, fun j t ht => ?_⟩
  rw [Tryd.params7] at ht
  have hm : t ∈ [47, 35, 47] := by simpa using Array.mem_of_getElem? ht
  have hall : ([47, 35, 47].all fun u => !Tryd.prog.wantsStandIn u) = true := by kernel_rfl
  exact (show Tryd.prog.wantsStandIn t = false by simpa using List.all_eq_true.1 hall t hm)

/-- THE CARD -/
theorem card : Rows.SensorPartsCardSaid :=
  Claim7.holds_tied_plain_at .later [] _ _ _ _ said (fun _ h => by cases h) (by kernel_rfl) (fun _ h => by cases h) sensorParts_row_tie rfl ⟨rfl, rfl⟩ (by kernel_rfl) rfl plain (by kernel_rfl)
end Go.Proofs.YtgpapbpkcggolaaDoor.sensorParts
