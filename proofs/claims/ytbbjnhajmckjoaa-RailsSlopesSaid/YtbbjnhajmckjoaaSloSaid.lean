/- RailsSlopes returns true: of any finite floats, a ramp is never outside of its ends, begins at the one and never goes back; what is asked to stay stays, and what follows targets stays within twice the bound; of others it is no number. -/
import Derived.Test.YtbbjnhajmckjoaaRows
import Derived.Test.YtbbjnhajmckjoaaOpen3
import Derived.Test.YtbbjnhajmckjoaaSloLaw
namespace Go.Proofs.Ytbbjnhajmckjoaa.railsSlopes
open Go.ChangeShapes Go.WideShapes Go.ChangeAt Go.RowKit

set_option maxRecDepth 100000 in
theorem contract (H : Type) (enc : TypeId × Value → H) (W : World) (base : Nat) (args : Array Value) (ds gs : List (DataW H)) (before : List MemPlace)
    (_hval : ∀ (j : Nat) t v, Try.f10.params[j]? = some t → args[j]? = some v → Value.okWide Try.prog W .any base t v)
    (hW : DataW.Whole enc Try.prog Try.f10.params.toList Rows.railsSlopesSpec.vars false W args.toList ds gs before)  :
    Calls Try.prog 10 args W fun e W' => ∃ v, e = .returned v ∧ Rows.railsSlopesSpec.post enc Try.prog Try.f10 false true false false W args v W' := by
  have hW' := hW
  obtain ⟨p, q, hA0, hV, rfl, _, _⟩ := hW
  have hA : DataW.TrodAll enc Try.prog W 0 (fun _ => true) true Try.f10.params.toList args.toList ds p := hA0
  rw [Try.params10] at hA _hval
  obtain ⟨v0, vs0, d0, ds0, p0, q0, hargs, rfl, rfl, h0, r0⟩ := trodAll_cons hA
  obtain ⟨v1, vs1, d1, ds1, p1, q1, rfl, rfl, rfl, h1, r1⟩ := trodAll_cons r0
  obtain ⟨v2, vs2, d2, ds2, p2, q2, rfl, rfl, rfl, h2, r2⟩ := trodAll_cons r1
  obtain ⟨v3, vs3, d3, ds3, p3, q3, rfl, rfl, rfl, h3, r3⟩ := trodAll_cons r2
  obtain ⟨v4, vs4, d4, ds4, p4, q4, rfl, rfl, rfl, h4, r4⟩ := trodAll_cons r3
  obtain ⟨v5, vs5, d5, ds5, p5, q5, rfl, rfl, rfl, h5, r5⟩ := trodAll_cons r4
  obtain ⟨v6, vs6, d6, ds6, p6, q6, rfl, rfl, rfl, h6, r6⟩ := trodAll_cons r5
  obtain ⟨rfl, rfl, rfl⟩ := trodAll_nil r6
  obtain rfl : args = #[v0, v1, v2, v3, v4, v5, v6] := by cases args; simp_all
  obtain ⟨rfl, rfl⟩ := trodVars_none hV
  clear hA0
  refine law_calls (by kernel_rfl) (fun t ht => ?_) (tb := 4) rfl Try.underlying4 rfl rfl hW' ?_
  · rw [Try.params10] at ht
    have hm : t ∈ [86, 86, 86, 86, 86, 87, 86] := by simpa using ht
    have hall : ([86, 86, 86, 86, 86, 87, 86].all fun u => Try.prog.readableRec u && decide (u < Try.prog.types.size)) = true := by kernel_rfl
    simpa using List.all_eq_true.1 hall t hm
  obtain ⟨f, rfl⟩ := okWide_float Try.underlying86 (_hval 0 86 v0 rfl rfl)
  obtain ⟨t, rfl⟩ := okWide_float Try.underlying86 (_hval 1 86 v1 rfl rfl)
  obtain ⟨r, rfl⟩ := okWide_float Try.underlying86 (_hval 2 86 v2 rfl rfl)
  obtain ⟨ti, rfl⟩ := okWide_float Try.underlying86 (_hval 3 86 v3 rfl rfl)
  obtain ⟨u, rfl⟩ := okWide_float Try.underlying86 (_hval 4 86 v4 rfl rfl)
  obtain ⟨n5, h5⟩ := h5
  obtain ⟨aa5, ll5, cc5, rfl⟩ := okWide_slice Try.underlying87 (_hval 5 87 v5 rfl rfl)
  simp only [Value.cells] at h5
  obtain ⟨A5, ts, c5, e5, hp5, hz5, hw5⟩ := floats_trod h5
  simp only [List.cons.injEq, and_true] at e5
  rw [e5]
  obtain ⟨sh, rfl⟩ := okWide_float Try.underlying86 (_hval 6 86 v6 rfl rfl)
  exact slopes_walk f t r ti u sh ts A5 c5 W hp5

set_option maxRecDepth 100000 in
theorem lifted (os : Os) (started : os.Started) (H : Type) (enc : TypeId × Value → H) :
    ReturnsInHanded {} Try.checked os 10 .any (Rows.railsSlopesSpec.pre6 enc Try.prog Try.f10 Rows.railsSlopesRow.domain false) (Rows.railsSlopesSpec.post enc Try.prog Try.f10 false true false false) := by
  refine returnsInHanded_of_change_sized (C := Try.checked) own started (by kernel_rfl) Try.func10
    (ChangeSpec.witness6 (enc := enc) (C := Try.checked) false ⟨#[], #[.float .f64 0, .float .f64 0, .float .f64 0, .float .f64 0, .float .f64 0, .slice none 0 0, .float .f64 0], []⟩ 8 (by kernel_rfl) (by kernel_rfl) (by kernel_rfl) (by kernel_rfl)) ?_
  intro W base args ds gs before hval hW _ _ _
  exact contract H enc W base args ds gs before hval hW

theorem said : Rows.RailsSlopesSaid :=
  OpenClaim.holds_of_wide 10 Try.f10 rfl rfl rfl rfl rfl rfl rfl ⟨rfl, rfl, rfl, rfl, rfl⟩ rfl rfl rfl rfl rfl (by kernel_rfl) Try.func10 (by kernel_rfl)
    (of_decide_eq_true (by kernel_rfl)) (by unfold Func.isWrapper; first | (rw [if_pos (by decide +kernel)]; kernel_rfl) | (rw [if_neg (by decide +kernel)]; exact ⟨rfl, rfl⟩))
    (fun os started H enc _ => lifted os started H enc)
end Go.Proofs.Ytbbjnhajmckjoaa.railsSlopes
