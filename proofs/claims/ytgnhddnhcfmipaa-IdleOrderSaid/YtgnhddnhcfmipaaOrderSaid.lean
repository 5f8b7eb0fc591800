/- IdleOrder returns true: what a race comes to under any schedule is what its calls come to, one behind the other, on a word of its own, in the order in which they were done; the uses are those that were taken less those that were given back. -/
import Derived.Test.YtgnhddnhcfmipaaRows
import Derived.Test.YtgnhddnhcfmipaaOrder
import Derived.Test.YtgnhddnhcfmipaaOpen3
namespace Go.Proofs.Ytgnhddnhcfmipaa.idleOrder
open Go.ChangeShapes Go.WideShapes Go.ChangeAt Go.RowKit

set_option maxRecDepth 100000 in
theorem contract (H : Type) (enc : TypeId × Value → H) (W : World) (base : Nat) (args : Array Value) (ds gs : List (DataW H)) (before : List MemPlace)
    (_hval : ∀ (j : Nat) t v, Try.f6.params[j]? = some t → args[j]? = some v → Value.okWide Try.prog W .any base t v)
    (hW : DataW.Whole enc Try.prog Try.f6.params.toList Rows.idleOrderSpec.vars false W args.toList ds gs before) 
    (hreach : (DataW.weightsEach Try.prog (Try.f6.params.toList ++ (OpenSpec.ofChange Rows.idleOrderSpec).bare.plain.varTypes Try.prog) (ds ++ gs)).all (· ≤ reachBytes) = true) :
    Calls Try.prog 6 args W fun e W' => ∃ v, e = .returned v ∧ Rows.idleOrderSpec.post enc Try.prog Try.f6 false true false false W args v W' := by
  have hW' := hW
  obtain ⟨p, q, hA0, hV, rfl, _, _⟩ := hW
  have hA : DataW.TrodAll enc Try.prog W 0 (fun _ => true) true Try.f6.params.toList args.toList ds p := hA0
  rw [Try.params6] at hA _hval
  obtain ⟨v0, vs0, d0, ds0, p0, q0, hargs, rfl, rfl, h0, r0⟩ := trodAll_cons hA
  obtain ⟨v1, vs1, d1, ds1, p1, q1, rfl, rfl, rfl, h1, r1⟩ := trodAll_cons r0
  obtain ⟨v2, vs2, d2, ds2, p2, q2, rfl, rfl, rfl, h2, r2⟩ := trodAll_cons r1
  obtain ⟨rfl, rfl, rfl⟩ := trodAll_nil r2
  obtain rfl : args = #[v0, v1, v2] := by cases args; simp_all
  obtain ⟨rfl, rfl⟩ := trodVars_none hV
  clear hA0
  refine law_calls (by kernel_rfl) (fun t ht => ?_) (tb := 4) rfl Try.underlying4 rfl rfl hW' ?_
  · rw [Try.params6] at ht
    have hm : t ∈ [3, 41, 42] := by simpa using ht
    have hall : ([3, 41, 42].all fun u => Try.prog.readableRec u && decide (u < Try.prog.types.size)) = true := by kernel_rfl
    simpa using List.all_eq_true.1 hall t hm
  obtain ⟨D, rfl, rfl, rfl, wf0⟩ := open_int Try.underlying3 (_hval 0 3 v0 rfl rfl) h0
  have bd0 := bounds_i64 wf0
  obtain ⟨n1, h1⟩ := h1
  obtain ⟨aa1, ll1, cc1, rfl⟩ := okWide_slice Try.underlying41 (_hval 1 41 v1 rfl rfl)
  simp only [Value.cells] at h1
  obtain ⟨A1, cs, c1, e1, hp1, hz1, hk1, hw1⟩ := calls_trod h1
  simp only [List.cons.injEq, and_true] at e1
  rw [e1]
  obtain ⟨n2, h2⟩ := h2
  obtain ⟨aa2, ll2, cc2, rfl⟩ := okWide_slice Try.underlying42 (_hval 2 42 v2 rfl rfl)
  simp only [Value.cells] at h2
  obtain ⟨A2, sch, c2, e2, hp2, hz2, hw2, hr2⟩ := ints_trod h2
  simp only [List.cons.injEq, and_true] at e2
  rw [e2]
  exact order_walk D cs sch A1 A2 c1 c2 W hp1 hp2 (hw2 (wts hreach (j := 2) rfl rfl)) hk1

set_option maxRecDepth 100000 in
theorem lifted (os : Os) (started : os.Started) (H : Type) (enc : TypeId × Value → H) :
    ReturnsInHanded {} Try.checked os 6 .any (Rows.idleOrderSpec.pre6 enc Try.prog Try.f6 Rows.idleOrderRow.domain false) (Rows.idleOrderSpec.post enc Try.prog Try.f6 false true false false) := by
  refine returnsInHanded_of_change_sized (C := Try.checked) own started (by kernel_rfl) Try.func6
    (ChangeSpec.witness6 (enc := enc) (C := Try.checked) false ⟨#[], #[.int .i64 0, .slice none 0 0, .slice none 0 0], []⟩ 8 (by kernel_rfl) (by kernel_rfl) (by kernel_rfl) (by kernel_rfl)) ?_
  intro W base args ds gs before hval hW _ hreach _
  exact contract H enc W base args ds gs before hval hW hreach

theorem said : Rows.IdleOrderSaid :=
  OpenClaim.holds_of_wide_leaving 6 Try.f6 rfl rfl rfl rfl rfl rfl rfl ⟨rfl, rfl, rfl, rfl, rfl⟩ rfl rfl rfl rfl rfl (by kernel_rfl) Try.func6 (by kernel_rfl)
    (of_decide_eq_true (by kernel_rfl)) (by unfold Func.isWrapper; first | (rw [if_pos (by decide +kernel)]; kernel_rfl) | (rw [if_neg (by decide +kernel)]; exact ⟨rfl, rfl⟩))
    (fun os started H enc _ => leaving_of_handed (lifted os started H enc))
end Go.Proofs.Ytgnhddnhcfmipaa.idleOrder
