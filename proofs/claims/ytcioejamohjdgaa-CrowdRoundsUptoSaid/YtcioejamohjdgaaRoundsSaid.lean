/- CrowdRounds returns true: of any tasks and any bad ones the rounds are the document's, in new memory, or the refusal; what was handed in stays. Condition: what is read is of bulk at most 1048576. -/
import Derived.Test.YtcioejamohjdgaaRows
import Derived.Test.YtcioejamohjdgaaOpen
import Derived.Test.YtcioejamohjdgaaRw1
namespace Go.Proofs.Ytcioejamohjdgaa.crowdRounds
open Go.ChangeShapes Go.WideShapes Go.ChangeAt Go.RowKit

set_option maxRecDepth 100000 in
theorem contract (H : Type) (enc : TypeId × Value → H) (W : World) (base : Nat) (args : Array Value) (ds gs : List (DataW H)) (before : List MemPlace)
    (_hval : ∀ (j : Nat) t v, Try.f3.params[j]? = some t → args[j]? = some v → Value.okWide Try.prog W .any base t v)
    (hW : DataW.Whole enc Try.prog Try.f3.params.toList Rows.crowdRoundsSpec.vars false W args.toList ds gs before) 
    (hk : Rows.uptoSmall H (ds ++ gs) = true) :
    Calls Try.prog 3 args W fun e W' => ∃ v, e = .returned v ∧ Rows.crowdRoundsSpec.post enc Try.prog Try.f3 false true false false W args v W' := by
  have hW' := hW
  obtain ⟨p, q, hA0, hV, rfl, _, _⟩ := hW
  have hA : DataW.TrodAll enc Try.prog W 0 (fun _ => true) true Try.f3.params.toList args.toList ds p := hA0
  rw [Try.params3] at hA _hval
  obtain ⟨v0, vs0, d0, ds0, p0, q0, hargs, rfl, rfl, h0, r0⟩ := trodAll_cons hA
  obtain ⟨v1, vs1, d1, ds1, p1, q1, rfl, rfl, rfl, h1, r1⟩ := trodAll_cons r0
  obtain ⟨rfl, rfl, rfl⟩ := trodAll_nil r1
  obtain rfl : args = #[v0, v1] := by cases args; simp_all
  obtain ⟨rfl, rfl⟩ := trodVars_none hV
  clear hA0
  refine law_calls (by kernel_rfl) (fun t ht => ?_) (tb := 4) rfl Try.underlying4 rfl rfl hW' ?_
  · rw [Try.params3] at ht
    have hm : t ∈ [22, 23] := by simpa using ht
    have hall : ([22, 23].all fun u => Try.prog.readableRec u && decide (u < Try.prog.types.size)) = true := by kernel_rfl
    simpa using List.all_eq_true.1 hall t hm
  obtain ⟨n0, h0⟩ := h0
  obtain ⟨aa0, ll0, cc0, rfl⟩ := okWide_slice Try.underlying22 (_hval 0 22 v0 rfl rfl)
  simp only [Value.cells] at h0
  obtain ⟨A0, nd, c0, e0, hp0, hz0, hw0, hr0⟩ := nds_trod h0
  simp only [List.cons.injEq, and_true] at e0
  dsimp only at hw0
  rw [e0]
  obtain ⟨n1, h1⟩ := h1
  obtain ⟨aa1, ll1, cc1, rfl⟩ := okWide_slice Try.underlying23 (_hval 1 23 v1 rfl rfl)
  simp only [Value.cells] at h1
  obtain ⟨A1, bd, c1, e1, hp1, hz1, hw1, hr1⟩ := ints_trod h1
  simp only [List.cons.injEq, and_true] at e1
  dsimp only at hw1
  rw [e1]
  exact crowdRounds_walk nd bd A0 A1 c0 c1 nd.length bd.length W hp0 rfl hp1 rfl hz1 (by have := small2 hk; omega) (by have := small2 hk; omega) (by have := small2 hk; omega)

set_option maxRecDepth 100000 in
theorem lifted (os : Os) (started : os.Started) (H : Type) (enc : TypeId × Value → H) (F : Stop.Interp) :
    ReturnsInHanded {} Try.checked os 3 .any ((Rows.OpenSpec.upto Rows.crowdRoundsSpec).pre6 enc Try.prog Try.f3 Rows.crowdRoundsUptoRow.domain false) (((Rows.OpenSpec.upto Rows.crowdRoundsSpec).at F).post enc Try.prog Try.f3 false true false false) := by
  refine returnsInHanded_of_cond_sized (C := Try.checked) (s := Rows.OpenSpec.upto Rows.crowdRoundsSpec) (k := Rows.uptoSmall) rfl own started (by kernel_rfl) Try.func3
    (OpenSpec.witness (enc := enc) (C := Try.checked) (s := Rows.OpenSpec.upto Rows.crowdRoundsSpec) (k := Rows.uptoSmall) rfl false ⟨#[], #[.slice none 0 0, .slice none 0 0], []⟩ 8 (by kernel_rfl) (by kernel_rfl) (by kernel_rfl)
      (x := ([.nil, .nil], [], [])) (by kernel_rfl) rfl (by kernel_rfl)) ?_
  intro W base args ds gs before hval hW _ hk _ _
  exact contract H enc W base args ds gs before hval hW hk

theorem said : Rows.CrowdRoundsUptoSaid :=
  OpenClaim.holds_of_cond 3 Try.f3 rfl rfl rfl rfl rfl rfl rfl ⟨rfl, rfl, rfl, rfl, rfl⟩ rfl rfl rfl rfl rfl (by kernel_rfl) Try.func3 (by kernel_rfl)
    (of_decide_eq_true (by kernel_rfl)) (by unfold Func.isWrapper; first | (rw [if_pos (by decide +kernel)]; kernel_rfl) | (rw [if_neg (by decide +kernel)]; exact ⟨rfl, rfl⟩))
    (fun os started H enc _ F => lifted os started H enc F)
end Go.Proofs.Ytcioejamohjdgaa.crowdRounds
