/- IdleStorms returns true: whatever the order in which the workers of a storm run, the word tells what the document's does. -/
import Derived.Test.YtgnhddnhcfmipaaRows
import Derived.Test.YtgnhddnhcfmipaaIds33
import Derived.Test.YtgnhddnhcfmipaaLaw
import Derived.Conc.LeavingOf
namespace Go.Proofs.Ytgnhddnhcfmipaa.idleStorms
open Go.ChangeShapes Go.WideShapes Go.ChangeAt Go.RowKit Go.Conc

/-- FROM A GOOD RUN TO THE ROW's POST: the law returned true, and nothing that was there has turned. -/
theorem law_post {H : Type} {enc : TypeId × Value → H} {P : Program} {fn : Func} {s : ChangeSpec} {W : World} {args : Array Value} {ds : List (DataW H)} {before : List MemPlace}
    (hl : laidOutB P = true) (hr : ∀ t ∈ fn.params.toList, P.readableRec t = true ∧ t < P.types.size) {tb : TypeId} (hrt : fn.resultTypes = #[tb]) (hbool : P.underlying tb = some .bool)
    (hv : s.vars = []) (hfn : s.fn H (ds ++ []) = { results := [.lit (.bool true)], args := ds })
    (hW : DataW.Whole enc P fn.params.toList s.vars false W args.toList ds [] before) {v : Value} {W' : World} (he : v = .bool true) (hb : Below W.heap.size W W') : s.post enc P fn false true false false W args v W' := by
  subst he
  obtain ⟨p, q, hA, hV, rfl, hfz, hnd⟩ := id hW
  refine ⟨ds, [], p ++ q, [], p, [], hW, ?_, ?_, ?_, hb.frame _, fun h => by cases h⟩
  · rw [hfn, hrt]
    exact trodAll_cons_mk (shut_bool hbool _) trodAll_mk0
  · rw [hfn]
    exact trodAll_below hl hb _ _ _ _ hr hA (fun x hx => hW.lt x (List.mem_append.2 (Or.inl hx)))
  · rw [hfn, hv]
    rfl

set_option maxRecDepth 100000 in
theorem lifted (os : Os) (started : os.Started) (H : Type) (enc : TypeId × Value → H) :
    ReturnsInLeavingWide {} Try.checked os 10 .any (Rows.idleStormsSpec.pre6 enc Try.prog Try.f10 Rows.idleStormsRow.domain false) (Rows.idleStormsSpec.post enc Try.prog Try.f10 false true false false) := by
  refine returnsInLeavingWide_of_change_sized (C := Try.checked) (by kernel_rfl : ownKnob Try.prog.godebug = none) started Try.func10
    (ChangeSpec.witness6 (enc := enc) (C := Try.checked) false ⟨#[], #[.int .i64 0, .int .i64 0, .int .i64 0, .int .i64 0], []⟩ 8 (by kernel_rfl) (by kernel_rfl) (by kernel_rfl) (by kernel_rfl)) ?_
  intro W base args ds gs before _hval hW _ _ _
  have hW' := hW
  obtain ⟨p, q, hA0, hV, rfl, _, _⟩ := hW
  have hA : DataW.TrodAll enc Try.prog W 0 (fun _ => true) true Try.f10.params.toList args.toList ds p := hA0
  have _hval : ∀ (j : Nat) t v, Try.f10.params[j]? = some t → args[j]? = some v → Value.okWide Try.prog W .any base t v := _hval
  rw [Try.params10] at hA _hval
  obtain ⟨v0, vs0, d0, ds0, p0, q0, hargs, rfl, rfl, h0, r0⟩ := trodAll_cons hA
  obtain ⟨v1, vs1, d1, ds1, p1, q1, rfl, rfl, rfl, h1, r1⟩ := trodAll_cons r0
  obtain ⟨v2, vs2, d2, ds2, p2, q2, rfl, rfl, rfl, h2, r2⟩ := trodAll_cons r1
  obtain ⟨v3, vs3, d3, ds3, p3, q3, rfl, rfl, rfl, h3, r3⟩ := trodAll_cons r2
  obtain ⟨rfl, rfl, rfl⟩ := trodAll_nil r3
  obtain rfl : args = #[v0, v1, v2, v3] := by cases args; simp_all
  obtain ⟨rfl, rfl⟩ := trodVars_none hV
  clear hA0
  obtain ⟨a, rfl, _⟩ := okWide_int Try.underlying3 (_hval 0 3 v0 rfl rfl)
  obtain ⟨b, rfl, _⟩ := okWide_int Try.underlying3 (_hval 1 3 v1 rfl rfl)
  obtain ⟨c, rfl, _⟩ := okWide_int Try.underlying3 (_hval 2 3 v2 rfl rfl)
  obtain ⟨d, rfl, _⟩ := okWide_int Try.underlying3 (_hval 3 3 v3 rfl rfl)
  obtain ⟨M, last, o, w', t', k1, k2, k3, k4⟩ := Ids.storms_run a b c d W
  refine ⟨M, last, o, w', t', k1, k2, k3, k4.mono fun v hp => ?_⟩
  refine law_post (by kernel_rfl) (fun t ht => ?_) (tb := 4) rfl Try.underlying4 rfl rfl hW' hp.1 hp.2
  rw [Try.params10] at ht
  have hm : t ∈ [3, 3, 3, 3] := by simpa using ht
  have hall : ([3, 3, 3, 3].all fun u => Try.prog.readableRec u && decide (u < Try.prog.types.size)) = true := by kernel_rfl
  simpa using List.all_eq_true.1 hall t hm

theorem said : Rows.IdleStormsSaid :=
  OpenClaim.holds_of_wide_leaving 10 Try.f10 rfl rfl rfl rfl rfl rfl rfl ⟨rfl, rfl, rfl, rfl, rfl⟩ rfl rfl rfl rfl rfl (by kernel_rfl) Try.func10 (by kernel_rfl)
    (of_decide_eq_true (by kernel_rfl)) (by unfold Func.isWrapper; first | (rw [if_pos (by decide +kernel)]; kernel_rfl) | (rw [if_neg (by decide +kernel)]; exact ⟨rfl, rfl⟩))
    (fun os started H enc _ => lifted os started H enc)
end Go.Proofs.Ytgnhddnhcfmipaa.idleStorms
