/- Sensor: slices.Values, AppendSeq, Collect, Sort and Sorted of small numbers, walked. -/
import Derived.RangeFuncNested
import Derived.RangeFuncBound
import Derived.RangeFuncCalls
import Derived.RangeFuncLeaves
import Derived.RangeFuncBox
import Derived.RangeFuncGives
import Derived.Shelf.Abstract
import Derived.Shelf.RegionOpen
import Derived.WalkKit
import Derived.OwnWalkIn
import Derived.TacticsInMore
import Derived.LoopNIn
import Derived.LoopIn
import Derived.Outline
import Derived.Test.YtgpapbpkcggolaaDoorSrt8
namespace Go.Proofs.YtgpapbpkcggolaaDoor
open Go.RowKit Go.Shelf

section
attribute [local go_sem] Oper.semAt_some

set_option maxRecDepth 100000 in
set_option maxHeartbeats 2000000 in
theorem vals8_walk (n : Nat) (hn : 1 ≤ n) (l Bs n₀ b off c : Nat) (zs : List Int) (hlen : zs.length ≤ 9223372036854775807) (hb : b < n₀) (J Jx : List Int → World → Prop)
    (hY : ∀ pre x W, J pre W → pre.length < zs.length → YieldAt Fence.wide (n - 1) Tryd.prog l #[.int .i8 x] W fun e W' =>
      (e = .returned (.bool true) ∧ J (pre ++ [x]) W' ∧ Below n₀ W W') ∨ (e = .returned (.bool false) ∧ Jx (pre ++ [x]) W'))
    (W : World) (hBs : W.cell? ⟨Bs, 0, none⟩ = some (.slice (some ⟨b, off, none⟩) zs.length c))
    (hc : ∀ j, j < zs.length → W.cell? ⟨b, off + j, none⟩ = some (.int .i8 (zs.getD j 0))) (h0 : J [] W) :
    CallsIn Fence.wide n Tryd.prog 34 #[.func (.yield l) #[] #[], .pointer (some ⟨Bs, 0, none⟩)] W fun e W' => (∃ v, e = .returned v) ∧
      ((∃ ys, ys = zs ∧ J ys W') ∨ (∃ pre : List Int, True ∧ Jx pre W')) := by
  refine callsIn_of_wp Tryd.func34 rfl trivial ?_ rfl
  simp only [Tryd.ntmps34, List.size_toArray, List.length_cons, List.length_nil, Nat.reduceAdd, Nat.reduceSub, Array.replicate_succ, Array.replicate_zero, List.push_toArray, List.append_toArray, List.nil_append, List.cons_append]
  gi_wp2
  gi_loopw [4, 7] (fun _ i wr => ∃ m : Nat, m ≤ zs.length ∧ i = .int .i64 (m : Int) ∧ J (zs.take m) wr ∧ Below n₀ W wr)
    (fun _ i _ => zs.length - (intOf i).toNat)
  case atStart => exact ⟨0, Nat.zero_le _, rfl, by rw [List.take_zero]; exact h0, Below.refl _ _⟩
  case round =>
    obtain ⟨m, hm, rfl, hJs, hnx⟩ := hrel
    by_cases hml : m < zs.length
    · have c1 := hc m hml
      have c1' := (hnx.cell (p := ⟨b, off + m, none⟩) hb).trans c1
      have hx : zs.take (m + 1) = zs.take m ++ [zs.getD m 0] := by
        rw [List.take_add_one, List.getElem?_eq_getElem hml]
        simp [List.getD, hml]
      obtain ⟨fn, tmps, assign, body, hy, hR⟩ := hY _ (zs.getD m 0) wr hJs (by rw [List.length_take]; omega)
      replace hx := Lib.hid hx
      clear c1 hc
      generalize zs.getD m 0 = q1 at *
      gi_wp2
      refine hR.mono ?_
      rintro e W3 (⟨rfl, hJ3, hk3⟩ | ⟨rfl, hJx3⟩)
      · gi_wp2
        go_roundw
        case rel => exact ⟨m + 1, by omega, by first | rfl | go_num, by rw [hx.out]; exact hJ3, hnx.trans hk3⟩
        case measure => simp [intOf]; omega
      · gi_wp2
        refine bodyPost_ret (results_none rfl _ _ _) rfl ?_
        exact ⟨⟨_, rfl⟩, .inr ⟨_, trivial, hJx3⟩⟩
    · have hm2 : m = zs.length := by omega
      rw [List.take_of_length_le (by omega)] at hJs
      have g1 : ¬ (m : Int) < (zs.length : Int) := by omega
      clear hc hm2 hY
      gi_wp2
      go_end0
      exact ⟨⟨_, rfl⟩, .inl hJs⟩
theorem vals8_stops (n : Nat) (hn : 1 ≤ n) (Bs n₀ b off c : Nat) (zs : List Int) (hlen : zs.length ≤ 9223372036854775807) (w : World) (hBs : Bs < w.heap.size) (hb : b < n₀) (hn₀ : n₀ ≤ w.heap.size)
    (hBc : w.cell? ⟨Bs, 0, none⟩ = some (.slice (some ⟨b, off, none⟩) zs.length c))
    (hc : ∀ j, j < zs.length → w.cell? ⟨b, off + j, none⟩ = some (.int .i8 (zs.getD j 0))) :
    SeqStopsK Fence.wide n Tryd.prog 34 #[.pointer (some ⟨Bs, 0, none⟩)] (fun x : Int => #[.int .i8 x]) (Below n₀) (fun ys => ys = zs) (fun _ => True) zs.length w := fun l J Jx W hW _ _ hY h0 =>
  vals8_walk n hn l Bs n₀ b off c zs hlen hb J Jx hY W ((hW.cell (p := ⟨Bs, 0, none⟩) hBs).trans hBc)
    (fun j hj => (hW.cell (p := ⟨b, off + j, none⟩) (by show b < _; omega)).trans (hc j hj)) h0
theorem vals8_any (v : Value) (w : World) (n : Nat) (hv : ∃ a l c, v = .slice a l c) :
    CallsIn Fence.wide n Tryd.prog 30 #[v] w fun e w' => e = .returned (.func (.func 34) #[] #[.pointer (some ⟨w.heap.size, 0, none⟩)]) ∧ w' = w.alloc (.cells #[v] 47) := by
  obtain ⟨a, l, c, rfl⟩ := hv
  refine callsIn_of_wp Tryd.func30 rfl trivial ?_ rfl
  simp only [Tryd.ntmps30, List.size_toArray, List.length_cons, List.length_nil, Nat.reduceAdd, Nat.reduceSub, Array.replicate_succ, Array.replicate_zero, List.push_toArray, List.append_toArray, List.nil_append, List.cons_append]
  gi_wp2
  go_ret
  exact ⟨rfl, rfl⟩
/-- what is collected lies in rows of the call's own, under a box -/
def Cl (n0 s : Nat) (pre : List Int) (W : World) : Prop := ∃ v, Boxed W s 47 v ∧ W.ownsRow n0 35 1 v pre.length (pre.map fun x => Value.int .i8 x)
theorem rows_own {base size k : Nat} {e : TypeId} {v : Value} {xs : List Value} {A B : World} {row : Option Nat} (h : A.ownsRow base e size v k xs) (hg : A.grownBy B row) (hr : ∀ r, row = some r → ∃ o : Obj, A.heap[r]? = some o ∧ o.isCells = false) : B.ownsRow base e size v k xs := by
  refine h.kept hg ?_
  rcases h.2 with ⟨rfl, _⟩ | ⟨g, cap, cur, rfl, _, hgb, _⟩
  · exact Or.inl rfl
  · right
    intro e'
    obtain ⟨o, ho, hc⟩ := hr g e'.symm
    rw [hgb] at ho
    cases ho
    cases hc
theorem Cl.own (n0 s B : Nat) : OwnFrom B (Cl n0 s) := fun pre X Y row ⟨v, h1, h2⟩ hg hr =>
  ⟨v, boxed_own _ _ (fun (_ : Unit) => v) () X Y row h1 hg (fun r e => (hr r e).2), rows_own h2 hg fun r e => (hr r e).2⟩
set_option maxRecDepth 100000 in
set_option maxHeartbeats 4000000 in
/-- slices.AppendSeq(nil, slices.Values(l)) -/
theorem apseq_in (n : Nat) (hn : 2 ≤ n) (Bs b off c : Nat) (zs : List Int) (hl : zs.length ≤ 4096) (w : World) (hBs : Bs < w.heap.size) (hb : b < w.heap.size) (hBc : w.cell? ⟨Bs, 0, none⟩ = some (.slice (some ⟨b, off, none⟩) zs.length c))
    (hc : ∀ j, j < zs.length → w.cell? ⟨b, off + j, none⟩ = some (.int .i8 (zs.getD j 0))) :
    CallsIn Fence.wide n Tryd.prog 35 #[.slice none 0 0, .func (.func 34) #[] #[.pointer (some ⟨Bs, 0, none⟩)]] w fun e w' => ∃ v : Value, e = .returned v ∧ w'.ownsRow w.heap.size 35 1 v zs.length (zs.map fun x => Value.int .i8 x) ∧ Below w.heap.size w w' := by
  have h1 : 1 ≤ n := by omega
  obtain ⟨i0, hi, hz0, hz1, hz2⟩ := info_parts (show (Tryd.prog.info? 35).map (fun i => (i.zero, i.size, i.bytes)) = some (some (.int .i8 0), 1, 1) by kernel_rfl)
  refine callsIn_of_wp_marks Tryd.func35 rfl trivial ?_ rfl
  simp only [Tryd.ntmps35, List.size_toArray, List.length_cons, List.length_nil, Nat.reduceAdd, Nat.reduceSub, Array.replicate_succ, Array.replicate_zero, List.push_toArray, List.append_toArray, List.nil_append, List.cons_append]
  gi_wp2
  have hB0 : Below w.heap.size w (w.alloc (.cells #[.slice none 0 0] 47)) := (Below.refl _ w).alloc (Nat.le_refl _) _
  have hbx : Boxed (w.alloc (.cells #[.slice none 0 0] 47)) w.heap.size 47 (.slice none 0 0) := Boxed.new w 47 _
  have hsz : (w.alloc (.cells #[.slice none 0 0] 47)).heap.size = w.heap.size + 1 := by simp
  generalize w.alloc (.cells #[.slice none 0 0] 47) = W0 at *
  refine wpIn_rangeFunc_ownH rfl h1 (gf := 34) (lb := #[.pointer (some ⟨Bs, 0, none⟩)]) rfl trivial (enters_of Tryd.func34 (by kernel_rfl) rfl)
    (vals8_stops (n - 1) (by omega) Bs w.heap.size b off c zs (by omega) w hBs hb (Nat.le_refl _) hBc hc) (fun h k => h.trans k) (fun W l o o' hl hlo hcl _ => belowK_b (n₀ := w.heap.size) (w := W0) (by omega) W l o o' hl hlo hcl ‹_›) hB0 (fun _ => rfl)
    (fun pre W => (Cl w.heap.size w.heap.size pre W ∧ Below w.heap.size w W))
    (fun c pre W => False)
    (OwnFrom.and (Cl.own _ _ _) (ownFrom_below (Nat.le_refl _) (by omega)))
    (fun c => fun s A B row hs hg hr => hs)
    ⟨⟨.slice none 0 0, hbx, ⟨rfl, .inl ⟨rfl, rfl⟩⟩⟩, hB0⟩
    (fun x a' W => ∃ u : Value, a' = { tmps := #[.slice none 0 0, .func (.func 34) #[] #[.pointer (some ⟨Bs, 0, none⟩)], .pointer (some ⟨w.heap.size, 0, none⟩), undef, .slice none 0 0, .int .i8 x, u, .int .i8 x, undef, undef, undef, undef, undef], defers := [] })
    (fun x a' _ X Y row hs hg hr => hs)
    ?assign ?body ?done ?stop
  case assign =>
    rintro l pre x W K ⟨⟨v, hv, hrow⟩, hB1⟩ hK
    gi_wp2
    exact hK _ _ (KeepsFrom.refl _ _) (Below.refl _ _) ⟨⟨v, hv, hrow⟩, hB1⟩ ⟨_, rfl⟩
  case body =>
    rintro l pre x a' W hl ⟨r, hr⟩ ⟨⟨v, hv, hrow⟩, hB1⟩ ⟨u, rfl⟩ hlt
    have cV := hv.cell
    have fV := hv.frozen
    have hs1 := hB1.size
    gi_wp2_with (first
      | (gi_at_builtin; refine wpListIn_append_own _ rfl _ _ 47 rfl w.heap.size 35 i0 (.int .i8 0) 1 1 Tryd.underlying47 hi hz0 hz1 hz2 rfl (by decide) _ _ _ rfl (hrow.alloc _) ⟨W.heap.size, 0, none⟩ 1 1 [.int .i8 x] rfl rfl (fun j u hj => by rw [addr_add, Nat.zero_add, cell_of_row _ _ j _ 35 (0, 0) (heap_alloc_at W (.cells #[.int .i8 x] 35))]; simpa using hj) (by simp [Value.oneCell']) (by unfold maxLen; omega) (by omega) (by rw [size_al]; omega) ?_; intro v' w3 hown' hg3 hnil3
         have hg3' : (W.alloc (.cells #[.int .i8 x] 35)).grownBy w3 v.ownBlock := hg3
         obtain ⟨hb1, hb2, hb3, hb4, hb5⟩ := Boxed.appended hv (by decide) hrow hs1 (Nat.le_refl _) hown' hg3'
         obtain ⟨g', cap', rfl⟩ : ∃ g' cap', v' = .slice (some ⟨g', 0, none⟩) (pre.length + 1) cap' := (by
           rcases hown'.2 with ⟨_, h0⟩ | ⟨g', cap', _, e, _⟩
           · exact absurd h0 (by omega)
           · exact ⟨g', cap', e⟩)
         have cB := hb1.cell
         have fB := hb1.frozen
         clear hnil3 hg3 hown'
         go_frame)
      | gi_in)
    refine ⟨hb4.from _, ?_, ⟨_, hb2, ?_⟩, hB1.trans hb5⟩
    · exact hb5
    · rw [List.map_append, List.length_append]
      exact hb3
  case done =>
    rintro D ys W hD hP ⟨⟨v, hv, hrow⟩, hB1⟩ hK
    have cV := hv.cell
    have fV := hv.frozen
    gi_wp2
    refine ⟨by simp, .inl ⟨_, _, rfl, run_takeDeferred hK, ?_⟩⟩
    subst hP
    refine ⟨v, ?_, v, rfl, ?_, ?_⟩
    · simp [results, Tryd.f35, go_sem]
    · refine hrow.kept (grownBy_putObj' _ _ _) ?_
      rcases hrow.2 with ⟨rfl, _⟩ | ⟨g, cap, cur, rfl, _, hgb, _⟩
      · exact Or.inl rfl
      · right
        intro e'
        obtain rfl : g = D := by simpa [Value.ownBlock] using e'
        rw [hgb] at hK
        cases hK
    · exact hB1.grown (grownBy_putObj' _ _ _) hB1.size (fun k e => by cases e; omega)
  case stop =>
    rintro D c pre W hD _ hF
    exact hF.elim
end
end Go.Proofs.YtgpapbpkcggolaaDoor
