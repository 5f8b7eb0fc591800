/- Rails: maps.Values of a map of windows, walked for every body that never leaves. -/
import Derived.Shelf.SlIterI.Keys
import Derived.Shelf.AbstractIn
import Derived.RangeFuncGives
import Derived.RangeFuncMany
import Derived.RangeFuncLeaves
import Derived.Sort.MapsRangeIn
import Derived.WalkKit
import Derived.OwnWalkIn
import Derived.TacticsInMore
import Derived.RegionIn
import Derived.LoopNIn
import Derived.LoopIn
import Derived.Shelf.Abstract
import Derived.RangeFuncNested
import Derived.RangeFuncBound
import Derived.RangeFuncCalls
import Derived.RangeFuncBox
import Derived.Test.YtbbjnhajmckjoaaMp
namespace Go.Proofs.Ytbbjnhajmckjoaa
open Go.RowKit Go.Maps Go.Sort Go.Shelf

abbrev encw (p : Pt) : Value := .agg #[.int .i64 p.1, .int .i64 p.2]
theorem row2 {w : World} {g : Nat} {a b : Value} {t : TypeId} (h : w.heap[g]? = some (.cells #[a, b] t)) :
    w.cell? ⟨g, 0, none⟩ = some a ∧ w.cell? ⟨g, 1, none⟩ = some b ∧ w.frozen? ⟨g, 0, none⟩ = false ∧ w.frozen? ⟨g, 1, none⟩ = false :=
  ⟨(cell_two h).1, (cell_two h).2, frozen_row h 0, frozen_row h 1⟩
set_option maxRecDepth 100000 in
set_option maxHeartbeats 2000000 in
theorem vals_walk (n : Nat) (hn : 1 ≤ n) (l Bm b nn : Nat) (m : Hl) (hm : Rising m) (J Jx : List Pt → World → Prop)
    (hY : ∀ pre x W, J pre W → pre.length < m.length → YieldAt Fence.wide (n - 1) Try.prog l #[encw x] W fun e W' => (e = .returned (.bool true) ∧ J (pre ++ [x]) W' ∧ KeepsWalks W W') ∨ (e = .returned (.bool false) ∧ Jx (pre ++ [x]) W'))
    (W : World) (hJ : AbidesFrom W.heap.size J) (hc : W.cell? ⟨Bm, 0, none⟩ = some (.map (some b))) (hown : W.ownsMap Try.prog 3 rdW b nn (dmap m)) (h0 : J [] W) :
    CallsIn Fence.wide n Try.prog 82 #[.func (.yield l) #[] #[], .pointer (some ⟨Bm, 0, none⟩)] W fun e W' => (∃ v, e = .returned v) ∧ ((∃ ss : List Pt, ss.Perm (m.map (·.2)) ∧ J ss W') ∨ (∃ pre : List Pt, True ∧ Jx pre W')) := by
  refine callsIn_of_wp Try.func82 rfl trivial ?_ rfl
  simp only [Try.ntmps82, List.size_toArray, List.length_cons, List.length_nil, Nat.reduceAdd, Nat.reduceSub, Array.replicate_succ, Array.replicate_zero, List.push_toArray, List.append_toArray, List.nil_append, List.cons_append]
  gi_wp2_with (first
    | (gi_at_range; refine wpListIn_range_own _ rfl _ 105 rfl 3 58 (int_keyed Try.underlying3) Try.underlying105 _ b nn _ rfl hown ?_; intro w0 hrg0 hg0 hs0)
    | gi_in)
  go_frame
  gi_loopw [4] (fun _ wr => ∃ (left : Lit → Bool) (cnt : Nat) (ps : Hl), wr.ranges Try.prog 3 rdW b W.heap.size nn (dmap m) left cnt ∧ (ps ++ lft left m).Perm m ∧ J (ps.map (·.2)) wr)
    (fun _ wr => wr.rangeLeft b W.heap.size)
  case atStart =>
    exact ⟨_, _, [], hrg0, by rw [lft_start]; exact List.Perm.refl _, hJ [] W w0 none h0 hg0 (fun r e => by cases e)⟩
  case round =>
    obtain ⟨left, cnt, ps, hrg, hP, hJs⟩ := hrel
    gi_wp2_with (first
      | (gi_at_next; refine wpListIn_next_ranges _ rfl _ rfl 3 (int_keyed Try.underlying3) rdW encZ encw (fun key kl hk => by obtain ⟨x, hx, _⟩ := Maps.keyOf_i64 Try.underlying3 hk; exact ⟨x, hx⟩) (fun v y hv => by obtain ⟨c, rfl, _⟩ := rdW_inv hv; exact ⟨c, rfl⟩) b W.heap.size nn _ _ _ rfl hrg ?_ ?_)
      | gi_in)
    · intro hc0 hl0
      gi_wp2
      go_end0
      rw [lft_none hl0, List.append_nil] at hP
      exact ⟨⟨_, rfl⟩, .inl ⟨_, hP.map _, hJs⟩⟩
    · intro x q1 q2 kl yd yp w2 cnt2 hkey hlk hv hat hrg2 hlt hg2 hs2 hen
      obtain ⟨x', ex, rfl, _⟩ := Maps.keyOf_i64 Try.underlying3 hkey
      obtain rfl : x = x' := encZ_inj ex
      obtain ⟨c', ec, ez⟩ := rdW_inv hv
      obtain ⟨rfl, -⟩ := Prod.mk.inj ez
      obtain ⟨p', hp', hmem⟩ := atKey_mem hat
      have hc1 : c' = p' := wdat_inj hp'
      subst hc1
      have hc2 : q1 = c'.1 ∧ q2 = c'.2 := by simpa [encw] using ec
      have hmem' : (x, (q1, q2)) ∈ m := by rw [hc2.1, hc2.2]; exact hmem
      have hP2 : ((ps ++ [(x, (q1, q2))]) ++ lft (fun z => left z && !z.sameKey (kd x)) m).Perm m := by
        refine List.Perm.trans ?_ hP
        rw [List.append_assoc]
        exact List.Perm.append_left _ (lft_step hm hmem' hlk).symm
      have hlen : ps.length < m.length := by
        have := hP2.length_eq
        simp only [List.length_append, List.length_cons, List.length_nil] at this
        omega
      have hJ2 : J (ps.map (·.2)) w2 := hJ _ wr w2 (some W.heap.size) hJs hg2 (fun r e => by cases e; exact ⟨Nat.le_refl _, hrg.iter_walk⟩)
      have hJ3 : J (ps.map (·.2)) (w2.alloc (.cells #[.int .i64 q1, .int .i64 q2] 58)) := hJ _ w2 _ none hJ2 (World.grownBy_alloc _ _ _) (fun r e => by cases e)
      have hrg3 := hrg2.alloc (.cells #[.int .i64 q1, .int .i64 q2] 58)
      obtain ⟨fn, tmps, assign, body, hy, hR⟩ := hY (ps.map (·.2)) (q1, q2) _ hJ3 (by simpa using hlen)
      have hxt := heap_alloc_at w2 (.cells #[.int .i64 q1, .int .i64 q2] 58)
      obtain ⟨y0, y1, -, -⟩ := row2 hxt
      dsimp only [encw] at *
      clear hP hat hmem hmem' hp' hJ2 hJ3 ec ez hc2 hv hkey hs2 hlk hJs hJ hY
      replace hP2 := Lib.hid hP2
      gi_wp2_with (first
        | (refine wpListIn_store_row rfl 58 _ _ rfl w2.heap.size #[.int .i64 q1, .int .i64 q2] rfl rfl 58 _ (heap_alloc_at _ _) (by kernel_rfl) (by kernel_rfl) (by kernel_rfl) ?_)
        | gi_in)
      refine hR.mono ?_
      rintro e W3 (⟨rfl, hJ3, hk3⟩ | ⟨rfl, hJx3⟩)
      · gi_wp2
        have hrg4 := hrg3.of_walks hk3
        go_roundw
        case rel => exact ⟨_, cnt2, ps ++ [(x, (q1, q2))], hrg4, hP2.out, by simpa using hJ3⟩
        case measure => rw [hrg4.left_eq, hrg.left_eq]; exact hlt
      · gi_wp2
        refine bodyPost_ret (results_none rfl _ _ _) rfl ?_
        exact ⟨⟨_, rfl⟩, .inr ⟨_, trivial, hJx3⟩⟩
theorem vals_stops (n : Nat) (hn : 1 ≤ n) (Bm b nn : Nat) (m : Hl) (hm : Rising m) (w : World) (hBm : Bm < w.heap.size) (hc : w.cell? ⟨Bm, 0, none⟩ = some (.map (some b))) (hown : w.ownsMap Try.prog 3 rdW b nn (dmap m)) :
    SeqStopsK Fence.wide n Try.prog 82 #[.pointer (some ⟨Bm, 0, none⟩)] (fun p : Pt => #[encw p]) KeepsWalks (fun ss => ss.Perm (m.map (·.2))) (fun _ => True) m.length w := fun l J Jx W hW hJ _ hY h0 => by
  have hown' : W.ownsMap Try.prog 3 rdW b nn (dmap m) := by
    have hbl := hown.lt
    obtain ⟨es, clock, hb, Ft, hs, hD⟩ := hown
    exact ⟨es, clock, (hW.block b hbl).trans hb, Ft, hs, hD⟩
  exact vals_walk n hn l Bm b nn m hm J Jx hY W hJ ((hW.cell (p := ⟨Bm, 0, none⟩) hBm).trans hc) hown' h0
theorem vals_any (v : Option Nat) (w : World) (n : Nat) :
    CallsIn Fence.wide n Try.prog 70 #[.map v] w fun e w' => e = .returned (.func (.func 82) #[] #[.pointer (some ⟨w.heap.size, 0, none⟩)]) ∧ w' = w.alloc (.cells #[.map v] 105) := by
  refine callsIn_of_wp Try.func70 rfl trivial ?_ rfl
  simp only [Try.ntmps70, List.size_toArray, List.length_cons, List.length_nil, Nat.reduceAdd, Nat.reduceSub, Array.replicate_succ, Array.replicate_zero, List.push_toArray, List.append_toArray, List.nil_append, List.cons_append]
  gi_wp2
  go_ret
  exact ⟨rfl, rfl⟩
/-- what is collected lies in rows of the call's own, under a box -/
def Cl (n0 s : Nat) (pre : List Pt) (W : World) : Prop := ∃ v, Boxed W s 51 v ∧ W.ownsRow n0 58 2 v pre.length (pre.map prow).flatten
theorem rows_own {base size k : Nat} {e : TypeId} {v : Value} {xs : List Value} {A B : World} {row : Option Nat} (h : A.ownsRow base e size v k xs) (hg : A.grownBy B row) (hr : ∀ r, row = some r → ∃ o : Obj, A.heap[r]? = some o ∧ o.isCells = false) : B.ownsRow base e size v k xs := by
  refine h.kept hg ?_
  rcases h.2 with ⟨rfl, _⟩ | ⟨g, cap, cur, rfl, _, hgb, _⟩
  · exact Or.inl rfl
  · right
    intro e'
    obtain ⟨o, ho, hc⟩ := hr g e'.symm
    rw [hgb] at ho
    cases ho
    cases hc
theorem Cl.own (n0 s B : Nat) : OwnFrom B (Cl n0 s) := fun pre X Y row ⟨v, h1, h2⟩ hg hr =>
  ⟨v, boxed_own _ _ (fun (_ : Unit) => v) () X Y row h1 hg (fun r e => (hr r e).2), rows_own h2 hg fun r e => (hr r e).2⟩
section
attribute [local go_sem] Oper.semAt_some
set_option maxRecDepth 100000 in
set_option maxHeartbeats 4000000 in
/-- slices.AppendSeq(nil, maps.Values(m)) -/
theorem apseq_in (n : Nat) (hn : 2 ≤ n) (Bm b nn : Nat) (m : Hl) (hm : Rising m) (hl : m.length ≤ 4096) (w : World) (hBm : Bm < w.heap.size) (hc : w.cell? ⟨Bm, 0, none⟩ = some (.map (some b))) (hown : w.ownsMap Try.prog 3 rdW b nn (dmap m)) :
    CallsIn Fence.wide n Try.prog 81 #[.slice none 0 0, .func (.func 82) #[] #[.pointer (some ⟨Bm, 0, none⟩)]] w fun e w' => ∃ (v : Value) (ss : List Pt), e = .returned v ∧ ss.Perm (m.map (·.2)) ∧ w'.ownsRow w.heap.size 58 2 v ss.length (ss.map prow).flatten ∧ Below w.heap.size w w' := by
  have h1 : 1 ≤ n := by omega
  obtain ⟨i0, hi, hz0, hz1, hz2⟩ := info_parts (show (Try.prog.info? 58).map (fun i => (i.zero, i.size, i.bytes)) = some (some (.agg #[.int .i64 0, .int .i64 0]), 2, 16) by kernel_rfl)
  refine callsIn_of_wp_marks Try.func81 rfl trivial ?_ rfl
  simp only [Try.ntmps81, List.size_toArray, List.length_cons, List.length_nil, Nat.reduceAdd, Nat.reduceSub, Array.replicate_succ, Array.replicate_zero, List.push_toArray, List.append_toArray, List.nil_append, List.cons_append]
  gi_wp2
  have hB0 : Below w.heap.size w (w.alloc (.cells #[.slice none 0 0] 51)) := (Below.refl _ w).alloc (Nat.le_refl _) _
  have hbx : Boxed (w.alloc (.cells #[.slice none 0 0] 51)) w.heap.size 51 (.slice none 0 0) := Boxed.new w 51 _
  have hsz : (w.alloc (.cells #[.slice none 0 0] 51)).heap.size = w.heap.size + 1 := by simp
  generalize w.alloc (.cells #[.slice none 0 0] 51) = W0 at *
  refine wpIn_rangeFunc_ownH rfl h1 (gf := 82) (lb := #[.pointer (some ⟨Bm, 0, none⟩)]) rfl trivial (enters_of Try.func82 (by kernel_rfl) rfl)
    (vals_stops (n - 1) (by omega) Bm b nn m hm w hBm hc hown) (fun h k => h.trans k) (fun W l o o' hl hlo hcl hwk => KeepsWalks.putObj _ hlo hwk) hB0 (fun _ => rfl)
    (fun pre W => (Cl w.heap.size w.heap.size pre W ∧ Below w.heap.size w W))
    (fun c pre W => False)
    (OwnFrom.and (Cl.own _ _ _) (ownFrom_below (Nat.le_refl _) (by omega)))
    (fun c => fun s A B row hs hg hr => hs)
    ⟨⟨.slice none 0 0, hbx, ⟨rfl, .inl ⟨rfl, rfl⟩⟩⟩, hB0⟩
    (fun x a' W => ∃ Bx, w.heap.size < Bx ∧ W.heap[Bx]? = some (.cells #[.int .i64 x.1, .int .i64 x.2] 58) ∧
      ∃ u : Value, a' = { tmps := #[.slice none 0 0, .func (.func 82) #[] #[.pointer (some ⟨Bm, 0, none⟩)], .pointer (some ⟨w.heap.size, 0, none⟩), undef, .slice none 0 0, .pointer (some ⟨Bx, 0, none⟩), u, encw x, undef, undef, undef, undef, undef], defers := [] })
    (fun x a' _ X Y row hs hg hr => by
      obtain ⟨Bx, h1, h2, h3⟩ := hs
      refine ⟨Bx, h1, (hg.block Bx (heap_lt h2) fun e => ?_).trans h2, h3⟩
      obtain ⟨_, o, ho, hn⟩ := hr _ e.symm
      rw [h2] at ho
      cases ho
      cases hn)
    ?assign ?body ?done ?stop
  case assign =>
    rintro l pre x W K ⟨⟨v, hv, hrow⟩, hB1⟩ hK
    obtain ⟨q1, q2⟩ := x
    dsimp only [encw] at *
    have hxt := heap_alloc_at W (.cells #[.int .i64 q1, .int .i64 q2] 58)
    gi_wp2
    exact hK _ _ ((KeepsOthers.alloc _ _).from _) (KeepsWalks.alloc _ _) ⟨⟨v, hv.alloc _, hrow.alloc _⟩, hB1.alloc hB1.size _⟩ ⟨W.heap.size, Boxed.lt hv, hxt, _, rfl⟩
  case body =>
    rintro l pre x a' W hl ⟨r, hr⟩ ⟨⟨v, hv, hrow⟩, hB1⟩ ⟨Bx, hBx, bX, u, rfl⟩ hlt
    obtain ⟨y0, y1, -, -⟩ := row2 bX
    have cV := hv.cell
    have fV := hv.frozen
    obtain ⟨q1, q2⟩ := x
    dsimp only [encw] at *
    have hs1 := hB1.size
    have hBxl := heap_lt bX
    gi_wp2_with (first
      | (gi_at_builtin; refine wpListIn_append_own _ rfl _ _ 51 rfl w.heap.size 58 i0 (.agg #[.int .i64 0, .int .i64 0]) 2 16 Try.underlying51 hi hz0 hz1 hz2 rfl (by decide) _ _ _ rfl (hrow.alloc _) ⟨W.heap.size, 0, none⟩ 1 1 [.int .i64 q1, .int .i64 q2] rfl rfl (fun j u hj => by rw [addr_add, Nat.zero_add, cell_of_row _ _ j _ 58 (0, 0) (heap_alloc_at W (.cells #[.int .i64 q1, .int .i64 q2] 58))]; simpa using hj) (by simp [Value.oneCell']) (by unfold maxLen; omega) (by omega) (by rw [size_al]; omega) ?_; intro v' w3 hown' hg3 hnil3
         have hg3' : (W.alloc (.cells #[.int .i64 q1, .int .i64 q2] 58)).grownBy w3 v.ownBlock := hg3
         obtain ⟨hb1, hb2, hb3, hb4, hb5⟩ := Boxed.appended hv (by decide) hrow hs1 (Nat.le_refl _) hown' hg3'
         obtain ⟨g', cap', rfl⟩ : ∃ g' cap', v' = .slice (some ⟨g', 0, none⟩) (pre.length + 1) cap' := (by
           rcases hown'.2 with ⟨_, h0⟩ | ⟨g', cap', _, e, _⟩
           · exact absurd h0 (by omega)
           · exact ⟨g', cap', e⟩)
         have cB := hb1.cell
         have fB := hb1.frozen
         clear hnil3 hg3 hown'
         go_frame)
      | gi_in)
    refine ⟨hb4.from _, hb4.walks, ⟨_, hb2, ?_⟩, hB1.trans hb5⟩
    have e : ((pre ++ [(q1, q2)]).map prow).flatten = (pre.map prow).flatten ++ [.int .i64 q1, .int .i64 q2] := by simp [prow]
    rw [e, List.length_append]
    exact hb3
  case done =>
    rintro D ys W hD hP ⟨⟨v, hv, hrow⟩, hB1⟩ hK
    have cV := hv.cell
    have fV := hv.frozen
    gi_wp2
    refine ⟨by simp, .inl ⟨_, _, rfl, run_takeDeferred hK, ?_⟩⟩
    refine ⟨v, ?_, v, ys, rfl, hP, ?_, ?_⟩
    · simp [results, Try.f81, go_sem]
    · refine hrow.kept (grownBy_putObj' _ _ _) ?_
      rcases hrow.2 with ⟨rfl, _⟩ | ⟨g, cap, cur, rfl, _, hgb, _⟩
      · exact Or.inl rfl
      · right
        intro e'
        obtain rfl : g = D := by simpa [Value.ownBlock] using e'
        rw [hgb] at hK
        cases hK
    · exact hB1.grown (grownBy_putObj' _ _ _) hB1.size (fun k e => by cases e; omega)
  case stop =>
    rintro D c pre W hD _ hF
    exact hF.elim
end
end Go.Proofs.Ytbbjnhajmckjoaa
