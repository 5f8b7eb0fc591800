/- Points: the arguments, opened. -/
import Derived.Test.YthmdhmknadhjeaaLists
import Derived.Deep.SlicePairs
import Derived.SizedLaws
namespace Go.Proofs.Ythmdhmknadhjeaa
open Go.ChangeShapes Go.WideShapes Go.ChangeAt Go.RowKit Go.Deep

theorem cells70 : Try.prog.cellsOf 70 = 2 := by kernel_rfl
theorem cells2 : Try.prog.cellsOf 2 = 1 := by kernel_rfl
set_option maxRecDepth 100000 in
theorem open_points {H : Type} {enc : TypeId × Value → H} {W : World} {v : Value} {d : DataW H} {p : List MemPlace} {r : Reach} {b0 : Nat} (hval : Value.okWide Try.prog W r b0 27 v) (h : DataW.Trod enc Try.prog W 0 (fun _ => true) true 27 v d p) :
    ∃ (A : Option Addr) (l : List Pt) (c : Nat), v = .slice A l.length c ∧ Pts W A l ∧ ((l = [] ∧ d = .nil) ∨ ∃ es sp, d = .slice es sp ∧ es.length = l.length) := by
  obtain ⟨aa, ll, cc, rfl⟩ := okWide_slice Try.underlying27 hval
  obtain ⟨n, h⟩ := h
  simp only [Value.cells] at h
  rcases open_slice_pairs Try.underlying27 Try.underlying70 cells70 rfl rfl cells2 cells2 h with ⟨hc, hx⟩ | ⟨a, len, cap, m, k, V0, V1, D0, D1, P0, P1, hc, _, hl, hm, hmm, hx, hall⟩
  · simp only [List.cons.injEq, and_true] at hc
    simp only [Prod.mk.injEq] at hx
    exact ⟨none, [], 0, hc, Sl.nil _ _ _ _, Or.inl ⟨rfl, hx.1⟩⟩
  · simp only [List.cons.injEq, and_true] at hc
    simp only [if_true] at hmm
    subst hmm
    simp only [Prod.mk.injEq] at hx
    have hint : ∀ i, i < m → ∃ x y : Int, V0 i = .int .i64 x ∧ V1 i = .int .i64 y := fun i hi => by
      obtain ⟨x, h1, _⟩ := DataW.trod_int Try.underlying2 (hall i hi).2.2.1
      obtain ⟨y, h2, _⟩ := DataW.trod_int Try.underlying2 (hall i hi).2.2.2
      simp only [List.cons.injEq, and_true] at h1 h2
      exact ⟨x, y, h1, h2⟩
    obtain ⟨X, hX⟩ := choose_lt hint
    obtain ⟨Y, hY⟩ := choose_lt (fun i hi => hX i hi)
    have hls : ((List.range len).map fun i => ((X i, Y i) : Pt)).length = len := by simp
    refine ⟨some a, (List.range len).map fun i => (X i, Y i), m, by rw [hls]; exact hc, ⟨?_, prow_len _, fun hn => ?_⟩, Or.inr ⟨_, _, hx.1, by simp⟩⟩
    · unfold maxLen at hm
      simp; omega
    · have hlen : 0 < len := by simpa using hn
      have c0 := (hall 0 (by omega)).1
      obtain ⟨b, o, spot⟩ := a
      have hspot : spot = none := by simpa [Addr.add] using World.cell?_spot c0
      subst hspot
      refine ⟨b, o, rfl, trivial, ?_, fun i r hr f u hu => ?_⟩
      · rw [addr_add] at c0
        rcases Nat.lt_or_ge b W.heap.size with q | q
        · exact q
        · simp [World.cell?, Array.getElem?_eq_none q] at c0
      · have hi : i < len := by
          have := (List.getElem?_eq_some_iff.1 hr).1
          simpa using this
        obtain ⟨h1, h2, _, _⟩ := hall i (by omega)
        rw [addr_add] at h1 h2
        have hri : r = prow (X i, Y i) := by
          rw [List.getElem?_map, List.getElem?_map, List.getElem?_range hi] at hr
          exact (Option.some.inj hr).symm
        subst hri
        have e := hY i (by omega)
        match f, hu with
        | 0, hu => simp only [prow, List.getElem?_cons_zero, Option.some.injEq] at hu; rw [← hu, ← e.1]; exact h1
        | 1, hu => simp only [prow, List.getElem?_cons_succ, List.getElem?_cons_zero, Option.some.injEq] at hu; rw [← hu, ← e.2, Nat.add_assoc]; exact h2
        | f + 2, hu => simp [prow] at hu
theorem bytes70 : Try.prog.bytesOf 70 = 16 := by kernel_rfl
theorem own : ownKnob Try.prog.godebug = none := by kernel_rfl
theorem reach_points {H : Type} {ts : List TypeId} {ds : List (DataW H)} {l : List Pt} (hsz : (DataW.weightsEach Try.prog ts ds).all (· ≤ reachBytes) = true) {j : Nat} {d : DataW H} (ht : ts[j]? = some 27) (hj : ds[j]? = some d)
    (hd : (l = [] ∧ d = .nil) ∨ ∃ es sp, d = .slice es sp ∧ es.length = l.length) : l.length * 16 ≤ 140737488351232 := by
  rcases hd with ⟨rfl, _⟩ | ⟨es, sp, rfl, he⟩
  · simp
  · have := sized_slice hsz ht hj Try.underlying27
    rw [bytes70, he] at this
    have h2 : reachBytes = 140737488351232 := rfl
    omega
end Go.Proofs.Ythmdhmknadhjeaa
