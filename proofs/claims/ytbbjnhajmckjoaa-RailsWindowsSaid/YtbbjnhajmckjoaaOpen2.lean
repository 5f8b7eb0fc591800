/- Rails: a rail and windows, opened. -/
import Derived.Test.YtbbjnhajmckjoaaMeetLaw
import Derived.Test.YtbbjnhajmckjoaaOpen
import Derived.Lib.SmallJoins
namespace Go.Proofs.Ytbbjnhajmckjoaa
open Go.ChangeShapes Go.WideShapes Go.ChangeAt Go.RowKit Go.Deep Go.Joins

theorem cells57 : Try.prog.cellsOf 57 = 2 := by kernel_rfl
theorem bytes57 : Try.prog.bytesOf 57 = 16 := by kernel_rfl
set_option maxRecDepth 100000 in
theorem wants_trod {H : Type} {enc : TypeId × Value → H} {W : World} {n : Nat} {cs : List Value} {x : DataW H × List MemPlace} (h : DataW.trod enc Try.prog W 0 (fun _ => true) true n 46 cs = some x) :
    ∃ (A : Option Addr) (l : List Pt) (c : Nat), cs = [.slice A l.length c] ∧ Pts W A l ∧ (A = none → c = 0) ∧ ((∀ n ∈ x.1.weights Try.prog 46, n ≤ reachBytes) → l.length * 16 ≤ 140737488351232) := by
  rcases open_slice_pairs Try.underlying46 Try.underlying57 cells57 rfl rfl cells2 cells2 h with ⟨hc, hx⟩ | ⟨a, len, cap, m, k, V0, V1, D0, D1, P0, P1, hc, _, hl, hm, hmm, hx, hall⟩
  · exact ⟨none, [], 0, hc, Sl.nil _ _ _ _, fun _ => rfl, fun _ => by simp⟩
  · simp only [if_true] at hmm
    subst hmm
    have hint : ∀ i, i < m → ∃ x y : Int, V0 i = .int .i64 x ∧ V1 i = .int .i64 y := fun i hi => by
      obtain ⟨x, h1, _⟩ := DataW.trod_int Try.underlying2 (hall i hi).2.2.1
      obtain ⟨y, h2, _⟩ := DataW.trod_int Try.underlying2 (hall i hi).2.2.2
      simp only [List.cons.injEq, and_true] at h1 h2
      exact ⟨x, y, h1, h2⟩
    obtain ⟨X, hX⟩ := choose_lt hint
    obtain ⟨Y, hY⟩ := choose_lt (fun i hi => hX i hi)
    have hls : ((List.range len).map fun i => ((X i, Y i) : Pt)).length = len := by simp
    refine ⟨some a, (List.range len).map fun i => (X i, Y i), m, by rw [hls]; exact hc, ⟨?_, prow_len _, fun hn => ?_⟩, (fun h => by cases h), fun hw => ?_⟩
    · unfold maxLen at hm
      simp; omega
    · have hlen : 0 < len := by simpa using hn
      have c0 := (hall 0 (by omega)).1
      obtain ⟨b, o, spot⟩ := a
      have hspot : spot = none := by simpa [Addr.add] using World.cell?_spot c0
      subst hspot
      refine ⟨b, o, rfl, trivial, ?_, fun i r hr f u hu => ?_⟩
      · rw [addr_add] at c0
        rcases Nat.lt_or_ge b W.heap.size with q | q
        · exact q
        · simp [World.cell?, Array.getElem?_eq_none q] at c0
      · have hi : i < len := by
          have := (List.getElem?_eq_some_iff.1 hr).1
          simpa using this
        obtain ⟨h1, h2, _, _⟩ := hall i (by omega)
        rw [addr_add] at h1 h2
        have hri : r = prow (X i, Y i) := by
          rw [List.getElem?_map, List.getElem?_map, List.getElem?_range hi] at hr
          exact (Option.some.inj hr).symm
        subst hri
        have e := hY i (by omega)
        match f, hu with
        | 0, hu => simp only [prow, List.getElem?_cons_zero, Option.some.injEq] at hu; rw [← hu, ← e.1]; exact h1
        | 1, hu => simp only [prow, List.getElem?_cons_succ, List.getElem?_cons_zero, Option.some.injEq] at hu; rw [← hu, ← e.2, Nat.add_assoc]; exact h2
        | f + 2, hu => simp [prow] at hu
    · rw [hx] at hw
      have := (weights_slice Try.underlying46 hw).1
      rw [bytes57] at this
      simpa using this
set_option maxRecDepth 100000 in
theorem open_rail {H : Type} {enc : TypeId × Value → H} {W : World} {v : Value} {d : DataW H} {p : List MemPlace} {r : Reach} {b0 : Nat} (hval : Value.okWide Try.prog W r b0 45 v) (h : DataW.Trod enc Try.prog W 0 (fun _ => true) true 45 v d p) :
    ∃ lo hi st : Int, v = .agg #[.int .i64 lo, .int .i64 hi, .int .i64 st] := by
  obtain ⟨v0, v1, v2, y0, y1, y2, n, hv, _, _, h0, h1, h2⟩ := open_agg3 Try.underlying45 (by kernel_rfl) (by kernel_rfl) hval h
  obtain ⟨x, e0, _⟩ := DataW.trod_int Try.underlying2 h0
  obtain ⟨y, e1, _⟩ := DataW.trod_int Try.underlying2 h1
  obtain ⟨z, e2, _⟩ := DataW.trod_int Try.underlying2 h2
  simp only [List.cons.injEq, and_true] at e0 e1 e2
  exact ⟨x, y, z, by rw [hv, e0, e1, e2]⟩
end Go.Proofs.Ytbbjnhajmckjoaa
