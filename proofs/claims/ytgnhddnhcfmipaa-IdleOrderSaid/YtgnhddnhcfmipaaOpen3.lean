/- Idle: the arguments, opened: calls. -/
import Derived.Test.YtgnhddnhcfmipaaRc2
import Derived.Test.YtgnhddnhcfmipaaOpen2
namespace Go.Proofs.Ytgnhddnhcfmipaa
open Go.ChangeShapes Go.WideShapes Go.ChangeAt Go.RowKit Go.Deep

theorem cells5 : Try.prog.cellsOf 5 = 1 := by kernel_rfl
theorem cells35 : Try.prog.cellsOf 35 = 2 := by kernel_rfl
theorem bytes35 : Try.prog.bytesOf 35 = 16 := by kernel_rfl
theorem crow_len (l : List (Int × Int)) : ∀ r ∈ l.map crow, r.length = 2 := fun r hr => by
  obtain ⟨q, _, rfl⟩ := List.mem_map.1 hr
  rfl
set_option maxRecDepth 100000 in
theorem calls_trod {H : Type} {enc : TypeId × Value → H} {W : World} {n : Nat} {cs : List Value} {x : DataW H × List MemPlace} (h : DataW.trod enc Try.prog W 0 (fun _ => true) true n 41 cs = some x) :
    ∃ (A : Option Addr) (l : List (Int × Int)) (c : Nat), cs = [.slice A l.length c] ∧ Cls W A l ∧ (A = none → c = 0) ∧ l.length ≤ c ∧ ((∀ n ∈ x.1.weights Try.prog 41, n ≤ reachBytes) → l.length * 16 ≤ 140737488351232) := by
  rcases open_slice_pairs Try.underlying41 Try.underlying35 cells35 rfl rfl cells5 cells3 h with ⟨hc, hx⟩ | ⟨a, len, cap, m, k, V0, V1, D0, D1, P0, P1, hc, _, hl, hm, hmm, hx, hall⟩
  · exact ⟨none, [], 0, hc, Sl.nil _ _ _ _, fun _ => rfl, Nat.le_refl _, fun _ => by simp⟩
  · simp only [if_true] at hmm
    subst hmm
    have hint : ∀ i, i < m → ∃ x y : Int, V0 i = .int .u8 x ∧ V1 i = .int .i64 y := fun i hi => by
      obtain ⟨x, h1, _⟩ := DataW.trod_int Try.underlying5 (hall i hi).2.2.1
      obtain ⟨y, h2, _⟩ := DataW.trod_int Try.underlying3 (hall i hi).2.2.2
      simp only [List.cons.injEq, and_true] at h1 h2
      exact ⟨x, y, h1, h2⟩
    obtain ⟨X, hX⟩ := choose_lt hint
    obtain ⟨Y, hY⟩ := choose_lt (fun i hi => hX i hi)
    have hls : ((List.range len).map fun i => ((X i, Y i) : Int × Int)).length = len := by simp
    refine ⟨some a, (List.range len).map fun i => (X i, Y i), m, by rw [hls]; exact hc, ⟨?_, crow_len _, fun hn => ?_⟩, (fun h => by cases h), by rw [hls]; exact hl, fun hw => ?_⟩
    · unfold maxLen at hm
      simp; omega
    · have hlen : 0 < len := by simpa using hn
      have c0 := (hall 0 (by omega)).1
      obtain ⟨b, o, spot⟩ := a
      have hspot : spot = none := by simpa [Addr.add] using World.cell?_spot c0
      subst hspot
      refine ⟨b, o, rfl, trivial, ?_, fun i r hr f u hu => ?_⟩
      · rw [addr_add] at c0
        rcases Nat.lt_or_ge b W.heap.size with q | q
        · exact q
        · simp [World.cell?, Array.getElem?_eq_none q] at c0
      · have hi : i < len := by
          have := (List.getElem?_eq_some_iff.1 hr).1
          simpa using this
        obtain ⟨h1, h2, _, _⟩ := hall i (by omega)
        rw [addr_add] at h1 h2
        have hri : r = crow (X i, Y i) := by
          rw [List.getElem?_map, List.getElem?_map, List.getElem?_range hi] at hr
          exact (Option.some.inj hr).symm
        subst hri
        have e := hY i (by omega)
        match f, hu with
        | 0, hu => simp only [crow, List.getElem?_cons_zero, Option.some.injEq] at hu; rw [← hu, ← e.1]; exact h1
        | 1, hu => simp only [crow, List.getElem?_cons_succ, List.getElem?_cons_zero, Option.some.injEq] at hu; rw [← hu, ← e.2, Nat.add_assoc]; exact h2
        | f + 2, hu => simp [crow] at hu
    · rw [hx] at hw
      have := (weights_slice Try.underlying41 hw).1
      rw [bytes35] at this
      simpa using this
end Go.Proofs.Ytgnhddnhcfmipaa
