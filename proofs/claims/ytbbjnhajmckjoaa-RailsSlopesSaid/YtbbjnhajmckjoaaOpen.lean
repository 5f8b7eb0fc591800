/- Rails: the arguments, opened: rows of two numbers, numbers; how great they are. -/
import Derived.Test.YtbbjnhajmckjoaaMovesLaw
import Derived.Deep.SlicePairs
import Derived.SizedLaws
import Derived.ChangeSlices
namespace Go.Proofs.Ytbbjnhajmckjoaa
open Go.ChangeShapes Go.WideShapes Go.ChangeAt Go.RowKit Go.Deep

theorem own : ownKnob Try.prog.godebug = none := by kernel_rfl
theorem cells2 : Try.prog.cellsOf 2 = 1 := by kernel_rfl
theorem cells3 : Try.prog.cellsOf 3 = 1 := by kernel_rfl
theorem cells41 : Try.prog.cellsOf 41 = 2 := by kernel_rfl
theorem bytes41 : Try.prog.bytesOf 41 = 16 := by kernel_rfl
theorem bytes2 : Try.prog.bytesOf 2 = 8 := by kernel_rfl
theorem wts {H : Type} {P : Program} {ts : List TypeId} {ds : List (DataW H)} (h : (DataW.weightsEach P ts ds).all (· ≤ reachBytes) = true) {j : Nat} {t : TypeId} {d : DataW H} (ht : ts[j]? = some t) (hd : ds[j]? = some d) : ∀ n ∈ d.weights P t, n ≤ reachBytes :=
  fun n hn => by simpa using List.all_eq_true.1 h n (DataW.weights_mem_each ht hd n hn)
theorem weightsAll_mem {H : Type} {P : Program} {e : TypeId} : ∀ {l : List (DataW H)} {d : DataW H}, d ∈ l → ∀ n ∈ d.weights P e, n ∈ DataW.weightsAll P e l
  | x :: l, d, hd, n, hn => by
    simp only [DataW.weightsAll, List.mem_append]
    rcases List.mem_cons.1 hd with rfl | h
    · exact Or.inl hn
    · exact Or.inr (weightsAll_mem h n hn)
theorem weights_slice {H : Type} {P : Program} {t e : TypeId} {es sp : List (DataW H)} (hu : P.underlying t = some (.slice e)) (h : ∀ n ∈ (DataW.slice es sp).weights P t, n ≤ reachBytes) :
    es.length * P.bytesOf e ≤ 140737488351232 ∧ ∀ d ∈ es, ∀ n ∈ d.weights P e, n ≤ reachBytes := by
  simp only [DataW.weights, hu] at h
  have h1 := h ((es.length + sp.length) * P.bytesOf e) (by simp)
  have h2 : reachBytes = 140737488351232 := rfl
  refine ⟨by rw [Nat.add_mul] at h1; omega, fun d hd n hn => h n ?_⟩
  simp only [List.mem_cons, List.mem_append]
  exact Or.inr (Or.inl (weightsAll_mem hd n hn))

set_option maxRecDepth 100000 in
theorem feds_trod {H : Type} {enc : TypeId × Value → H} {W : World} {n : Nat} {cs : List Value} {x : DataW H × List MemPlace} (h : DataW.trod enc Try.prog W 0 (fun _ => true) true n 22 cs = some x) :
    ∃ (A : Option Addr) (l : List Pt) (c : Nat), cs = [.slice A l.length c] ∧ Pts W A l ∧ (A = none → c = 0) ∧ ((∀ n ∈ x.1.weights Try.prog 22, n ≤ reachBytes) → l.length * 16 ≤ 140737488351232) := by
  rcases open_slice_pairs Try.underlying22 Try.underlying41 cells41 rfl rfl cells3 cells2 h with ⟨hc, hx⟩ | ⟨a, len, cap, m, k, V0, V1, D0, D1, P0, P1, hc, _, hl, hm, hmm, hx, hall⟩
  · exact ⟨none, [], 0, hc, Sl.nil _ _ _ _, fun _ => rfl, fun _ => by simp⟩
  · simp only [if_true] at hmm
    subst hmm
    have hint : ∀ i, i < m → ∃ x y : Int, V0 i = .int .i64 x ∧ V1 i = .int .i64 y := fun i hi => by
      obtain ⟨x, h1, _⟩ := DataW.trod_int Try.underlying3 (hall i hi).2.2.1
      obtain ⟨y, h2, _⟩ := DataW.trod_int Try.underlying2 (hall i hi).2.2.2
      simp only [List.cons.injEq, and_true] at h1 h2
      exact ⟨x, y, h1, h2⟩
    obtain ⟨X, hX⟩ := choose_lt hint
    obtain ⟨Y, hY⟩ := choose_lt (fun i hi => hX i hi)
    have hls : ((List.range len).map fun i => ((X i, Y i) : Pt)).length = len := by simp
    refine ⟨some a, (List.range len).map fun i => (X i, Y i), m, by rw [hls]; exact hc, ⟨?_, prow_len _, fun hn => ?_⟩, (fun h => by cases h), fun hw => ?_⟩
    · unfold maxLen at hm
      simp; omega
    · have hlen : 0 < len := by simpa using hn
      have c0 := (hall 0 (by omega)).1
      obtain ⟨b, o, spot⟩ := a
      have hspot : spot = none := by simpa [Addr.add] using World.cell?_spot c0
      subst hspot
      refine ⟨b, o, rfl, trivial, ?_, fun i r hr f u hu => ?_⟩
      · rw [addr_add] at c0
        rcases Nat.lt_or_ge b W.heap.size with q | q
        · exact q
        · simp [World.cell?, Array.getElem?_eq_none q] at c0
      · have hi : i < len := by
          have := (List.getElem?_eq_some_iff.1 hr).1
          simpa using this
        obtain ⟨h1, h2, _, _⟩ := hall i (by omega)
        rw [addr_add] at h1 h2
        have hri : r = prow (X i, Y i) := by
          rw [List.getElem?_map, List.getElem?_map, List.getElem?_range hi] at hr
          exact (Option.some.inj hr).symm
        subst hri
        have e := hY i (by omega)
        match f, hu with
        | 0, hu => simp only [prow, List.getElem?_cons_zero, Option.some.injEq] at hu; rw [← hu, ← e.1]; exact h1
        | 1, hu => simp only [prow, List.getElem?_cons_succ, List.getElem?_cons_zero, Option.some.injEq] at hu; rw [← hu, ← e.2, Nat.add_assoc]; exact h2
        | f + 2, hu => simp [prow] at hu
    · rw [hx] at hw
      have := (weights_slice Try.underlying22 hw).1
      rw [bytes41] at this
      simpa using this
theorem ints_trod {H : Type} {enc : TypeId × Value → H} {W : World} {n : Nat} {cs : List Value} {x : DataW H × List MemPlace} (h : DataW.trod enc Try.prog W 0 (fun _ => true) true n 23 cs = some x) :
    ∃ (A : Option Addr) (l : List Int) (c : Nat), cs = [.slice A l.length c] ∧ Ints W A l ∧ (A = none → c = 0) ∧ ((∀ n ∈ x.1.weights Try.prog 23, n ≤ reachBytes) → l.length * 8 ≤ 140737488351232) ∧ ∀ n ∈ l, -9223372036854775808 ≤ n ∧ n ≤ 9223372036854775807 := by
  rcases open_ints Try.underlying23 Try.underlying2 cells2 h with ⟨hc, hx⟩ | ⟨a, len, cap, zs, hc, _, hl, hm, hz, hx, hcell, hwf⟩
  · exact ⟨none, [], 0, hc, Sl.nil _ _ _ _, fun _ => rfl, fun _ => by simp, by simp⟩
  · simp only [if_true] at hz
    have hls : (zs.take len).length = len := by rw [List.length_take]; omega
    refine ⟨some a, zs.take len, cap, by rw [hls]; exact hc, ⟨by unfold maxLen at hm; rw [List.length_map, hls]; omega, fun r hr => ?_, fun hn => ?_⟩, (fun h => by cases h), fun hw => ?_, fun n hn => ?_⟩
    · obtain ⟨q, _, rfl⟩ := List.mem_map.1 hr; rfl
    · have hlen : 0 < len := by rw [List.length_map, hls] at hn; exact hn
      have c0 := hcell 0 (by omega)
      obtain ⟨b, o, spot⟩ := a
      have hspot : spot = none := by simpa [Addr.add] using World.cell?_spot c0
      subst hspot
      refine ⟨b, o, rfl, trivial, ?_, fun i r hr f u hu => ?_⟩
      · rw [addr_add] at c0
        rcases Nat.lt_or_ge b W.heap.size with q | q
        · exact q
        · simp [World.cell?, Array.getElem?_eq_none q] at c0
      · rw [List.getElem?_map] at hr
        have hi : i < len := by
          rcases Nat.lt_or_ge i len with q | q
          · exact q
          · rw [List.getElem?_eq_none (by rw [hls]; exact q)] at hr; cases hr
        have h1 := hcell i (by omega)
        rw [addr_add] at h1
        rw [List.getElem?_take, if_pos hi, List.getElem?_eq_getElem (by omega)] at hr
        simp only [Option.map_some, Option.some.injEq] at hr
        subst hr
        match f, hu with
        | 0, hu =>
          simp only [irow, List.getElem?_cons_zero, Option.some.injEq] at hu
          rw [← hu, Nat.mul_one, Nat.add_zero, h1]
          simp [List.getD, show i < zs.length by omega]
        | f + 1, hu => simp [irow] at hu
    · rw [hx] at hw
      have := (weights_slice Try.underlying23 hw).1
      rw [bytes2] at this
      rw [hls]
      have e : (lits .i64 (zs.take len) : List (DataW H)).length = len := by simp only [lits, List.length_map]; exact hls
      rw [e] at this
      exact this
    · exact bounds_i64 (hwf n (List.mem_of_mem_take hn))
end Go.Proofs.Ytbbjnhajmckjoaa
