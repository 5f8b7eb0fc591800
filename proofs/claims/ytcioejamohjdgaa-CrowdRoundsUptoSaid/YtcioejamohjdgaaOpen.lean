/- Crowd: the arguments, opened: lists of numbers, lists of such; how great they are. -/
import Derived.Test.YtcioejamohjdgaaRows
import Derived.Test.YtcioejamohjdgaaBg1
import Derived.Deep.SlicePairs
import Derived.SizedLaws
import Derived.ChangeSlices
import Derived.Deep.CondSized
import Derived.OpenShut
namespace Go.Proofs.Ytcioejamohjdgaa
open Go.ChangeShapes Go.WideShapes Go.ChangeAt Go.RowKit Go.Deep

theorem own : ownKnob Try.prog.godebug = none := by kernel_rfl
theorem cells3 : Try.prog.cellsOf 3 = 1 := by kernel_rfl
theorem cells23 : Try.prog.cellsOf 23 = 1 := by kernel_rfl
theorem bulk_pos {H : Type} (d : DataW H) : 1 ≤ Rows.uptoBulk d := by
  cases d with
  | lit l => cases l <;> simp [Rows.uptoBulk]
  | _ => simp [Rows.uptoBulk]
theorem bulk_len {H : Type} : ∀ l : List (DataW H), l.length ≤ Rows.uptoBulkAll l
  | [] => by simp
  | d :: l => by
    have h1 := bulk_pos d
    have h2 := bulk_len l
    simp only [Rows.uptoBulkAll, List.length_cons]
    omega
theorem bulk_sum {H : Type} {α : Type} (D : α → DataW H) (f : α → List Int) : ∀ l : List α, (∀ i ∈ l, (f i).length + 1 ≤ Rows.uptoBulk (D i)) → tot (l.map f) + l.length ≤ Rows.uptoBulkAll (l.map D)
  | [], _ => by simp [tot]
  | a :: l, h => by
    have h1 := h a (by simp)
    have h2 := bulk_sum D f l (fun i hi => h i (List.mem_cons_of_mem _ hi))
    have e : tot ((a :: l).map f) = (f a).length + tot (l.map f) := by simp [tot]
    have e2 : Rows.uptoBulkAll ((a :: l).map D) = Rows.uptoBulk (D a) + Rows.uptoBulkAll (l.map D) := by simp [Rows.uptoBulkAll]
    have e3 : (a :: l).length = l.length + 1 := rfl
    omega
theorem ints_trod {H : Type} {enc : TypeId × Value → H} {W : World} {n : Nat} {cs : List Value} {x : DataW H × List MemPlace} (h : DataW.trod enc Try.prog W 0 (fun _ => true) true n 23 cs = some x) :
    ∃ (A : Option Addr) (l : List Int) (c : Nat), cs = [.slice A l.length c] ∧ Ints W A l ∧ (A = none → c = 0) ∧ l.length + 1 ≤ Rows.uptoBulk x.1 ∧ ∀ n ∈ l, -9223372036854775808 ≤ n ∧ n ≤ 9223372036854775807 := by
  rcases open_ints Try.underlying23 Try.underlying3 cells3 h with ⟨hc, hx⟩ | ⟨a, len, cap, zs, hc, _, hl, hm, hz, hx, hcell, hwf⟩
  · exact ⟨none, [], 0, hc, Sl.nil _ _ _ _, fun _ => rfl, by simp [hx, Rows.uptoBulk], by simp⟩
  · simp only [if_true] at hz
    have hls : (zs.take len).length = len := by rw [List.length_take]; omega
    refine ⟨some a, zs.take len, cap, by rw [hls]; exact hc, ⟨by unfold maxLen at hm; rw [List.length_map, hls]; omega, fun r hr => ?_, fun hn => ?_⟩, (fun h => by cases h), ?_, fun n hn => ?_⟩
    · obtain ⟨q, _, rfl⟩ := List.mem_map.1 hr; rfl
    · have hlen : 0 < len := by rw [List.length_map, hls] at hn; exact hn
      have c0 := hcell 0 (by omega)
      obtain ⟨b, o, spot⟩ := a
      have hspot : spot = none := by simpa [Addr.add] using World.cell?_spot c0
      subst hspot
      refine ⟨b, o, rfl, trivial, ?_, fun i r hr f u hu => ?_⟩
      · rw [addr_add] at c0
        rcases Nat.lt_or_ge b W.heap.size with q | q
        · exact q
        · simp [World.cell?, Array.getElem?_eq_none q] at c0
      · rw [List.getElem?_map] at hr
        have hi : i < len := by
          rcases Nat.lt_or_ge i len with q | q
          · exact q
          · rw [List.getElem?_eq_none (by rw [hls]; exact q)] at hr; cases hr
        have h1 := hcell i (by omega)
        rw [addr_add] at h1
        rw [List.getElem?_take, if_pos hi, List.getElem?_eq_getElem (by omega)] at hr
        simp only [Option.map_some, Option.some.injEq] at hr
        subst hr
        match f, hu with
        | 0, hu =>
          simp only [irow, List.getElem?_cons_zero, Option.some.injEq] at hu
          rw [← hu, Nat.mul_one, Nat.add_zero, h1]
          simp [List.getD, show i < zs.length by omega]
        | f + 1, hu => simp [irow] at hu
    · rw [hx]
      simp only [Rows.uptoBulk]
      have := bulk_len (lits .i64 (zs.take len) : List (DataW H))
      have e : (lits .i64 (zs.take len) : List (DataW H)).length = len := by simp only [lits, List.length_map]; exact hls
      omega
    · exact bounds_i64 (hwf n (List.mem_of_mem_take hn))
theorem nds_trod {H : Type} {enc : TypeId × Value → H} {W : World} {n : Nat} {cs : List Value} {x : DataW H × List MemPlace} (h : DataW.trod enc Try.prog W 0 (fun _ => true) true n 22 cs = some x) :
    ∃ (A : Option Addr) (nd : List (List Int)) (c : Nat), cs = [.slice A nd.length c] ∧ Nds W A nd ∧ (A = none → c = 0) ∧ tot nd + nd.length + 1 ≤ Rows.uptoBulk x.1 ∧ ∀ l ∈ nd, ∀ n ∈ l, -9223372036854775808 ≤ n ∧ n ≤ 9223372036854775807 := by
  rcases open_slice1 Try.underlying22 cells23 h with ⟨hc, hx⟩ | ⟨a, len, cap, m, k, V, D, Pl, hc, _, hl, hm, hmm, hx, hall⟩
  · exact ⟨none, [], 0, hc, ⟨by simp, fun k hk => by simp at hk⟩, fun _ => rfl, by simp [hx, Rows.uptoBulk, tot], by simp⟩
  · simp only [if_true] at hmm
    subst hmm
    obtain ⟨F, hF⟩ := choose_lt (α := Option Addr × List Int × Nat) (p := fun i f => V i = .slice f.1 f.2.1.length f.2.2 ∧ Ints W f.1 f.2.1 ∧ (f.1 = none → f.2.2 = 0) ∧ f.2.1.length + 1 ≤ Rows.uptoBulk (D i) ∧ ∀ n ∈ f.2.1, -9223372036854775808 ≤ n ∧ n ≤ 9223372036854775807) (n := m) (fun i hi => by
      obtain ⟨A, l, c, h1, h2, h3, h4, h5⟩ := ints_trod (hall i hi).2
      simp only [List.cons.injEq, and_true] at h1
      exact ⟨(A, l, c), h1, h2, h3, h4, h5⟩)
    have hls : ((List.range len).map fun i => (F i).2.1).length = len := by simp
    refine ⟨some a, (List.range len).map fun i => (F i).2.1, m, by rw [hls]; exact hc, ⟨by unfold maxLen at hm; rw [hls]; omega, fun k hk => ?_⟩, (fun h => by cases h), ?_, fun l hl n hn => ?_⟩
    · rw [hls] at hk
      have c0 := (hall k (by omega)).1
      obtain ⟨b, o, spot⟩ := a
      have hspot : spot = none := by simpa [Addr.add] using World.cell?_spot (hall 0 (by omega)).1
      subst hspot
      rw [addr_add, (hF k (by omega)).1] at c0
      have e : ((List.range len).map fun i => (F i).2.1)[k]'(by rw [hls]; exact hk) = (F k).2.1 := by simp
      refine ⟨b, o, (F k).1, (F k).2.2, rfl, ?_, by rw [e]; exact c0, by rw [e]; exact (hF k (by omega)).2.1, (hF k (by omega)).2.2.1⟩
      rcases Nat.lt_or_ge b W.heap.size with q | q
      · exact q
      · simp [World.cell?, Array.getElem?_eq_none q] at c0
    · rw [hx]
      simp only [Rows.uptoBulk]
      have := bulk_sum D (fun i => (F i).2.1) (List.range len) (fun i hi => (hF i (by have := List.mem_range.1 hi; omega)).2.2.2.1)
      rw [List.length_range] at this
      rw [hls]
      omega
    · obtain ⟨i, hi, rfl⟩ := List.mem_map.1 hl
      have hi' : i < len := by simpa using hi
      exact (hF i (by omega)).2.2.2.2 n hn
theorem small2 {H : Type} {a b : DataW H} (h : Rows.uptoSmall H ([a, b] ++ []) = true) : Rows.uptoBulk a + Rows.uptoBulk b ≤ 1048576 := by
  have := of_decide_eq_true h
  simpa [Rows.uptoBulkAll] using this
end Go.Proofs.Ytcioejamohjdgaa
