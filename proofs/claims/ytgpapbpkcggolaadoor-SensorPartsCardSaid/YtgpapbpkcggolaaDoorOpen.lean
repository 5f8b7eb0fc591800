/- Sensor: a slice of small numbers, opened; how great it is. -/
import Derived.Test.YtgpapbpkcggolaaDoorSrt10
import Derived.Deep.SlicePairs
import Derived.SizedLaws
import Derived.ChangeSlices
import Derived.OpenShut
namespace Go.Proofs.YtgpapbpkcggolaaDoor
open Go.ChangeShapes Go.WideShapes Go.ChangeAt Go.RowKit Go.Deep

theorem cells35 : Tryd.prog.cellsOf 35 = 1 := by kernel_rfl
theorem bytes35 : Tryd.prog.bytesOf 35 = 1 := by kernel_rfl
theorem wts {H : Type} {P : Program} {ts : List TypeId} {ds : List (DataW H)} (h : (DataW.weightsEach P ts ds).all (· ≤ reachBytes) = true) {j : Nat} {t : TypeId} {d : DataW H} (ht : ts[j]? = some t) (hd : ds[j]? = some d) : ∀ n ∈ d.weights P t, n ≤ reachBytes :=
  fun n hn => by simpa using List.all_eq_true.1 h n (DataW.weights_mem_each ht hd n hn)
theorem weights_slice {H : Type} {P : Program} {t e : TypeId} {es sp : List (DataW H)} (hu : P.underlying t = some (.slice e)) (h : ∀ n ∈ (DataW.slice es sp).weights P t, n ≤ reachBytes) : es.length * P.bytesOf e ≤ 140737488351232 := by
  simp only [DataW.weights, hu] at h
  have h1 := h ((es.length + sp.length) * P.bytesOf e) (by simp)
  have h2 : reachBytes = 140737488351232 := rfl
  rw [Nat.add_mul] at h1
  omega
theorem i8s_trod {H : Type} {enc : TypeId × Value → H} {W : World} {n : Nat} {cs : List Value} {x : DataW H × List MemPlace} (h : DataW.trod enc Tryd.prog W 0 (fun _ => true) true n 47 cs = some x) :
    ∃ (A : Option Addr) (l : List Int) (c : Nat), cs = [.slice A l.length c] ∧ I8s W A l ∧ (A = none → c = 0) ∧ ((∀ n ∈ x.1.weights Tryd.prog 47, n ≤ reachBytes) → l.length ≤ 140737488351232) ∧ (∀ n ∈ l, -128 ≤ n ∧ n ≤ 127) ∧ l.length ≤ c := by
  rcases open_ints Tryd.underlying47 Tryd.underlying35 cells35 h with ⟨hc, hx⟩ | ⟨a, len, cap, zs, hc, _, hl, hm, hz, hx, hcell, hwf⟩
  · exact ⟨none, [], 0, hc, Sl.nil _ _ _ _, fun _ => rfl, fun _ => by simp, by simp, by simp⟩
  · simp only [if_true] at hz
    have hls : (zs.take len).length = len := by rw [List.length_take]; omega
    refine ⟨some a, zs.take len, cap, by rw [hls]; exact hc, ⟨by unfold maxLen at hm; rw [List.length_map, hls]; omega, fun r hr => ?_, fun hn => ?_⟩, (fun h => by cases h), fun hw => ?_, fun n hn => ?_, by rw [hls]; exact hl⟩
    · obtain ⟨q, _, rfl⟩ := List.mem_map.1 hr; rfl
    · have hlen : 0 < len := by rw [List.length_map, hls] at hn; exact hn
      have c0 := hcell 0 (by omega)
      obtain ⟨b, o, spot⟩ := a
      have hspot : spot = none := by simpa [Addr.add] using World.cell?_spot c0
      subst hspot
      refine ⟨b, o, rfl, trivial, ?_, fun i r hr f u hu => ?_⟩
      · rw [addr_add] at c0
        rcases Nat.lt_or_ge b W.heap.size with q | q
        · exact q
        · simp [World.cell?, Array.getElem?_eq_none q] at c0
      · rw [List.getElem?_map] at hr
        have hi : i < len := by
          rcases Nat.lt_or_ge i len with q | q
          · exact q
          · rw [List.getElem?_eq_none (by rw [hls]; exact q)] at hr; cases hr
        have h1 := hcell i (by omega)
        rw [addr_add] at h1
        rw [List.getElem?_take, if_pos hi, List.getElem?_eq_getElem (by omega)] at hr
        simp only [Option.map_some, Option.some.injEq] at hr
        subst hr
        match f, hu with
        | 0, hu =>
          simp only [brow, List.getElem?_cons_zero, Option.some.injEq] at hu
          rw [← hu, Nat.mul_one, Nat.add_zero, h1]
          simp [List.getD, show i < zs.length by omega]
        | f + 1, hu => simp [brow] at hu
    · rw [hx] at hw
      have := weights_slice Tryd.underlying47 hw
      rw [bytes35] at this
      rw [hls]
      have e : (lits .i8 (zs.take len) : List (DataW H)).length = len := by simp only [lits, List.length_map]; exact hls
      rw [e] at this
      omega
    · exact bounds_i8 (hwf n (List.mem_of_mem_take hn))
end Go.Proofs.YtgpapbpkcggolaaDoor
