/- Net: the arguments, opened: pieces; how great they are. -/
import Derived.Test.YtfmjmjppkdaanaaParts
import Derived.Test.YtfmjmjppkdaanaaOpen
import Derived.Deep.SlicePairs
namespace Go.Proofs.Ytfmjmjppkdaanaa
open Go.ChangeShapes Go.WideShapes Go.ChangeAt Go.RowKit Go.Deep

theorem wts {H : Type} {P : Program} {ts : List TypeId} {ds : List (DataW H)} (h : (DataW.weightsEach P ts ds).all (· ≤ reachBytes) = true) {j : Nat} {t : TypeId} {d : DataW H} (ht : ts[j]? = some t) (hd : ds[j]? = some d) : ∀ n ∈ d.weights P t, n ≤ reachBytes :=
  fun n hn => by simpa using List.all_eq_true.1 h n (DataW.weights_mem_each ht hd n hn)
theorem weightsAll_mem {H : Type} {P : Program} {e : TypeId} : ∀ {l : List (DataW H)} {d : DataW H}, d ∈ l → ∀ n ∈ d.weights P e, n ∈ DataW.weightsAll P e l
  | x :: l, d, hd, n, hn => by
    simp only [DataW.weightsAll, List.mem_append]
    rcases List.mem_cons.1 hd with rfl | h
    · exact Or.inl hn
    · exact Or.inr (weightsAll_mem h n hn)
theorem weights_slice {H : Type} {P : Program} {t e : TypeId} {es sp : List (DataW H)} (hu : P.underlying t = some (.slice e)) (h : ∀ n ∈ (DataW.slice es sp).weights P t, n ≤ reachBytes) :
    es.length * P.bytesOf e ≤ 140737488351232 ∧ ∀ d ∈ es, ∀ n ∈ d.weights P e, n ≤ reachBytes := by
  simp only [DataW.weights, hu] at h
  have h1 := h ((es.length + sp.length) * P.bytesOf e) (by simp)
  have h2 : reachBytes = 140737488351232 := rfl
  refine ⟨by rw [Nat.add_mul] at h1; omega, fun d hd n hn => h n ?_⟩
  simp only [List.mem_cons, List.mem_append]
  exact Or.inr (Or.inl (weightsAll_mem hd n hn))
theorem cells3 : Try.prog.cellsOf 3 = 1 := by kernel_rfl
theorem cells5 : Try.prog.cellsOf 5 = 1 := by kernel_rfl
theorem cells22 : Try.prog.cellsOf 22 = 1 := by kernel_rfl
theorem cells45 : Try.prog.cellsOf 45 = 1 := by kernel_rfl
theorem cells77 : Try.prog.cellsOf 77 = 3 := by kernel_rfl
theorem bytes3 : Try.prog.bytesOf 3 = 8 := by kernel_rfl
theorem bytes77 : Try.prog.bytesOf 77 = 40 := by kernel_rfl
theorem ints_trod {H : Type} {enc : TypeId × Value → H} {W : World} {n : Nat} {cs : List Value} {x : DataW H × List MemPlace} (h : DataW.trod enc Try.prog W 0 (fun _ => true) true n 45 cs = some x) :
    ∃ (A : Option Addr) (l : List Int) (c : Nat), cs = [.slice A l.length c] ∧ Ints W A l ∧ (A = none → c = 0) ∧ ((∀ n ∈ x.1.weights Try.prog 45, n ≤ reachBytes) → l.length * 8 ≤ 140737488351232) ∧ ∀ n ∈ l, -9223372036854775808 ≤ n ∧ n ≤ 9223372036854775807 := by
  rcases open_ints Try.underlying45 Try.underlying3 cells3 h with ⟨hc, hx⟩ | ⟨a, len, cap, zs, hc, _, hl, hm, hz, hx, hcell, hwf⟩
  · exact ⟨none, [], 0, hc, Sl.nil _ _ _ _, fun _ => rfl, fun _ => by simp, by simp⟩
  · simp only [if_true] at hz
    have hls : (zs.take len).length = len := by rw [List.length_take]; omega
    refine ⟨some a, zs.take len, cap, by rw [hls]; exact hc, ⟨by unfold maxLen at hm; rw [List.length_map, hls]; omega, fun r hr => ?_, fun hn => ?_⟩, (fun h => by cases h), fun hw => ?_, fun n hn => ?_⟩
    · obtain ⟨q, _, rfl⟩ := List.mem_map.1 hr; rfl
    · have hlen : 0 < len := by rw [List.length_map, hls] at hn; exact hn
      have c0 := hcell 0 (by omega)
      obtain ⟨b, o, spot⟩ := a
      have hspot : spot = none := by simpa [Addr.add] using World.cell?_spot c0
      subst hspot
      refine ⟨b, o, rfl, trivial, ?_, fun i r hr f u hu => ?_⟩
      · rw [addr_add] at c0
        rcases Nat.lt_or_ge b W.heap.size with q | q
        · exact q
        · simp [World.cell?, Array.getElem?_eq_none q] at c0
      · rw [List.getElem?_map] at hr
        have hi : i < len := by
          rcases Nat.lt_or_ge i len with q | q
          · exact q
          · rw [List.getElem?_eq_none (by rw [hls]; exact q)] at hr; cases hr
        have h1 := hcell i (by omega)
        rw [addr_add] at h1
        rw [List.getElem?_take, if_pos hi, List.getElem?_eq_getElem (by omega)] at hr
        simp only [Option.map_some, Option.some.injEq] at hr
        subst hr
        match f, hu with
        | 0, hu =>
          simp only [irow, List.getElem?_cons_zero, Option.some.injEq] at hu
          rw [← hu, Nat.mul_one, Nat.add_zero, h1]
          simp [List.getD, show i < zs.length by omega]
        | f + 1, hu => simp [irow] at hu
    · rw [hx] at hw
      have := (weights_slice Try.underlying45 hw).1
      rw [bytes3] at this
      rw [hls]
      have e : (lits .i64 (zs.take len) : List (DataW H)).length = len := by simp only [lits, List.length_map]; exact hls
      rw [e] at this
      exact this
    · exact bounds_i64 (hwf n (List.mem_of_mem_take hn))
instance : Inhabited Part := ⟨⟨0, 0, []⟩⟩
/-- a piece that may be handed in -/
def Fits (p : Part) : Prop := 0 ≤ p.kind ∧ p.kind ≤ 255 ∧ p.x < 18446744073709551616 ∧ ∀ n ∈ p.of, -9223372036854775808 ≤ n ∧ n ≤ 9223372036854775807
set_option maxRecDepth 100000 in
theorem piece_trod {H : Type} {enc : TypeId × Value → H} {W : World} {n : Nat} {cs : List Value} {x : DataW H × List MemPlace} (h : DataW.trod enc Try.prog W 0 (fun _ => true) true n 77 cs = some x) :
    ∃ (p : Part) (A : Option Addr) (c : Nat), cs = [.int .u8 p.kind, .int .u64 p.x, .slice A p.of.length c] ∧ Ints W A p.of ∧ (A = none → c = 0) ∧ Fits p ∧ ((∀ n ∈ x.1.weights Try.prog 77, n ≤ reachBytes) → p.of.length * 8 ≤ 140737488351232) := by
  obtain ⟨xs, m, rfl, hx, hlen, hxl, hf⟩ := DataW.trod_struct Try.underlying77 h
  rw [cells77] at hlen
  match cs, hlen with
  | [v0, v1, v2], _ =>
    have q0 := hf 0 _ rfl
    have q1 := hf 1 _ rfl
    have q2 := hf 2 _ rfl
    match xs, hxl with
    | [y0, y1, y2], _ =>
      have r0 : DataW.trod enc Try.prog W 0 (fun _ => true) true m 5 (([v0, v1, v2].drop 0).take (Try.prog.cellsOf 5)) = some y0 := q0
      have r1 : DataW.trod enc Try.prog W 0 (fun _ => true) true m 22 (([v0, v1, v2].drop 1).take (Try.prog.cellsOf 22)) = some y1 := q1
      have r2 : DataW.trod enc Try.prog W 0 (fun _ => true) true m 45 (([v0, v1, v2].drop 2).take (Try.prog.cellsOf 45)) = some y2 := q2
      rw [cells5] at r0
      rw [cells22] at r1
      rw [cells45] at r2
      simp only [List.drop_zero, List.drop_succ_cons, List.take_succ_cons, List.take_zero] at r0 r1 r2
      obtain ⟨a, h0, _, w0⟩ := DataW.trod_int Try.underlying5 r0
      obtain ⟨b, h1, _, w1⟩ := DataW.trod_int Try.underlying22 r1
      obtain ⟨A, l, c, h2, hI, hc, hw, hbd⟩ := ints_trod r2
      simp only [List.cons.injEq, and_true] at h0 h1 h2
      have b0 := bounds_u8 w0
      have b1 := bounds_u64 w1
      refine ⟨⟨a, b.toNat, l⟩, A, c, ?_, hI, hc, ⟨b0.1, b0.2, by (show b.toNat < _); omega, hbd⟩, fun hW => hw fun n hn => hW n ?_⟩
      · have e : ((b.toNat : Nat) : Int) = b := Int.toNat_of_nonneg b1.1
        simp only [h0, h1, h2, e]
      · rw [hx]
        simp only [DataW.weights, Try.underlying77]
        exact DataW.weights_mem_each (j := 2) (t := 45) (d := y2.1) rfl rfl n hn
set_option maxRecDepth 100000 in
theorem pieces_trod {H : Type} {enc : TypeId × Value → H} {W : World} {n : Nat} {cs : List Value} {x : DataW H × List MemPlace} (h : DataW.trod enc Try.prog W 0 (fun _ => true) true n 40 cs = some x) :
    ∃ (A : Option Addr) (l : List Part) (c : Nat), cs = [.slice A l.length c] ∧ Pcs W A l ∧ (∀ p ∈ l, Fits p) ∧ ((∀ n ∈ x.1.weights Try.prog 40, n ≤ reachBytes) → Little l) := by
  rcases open_slice Try.underlying40 h with ⟨hc, _⟩ | ⟨a, len, cap, m, k, D, Pl, hc, _, hl, hm, hmm, hx, hall⟩
  · exact ⟨none, [], 0, hc, ⟨by simp, fun k hk => absurd hk (by simp)⟩, by simp, fun _ => ⟨by simp, by simp⟩⟩
  · simp only [if_true] at hmm
    subst hmm
    have hs : ∀ i, i < m → ∃ f : Part × Option Addr × Nat, W.cells? 0 (a.add (i * 3)) 3 = some [.int .u8 f.1.kind, .int .u64 f.1.x, .slice f.2.1 f.1.of.length f.2.2] ∧ Ints W f.2.1 f.1.of ∧ (f.2.1 = none → f.2.2 = 0) ∧ Fits f.1 ∧
        ((∀ n ∈ (D i).weights Try.prog 77, n ≤ reachBytes) → f.1.of.length * 8 ≤ 140737488351232) := fun i hi => by
      obtain ⟨cs', h1, h2⟩ := hall i hi
      rw [cells77] at h1
      obtain ⟨p, A, c, rfl, q⟩ := piece_trod h2
      exact ⟨(p, A, c), h1, q⟩
    obtain ⟨F, hF⟩ := choose_lt hs
    have hls : ((List.range len).map fun i => (F i).1).length = len := by simp
    refine ⟨some a, (List.range len).map fun i => (F i).1, m, by rw [hls]; exact hc, ⟨?_, fun i hi => ?_⟩, fun p hp => ?_, fun hw => ?_⟩
    · unfold maxLen at hm
      rw [hls]; omega
    · rw [hls] at hi
      obtain ⟨f1, f2, f3, _⟩ := hF i (by omega)
      obtain ⟨_, _, c0⟩ := World.cells?_some f1
      have e0 := c0 0 (by simp)
      have e1 := c0 1 (by simp)
      have e2 := c0 2 (by simp)
      obtain ⟨b, o, spot⟩ := a
      obtain ⟨_, _, cz⟩ := World.cells?_some (hF 0 (by omega)).1
      have hspot : spot = none := by simpa [Addr.add] using World.cell?_spot (cz 0 (by simp))
      subst hspot
      rw [addr_add, addr_add] at e0 e1 e2
      have e : ((List.range len).map fun i => (F i).1)[i]'(by rw [hls]; exact hi) = (F i).1 := by simp
      rw [e]
      refine ⟨b, o, (F i).2.1, (F i).2.2, rfl, ?_, e0, e1, e2, f2, f3⟩
      rcases Nat.lt_or_ge b W.heap.size with q | q
      · exact q
      · simp [World.cell?, Array.getElem?_eq_none q] at e0
    · obtain ⟨i, hi, rfl⟩ := List.mem_map.1 hp
      have hi := List.mem_range.1 hi
      exact (hF i (by omega)).2.2.2.1
    · rw [hx] at hw
      have h2 := weights_slice Try.underlying40 hw
      rw [bytes77] at h2
      refine ⟨by simpa using h2.1, fun t ht => ?_⟩
      obtain ⟨i, hi, rfl⟩ := List.mem_map.1 ht
      have hi' : i < len := by simpa using hi
      exact (hF i (by omega)).2.2.2.2 (h2.2 (D i) (List.mem_map.2 ⟨i, hi, rfl⟩))
end Go.Proofs.Ytfmjmjppkdaanaa
