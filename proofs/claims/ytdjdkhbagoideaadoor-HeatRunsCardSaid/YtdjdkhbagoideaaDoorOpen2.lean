/- Heat: the arguments, opened: a zone, powers; how great they are. -/
import Derived.Test.YtdjdkhbagoideaaDoorRn8
import Derived.Deep.SlicePairs
namespace Go.Proofs.YtdjdkhbagoideaaDoor
open Go.ChangeShapes Go.WideShapes Go.ChangeAt Go.RowKit Go.Deep

theorem wts {H : Type} {P : Program} {ts : List TypeId} {ds : List (DataW H)} (h : (DataW.weightsEach P ts ds).all (· ≤ reachBytes) = true) {j : Nat} {t : TypeId} {d : DataW H} (ht : ts[j]? = some t) (hd : ds[j]? = some d) : ∀ n ∈ d.weights P t, n ≤ reachBytes :=
  fun n hn => by simpa using List.all_eq_true.1 h n (DataW.weights_mem_each ht hd n hn)
theorem weightsAll_mem {H : Type} {P : Program} {e : TypeId} : ∀ {l : List (DataW H)} {d : DataW H}, d ∈ l → ∀ n ∈ d.weights P e, n ∈ DataW.weightsAll P e l
  | x :: l, d, hd, n, hn => by
    simp only [DataW.weightsAll, List.mem_append]
    rcases List.mem_cons.1 hd with rfl | h
    · exact Or.inl hn
    · exact Or.inr (weightsAll_mem h n hn)
theorem weights_slice {H : Type} {P : Program} {t e : TypeId} {es sp : List (DataW H)} (hu : P.underlying t = some (.slice e)) (h : ∀ n ∈ (DataW.slice es sp).weights P t, n ≤ reachBytes) :
    es.length * P.bytesOf e ≤ 140737488351232 ∧ ∀ d ∈ es, ∀ n ∈ d.weights P e, n ≤ reachBytes := by
  simp only [DataW.weights, hu] at h
  have h1 := h ((es.length + sp.length) * P.bytesOf e) (by simp)
  have h2 : reachBytes = 140737488351232 := rfl
  refine ⟨by rw [Nat.add_mul] at h1; omega, fun d hd n hn => h n ?_⟩
  simp only [List.mem_cons, List.mem_append]
  exact Or.inr (Or.inl (weightsAll_mem hd n hn))
theorem trod_float {H : Type} {enc : TypeId × Value → H} {P : Program} {w : World} {base : Nat} {spare : Nat → Bool} {held : Bool} {fuel : Nat} {t : TypeId} {cs : List Value} {x : DataW H × List MemPlace} {k : FloatKind} (ht : P.underlying t = some (.float k)) (h : DataW.trod enc P w base spare held fuel t cs = some x) : ∃ b, cs = [.float k b] ∧ x = (.lit (.float k b), []) := by
  cases fuel with
  | zero => simp [DataW.trod] at h
  | succ n =>
    unfold DataW.trod at h
    rw [ht] at h
    split at h <;> simp_all
/-- rows of equal length, opened -/
theorem rows_trod {α : Type} {H : Type} {enc : TypeId × Value → H} {W : World} {t e : TypeId} {m n : Nat} {cs : List Value} {x : DataW H × List MemPlace} (row : α → List Value) (Q : α → Prop) (ht : Tryd.prog.underlying t = some (.slice e)) (hce : Tryd.prog.cellsOf e = m) (hm0 : 0 < m) (hrow : ∀ s, (row s).length = m)
    (hel : ∀ n cs x, DataW.trod enc Tryd.prog W 0 (fun _ => true) true n e cs = some x → ∃ s, cs = row s ∧ Q s) (h : DataW.trod enc Tryd.prog W 0 (fun _ => true) true n t cs = some x) :
    ∃ (A : Option Addr) (l : List α) (c : Nat), cs = [.slice A l.length c] ∧ Sl (fun _ => True) W A m (l.map row) ∧ (A = none → c = 0) ∧ l.length ≤ c ∧ (∀ s ∈ l, Q s) ∧ ((∀ n ∈ x.1.weights Tryd.prog t, n ≤ reachBytes) → l.length * Tryd.prog.bytesOf e ≤ 140737488351232) := by
  rcases open_slice ht h with ⟨hc, _⟩ | ⟨a, len, cap, mm, k, D, Pl, hc, _, hl, hm, hmm, hx, hall⟩
  · exact ⟨none, [], 0, hc, Sl.nil _ _ _ _, fun _ => rfl, Nat.le_refl _, by simp, by simp⟩
  · simp only [if_true] at hmm
    subst hmm
    have hs : ∀ i, i < mm → ∃ s : α, W.cells? 0 (a.add (i * m)) m = some (row s) ∧ Q s := fun i hi => by
      obtain ⟨cs', h1, h2⟩ := hall i hi
      rw [hce] at h1
      obtain ⟨s, rfl, hb⟩ := hel _ _ _ h2
      exact ⟨s, h1, hb⟩
    rcases Nat.eq_zero_or_pos mm with h0 | h0
    · have hl0 : len = 0 := by omega
      subst hl0
      exact ⟨some a, [], mm, hc, Sl.nil _ _ _ _, (fun h => by cases h), Nat.zero_le _, by simp, by simp⟩
    have hin : Nonempty α := (hs 0 h0).elim fun s _ => ⟨s⟩
    obtain ⟨F, hF⟩ : ∃ F : Nat → α, ∀ i, i < mm → W.cells? 0 (a.add (i * m)) m = some (row (F i)) ∧ Q (F i) :=
      ⟨fun i => if hi : i < mm then (hs i hi).choose else Classical.choice hin, fun i hi => by simp only [dif_pos hi]; exact (hs i hi).choose_spec⟩
    have hls : ((List.range len).map F).length = len := by simp
    refine ⟨some a, (List.range len).map F, mm, by rw [hls]; exact hc, ⟨?_, fun r hr => ?_, fun hn => ?_⟩, (fun h => by cases h), by rw [hls]; exact hl, fun s hs' => ?_, fun hw => ?_⟩
    · unfold maxLen at hm
      simp; omega
    · obtain ⟨q, _, rfl⟩ := List.mem_map.1 hr
      exact hrow q
    · have hlen : 0 < len := by simpa using hn
      obtain ⟨_, _, c0⟩ := World.cells?_some (hF 0 (by omega)).1
      have c0 := c0 0 hm0
      obtain ⟨b, o, spot⟩ := a
      have hspot : spot = none := by
        have : 0 < (row (F 0)).length := by rw [hrow]; exact hm0
        rw [List.getElem?_eq_getElem this] at c0
        simpa [Addr.add] using World.cell?_spot c0
      subst hspot
      refine ⟨b, o, rfl, trivial, ?_, fun i r hr f u hu => ?_⟩
      · rw [addr_add, addr_add] at c0
        rcases Nat.lt_or_ge b W.heap.size with q | q
        · exact q
        · have : 0 < (row (F 0)).length := by rw [hrow]; exact hm0
          rw [List.getElem?_eq_getElem this] at c0
          simp [World.cell?, Array.getElem?_eq_none q] at c0
      · have hi : i < len := by
          have := (List.getElem?_eq_some_iff.1 hr).1
          simpa using this
        obtain ⟨_, _, c1⟩ := World.cells?_some (hF i (by omega)).1
        have hri : r = row (F i) := by
          rw [List.getElem?_map, List.getElem?_map, List.getElem?_range hi] at hr
          exact (Option.some.inj hr).symm
        subst hri
        have hf : f < m := by
          rcases Nat.lt_or_ge f m with q | q
          · exact q
          · rw [List.getElem?_eq_none (by rw [hrow]; exact q)] at hu; cases hu
        have := c1 f hf
        rw [addr_add, addr_add] at this
        rw [this, hu]
    · obtain ⟨i, hi, rfl⟩ := List.mem_map.1 hs'
      have hi := List.mem_range.1 hi
      exact (hF i (by omega)).2
    · rw [hx] at hw
      have := (weights_slice ht hw).1
      simpa using this
theorem cells2 : Tryd.prog.cellsOf 2 = 1 := by kernel_rfl
theorem cells3 : Tryd.prog.cellsOf 3 = 1 := by kernel_rfl
theorem cells5 : Tryd.prog.cellsOf 5 = 1 := by kernel_rfl
theorem cells23 : Tryd.prog.cellsOf 23 = 1 := by kernel_rfl
theorem cells47 : Tryd.prog.cellsOf 47 = 1 := by kernel_rfl
theorem cells49 : Tryd.prog.cellsOf 49 = 7 := by kernel_rfl
theorem cells50 : Tryd.prog.cellsOf 50 = 1 := by kernel_rfl
theorem cells52 : Tryd.prog.cellsOf 52 = 8 := by kernel_rfl
theorem cells79 : Tryd.prog.cellsOf 79 = 3 := by kernel_rfl
theorem bytes79 : Tryd.prog.bytesOf 79 = 24 := by kernel_rfl
theorem bytes23 : Tryd.prog.bytesOf 23 = 8 := by kernel_rfl
set_option maxRecDepth 100000 in
theorem trip_trod {H : Type} {enc : TypeId × Value → H} {W : World} {n : Nat} {cs : List Value} {x : DataW H × List MemPlace} (h : DataW.trod enc Tryd.prog W 0 (fun _ => true) true n 79 cs = some x) : ∃ t : Tp, cs = tprow t ∧ True := by
  obtain ⟨xs, m, rfl, _, hlen, hxl, hf⟩ := DataW.trod_struct Tryd.underlying79 h
  rw [cells79] at hlen
  match cs, hlen with
  | [v0, v1, v2], _ =>
    have q0 := hf 0 _ rfl
    have q1 := hf 1 _ rfl
    have q2 := hf 2 _ rfl
    match xs, hxl with
    | [y0, y1, y2], _ =>
      have r0 : DataW.trod enc Tryd.prog W 0 (fun _ => true) true m 23 (([v0, v1, v2].drop 0).take (Tryd.prog.cellsOf 23)) = some y0 := q0
      have r1 : DataW.trod enc Tryd.prog W 0 (fun _ => true) true m 23 (([v0, v1, v2].drop 1).take (Tryd.prog.cellsOf 23)) = some y1 := q1
      have r2 : DataW.trod enc Tryd.prog W 0 (fun _ => true) true m 5 (([v0, v1, v2].drop 2).take (Tryd.prog.cellsOf 5)) = some y2 := q2
      rw [cells23] at r0 r1
      rw [cells5] at r2
      simp only [List.drop_zero, List.drop_succ_cons, List.take_succ_cons, List.take_zero] at r0 r1 r2
      obtain ⟨a, h0, _⟩ := trod_float Tryd.underlying23 r0
      obtain ⟨b, h1, _⟩ := trod_float Tryd.underlying23 r1
      obtain ⟨c, h2, _, _⟩ := DataW.trod_int Tryd.underlying5 r2
      simp only [List.cons.injEq, and_true] at h0 h1 h2
      exact ⟨⟨a, b, c⟩, by rw [h0, h1, h2]; rfl, trivial⟩
set_option maxRecDepth 100000 in
theorem zone_trod {H : Type} {enc : TypeId × Value → H} {W : World} {n : Nat} {cs : List Value} {x : DataW H × List MemPlace} (h : DataW.trod enc Tryd.prog W 0 (fun _ => true) true n 49 cs = some x) :
    ∃ (Z : Zn) (A : Option Addr) (c : Nat), cs = (zarr Z (.slice A Z.tr.length c)).toList ∧ Tps W A Z.tr ∧ ((∀ n ∈ x.1.weights Tryd.prog 49, n ≤ reachBytes) → Z.tr.length * 24 ≤ 140737488351232) := by
  obtain ⟨xs, m, rfl, hx, hlen, hxl, hf⟩ := DataW.trod_struct Tryd.underlying49 h
  rw [cells49] at hlen
  match cs, hlen with
  | [v0, v1, v2, v3, v4, v5, v6], _ =>
    have q0 := hf 0 _ rfl
    have q1 := hf 1 _ rfl
    have q2 := hf 2 _ rfl
    have q3 := hf 3 _ rfl
    have q4 := hf 4 _ rfl
    have q5 := hf 5 _ rfl
    have q6 := hf 6 _ rfl
    match xs, hxl with
    | [y0, y1, y2, y3, y4, y5, y6], _ =>
      have r0 : DataW.trod enc Tryd.prog W 0 (fun _ => true) true m 23 (([v0, v1, v2, v3, v4, v5, v6].drop 0).take (Tryd.prog.cellsOf 23)) = some y0 := q0
      have r1 : DataW.trod enc Tryd.prog W 0 (fun _ => true) true m 23 (([v0, v1, v2, v3, v4, v5, v6].drop 1).take (Tryd.prog.cellsOf 23)) = some y1 := q1
      have r2 : DataW.trod enc Tryd.prog W 0 (fun _ => true) true m 23 (([v0, v1, v2, v3, v4, v5, v6].drop 2).take (Tryd.prog.cellsOf 23)) = some y2 := q2
      have r3 : DataW.trod enc Tryd.prog W 0 (fun _ => true) true m 23 (([v0, v1, v2, v3, v4, v5, v6].drop 3).take (Tryd.prog.cellsOf 23)) = some y3 := q3
      have r4 : DataW.trod enc Tryd.prog W 0 (fun _ => true) true m 23 (([v0, v1, v2, v3, v4, v5, v6].drop 4).take (Tryd.prog.cellsOf 23)) = some y4 := q4
      have r5 : DataW.trod enc Tryd.prog W 0 (fun _ => true) true m 3 (([v0, v1, v2, v3, v4, v5, v6].drop 5).take (Tryd.prog.cellsOf 3)) = some y5 := q5
      have r6 : DataW.trod enc Tryd.prog W 0 (fun _ => true) true m 47 (([v0, v1, v2, v3, v4, v5, v6].drop 6).take (Tryd.prog.cellsOf 47)) = some y6 := q6
      rw [cells23] at r0 r1 r2 r3 r4
      rw [cells3] at r5
      rw [cells47] at r6
      simp only [List.drop_zero, List.drop_succ_cons, List.take_succ_cons, List.take_zero] at r0 r1 r2 r3 r4 r5 r6
      obtain ⟨f0, h0, _⟩ := trod_float Tryd.underlying23 r0
      obtain ⟨f1, h1, _⟩ := trod_float Tryd.underlying23 r1
      obtain ⟨f2, h2, _⟩ := trod_float Tryd.underlying23 r2
      obtain ⟨f3, h3, _⟩ := trod_float Tryd.underlying23 r3
      obtain ⟨f4, h4, _⟩ := trod_float Tryd.underlying23 r4
      obtain ⟨f5, h5, _, _⟩ := DataW.trod_int Tryd.underlying3 r5
      obtain ⟨A, l, c, h6, hT, _, _, _, hw⟩ := rows_trod tprow (fun _ => True) Tryd.underlying47 cells79 (by decide) (fun _ => rfl) (fun n cs x h => trip_trod h) r6
      simp only [List.cons.injEq, and_true] at h0 h1 h2 h3 h4 h5 h6
      refine ⟨⟨f0, f1, f2, f3, f4, f5, l⟩, A, c, by rw [h0, h1, h2, h3, h4, h5, h6]; rfl, hT, fun hW => ?_⟩
      rw [bytes79] at hw
      refine hw fun n hn => hW n ?_
      rw [hx]
      simp only [DataW.weights, Tryd.underlying49]
      exact DataW.weights_mem_each (j := 6) (t := 47) (d := y6.1) rfl rfl n hn
set_option maxRecDepth 100000 in
theorem pow_trod {H : Type} {enc : TypeId × Value → H} {W : World} {n : Nat} {cs : List Value} {x : DataW H × List MemPlace} (h : DataW.trod enc Tryd.prog W 0 (fun _ => true) true n 52 cs = some x) :
    ∃ (r k a h s ow : Nat) (ws : List Nat) (A : Option Addr) (c : Nat) (mi : Int), cs = (parr r k a h s ow (.slice A ws.length c) mi).toList ∧ Ws W A ws ∧ (A = none → c = 0) ∧ ((∀ n ∈ x.1.weights Tryd.prog 52, n ≤ reachBytes) → ws.length * 8 ≤ 140737488351232) := by
  obtain ⟨xs, m, rfl, hx, hlen, hxl, hf⟩ := DataW.trod_struct Tryd.underlying52 h
  rw [cells52] at hlen
  match cs, hlen with
  | [v0, v1, v2, v3, v4, v5, v6, v7], _ =>
    have q0 := hf 0 _ rfl
    have q1 := hf 1 _ rfl
    have q2 := hf 2 _ rfl
    have q3 := hf 3 _ rfl
    have q4 := hf 4 _ rfl
    have q5 := hf 5 _ rfl
    have q6 := hf 6 _ rfl
    have q7 := hf 7 _ rfl
    match xs, hxl with
    | [y0, y1, y2, y3, y4, y5, y6, y7], _ =>
      have r0 : DataW.trod enc Tryd.prog W 0 (fun _ => true) true m 23 (([v0, v1, v2, v3, v4, v5, v6, v7].drop 0).take (Tryd.prog.cellsOf 23)) = some y0 := q0
      have r1 : DataW.trod enc Tryd.prog W 0 (fun _ => true) true m 23 (([v0, v1, v2, v3, v4, v5, v6, v7].drop 1).take (Tryd.prog.cellsOf 23)) = some y1 := q1
      have r2 : DataW.trod enc Tryd.prog W 0 (fun _ => true) true m 23 (([v0, v1, v2, v3, v4, v5, v6, v7].drop 2).take (Tryd.prog.cellsOf 23)) = some y2 := q2
      have r3 : DataW.trod enc Tryd.prog W 0 (fun _ => true) true m 23 (([v0, v1, v2, v3, v4, v5, v6, v7].drop 3).take (Tryd.prog.cellsOf 23)) = some y3 := q3
      have r4 : DataW.trod enc Tryd.prog W 0 (fun _ => true) true m 23 (([v0, v1, v2, v3, v4, v5, v6, v7].drop 4).take (Tryd.prog.cellsOf 23)) = some y4 := q4
      have r5 : DataW.trod enc Tryd.prog W 0 (fun _ => true) true m 23 (([v0, v1, v2, v3, v4, v5, v6, v7].drop 5).take (Tryd.prog.cellsOf 23)) = some y5 := q5
      have r6 : DataW.trod enc Tryd.prog W 0 (fun _ => true) true m 50 (([v0, v1, v2, v3, v4, v5, v6, v7].drop 6).take (Tryd.prog.cellsOf 50)) = some y6 := q6
      have r7 : DataW.trod enc Tryd.prog W 0 (fun _ => true) true m 2 (([v0, v1, v2, v3, v4, v5, v6, v7].drop 7).take (Tryd.prog.cellsOf 2)) = some y7 := q7
      rw [cells23] at r0 r1 r2 r3 r4 r5
      rw [cells50] at r6
      rw [cells2] at r7
      simp only [List.drop_zero, List.drop_succ_cons, List.take_succ_cons, List.take_zero] at r0 r1 r2 r3 r4 r5 r6 r7
      obtain ⟨f0, h0, _⟩ := trod_float Tryd.underlying23 r0
      obtain ⟨f1, h1, _⟩ := trod_float Tryd.underlying23 r1
      obtain ⟨f2, h2, _⟩ := trod_float Tryd.underlying23 r2
      obtain ⟨f3, h3, _⟩ := trod_float Tryd.underlying23 r3
      obtain ⟨f4, h4, _⟩ := trod_float Tryd.underlying23 r4
      obtain ⟨f5, h5, _⟩ := trod_float Tryd.underlying23 r5
      obtain ⟨f7, h7, _, _⟩ := DataW.trod_int Tryd.underlying2 r7
      obtain ⟨A, l, c, h6, hT, hz, _, _, hw⟩ := rows_trod wrow (fun _ => True) Tryd.underlying50 cells23 (by decide) (fun _ => rfl) (fun n cs x h => by
        obtain ⟨b, e, _⟩ := trod_float Tryd.underlying23 h
        exact ⟨b, e, trivial⟩) r6
      simp only [List.cons.injEq, and_true] at h0 h1 h2 h3 h4 h5 h6 h7
      refine ⟨f0, f1, f2, f3, f4, f5, l, A, c, f7, by rw [h0, h1, h2, h3, h4, h5, h6, h7]; rfl, hT, hz, fun hW => ?_⟩
      rw [bytes23] at hw
      refine hw fun n hn => hW n ?_
      rw [hx]
      simp only [DataW.weights, Tryd.underlying52]
      exact DataW.weights_mem_each (j := 6) (t := 50) (d := y6.1) rfl rfl n hn
end Go.Proofs.YtdjdkhbagoideaaDoor
