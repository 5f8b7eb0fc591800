/- Rails: lists of floats, opened. -/
import Derived.Test.YtbbjnhajmckjoaaOpen
import Derived.Test.YtbbjnhajmckjoaaRampLaw
namespace Go.Proofs.Ytbbjnhajmckjoaa
open Go.ChangeShapes Go.WideShapes Go.ChangeAt Go.RowKit Go.Deep

theorem trod_float {H : Type} {enc : TypeId × Value → H} {P : Program} {w : World} {base : Nat} {spare : Nat → Bool} {held : Bool} {fuel : Nat} {t : TypeId} {cs : List Value} {x : DataW H × List MemPlace} {k : FloatKind} (ht : P.underlying t = some (.float k)) (h : DataW.trod enc P w base spare held fuel t cs = some x) : ∃ b, cs = [.float k b] ∧ x = (.lit (.float k b), []) := by
  cases fuel with
  | zero => simp [DataW.trod] at h
  | succ n =>
    unfold DataW.trod at h
    rw [ht] at h
    split at h <;> simp_all
/-- rows of equal length, opened -/
theorem rows_trod {α : Type} {H : Type} {enc : TypeId × Value → H} {W : World} {t e : TypeId} {m n : Nat} {cs : List Value} {x : DataW H × List MemPlace} (row : α → List Value) (Q : α → Prop) (ht : Try.prog.underlying t = some (.slice e)) (hce : Try.prog.cellsOf e = m) (hm0 : 0 < m) (hrow : ∀ s, (row s).length = m)
    (hel : ∀ n cs x, DataW.trod enc Try.prog W 0 (fun _ => true) true n e cs = some x → ∃ s, cs = row s ∧ Q s) (h : DataW.trod enc Try.prog W 0 (fun _ => true) true n t cs = some x) :
    ∃ (A : Option Addr) (l : List α) (c : Nat), cs = [.slice A l.length c] ∧ Sl (fun _ => True) W A m (l.map row) ∧ (A = none → c = 0) ∧ l.length ≤ c ∧ (∀ s ∈ l, Q s) ∧ ((∀ n ∈ x.1.weights Try.prog t, n ≤ reachBytes) → l.length * Try.prog.bytesOf e ≤ 140737488351232) := by
  rcases open_slice ht h with ⟨hc, _⟩ | ⟨a, len, cap, mm, k, D, Pl, hc, _, hl, hm, hmm, hx, hall⟩
  · exact ⟨none, [], 0, hc, Sl.nil _ _ _ _, fun _ => rfl, Nat.le_refl _, by simp, by simp⟩
  · simp only [if_true] at hmm
    subst hmm
    have hs : ∀ i, i < mm → ∃ s : α, W.cells? 0 (a.add (i * m)) m = some (row s) ∧ Q s := fun i hi => by
      obtain ⟨cs', h1, h2⟩ := hall i hi
      rw [hce] at h1
      obtain ⟨s, rfl, hb⟩ := hel _ _ _ h2
      exact ⟨s, h1, hb⟩
    rcases Nat.eq_zero_or_pos mm with h0 | h0
    · have hl0 : len = 0 := by omega
      subst hl0
      exact ⟨some a, [], mm, hc, Sl.nil _ _ _ _, (fun h => by cases h), Nat.zero_le _, by simp, by simp⟩
    have hin : Nonempty α := (hs 0 h0).elim fun s _ => ⟨s⟩
    obtain ⟨F, hF⟩ : ∃ F : Nat → α, ∀ i, i < mm → W.cells? 0 (a.add (i * m)) m = some (row (F i)) ∧ Q (F i) :=
      ⟨fun i => if hi : i < mm then (hs i hi).choose else Classical.choice hin, fun i hi => by simp only [dif_pos hi]; exact (hs i hi).choose_spec⟩
    have hls : ((List.range len).map F).length = len := by simp
    refine ⟨some a, (List.range len).map F, mm, by rw [hls]; exact hc, ⟨?_, fun r hr => ?_, fun hn => ?_⟩, (fun h => by cases h), by rw [hls]; exact hl, fun s hs' => ?_, fun hw => ?_⟩
    · unfold maxLen at hm
      simp; omega
    · obtain ⟨q, _, rfl⟩ := List.mem_map.1 hr
      exact hrow q
    · have hlen : 0 < len := by simpa using hn
      obtain ⟨_, _, c0⟩ := World.cells?_some (hF 0 (by omega)).1
      have c0 := c0 0 hm0
      obtain ⟨b, o, spot⟩ := a
      have hspot : spot = none := by
        have : 0 < (row (F 0)).length := by rw [hrow]; exact hm0
        rw [List.getElem?_eq_getElem this] at c0
        simpa [Addr.add] using World.cell?_spot c0
      subst hspot
      refine ⟨b, o, rfl, trivial, ?_, fun i r hr f u hu => ?_⟩
      · rw [addr_add, addr_add] at c0
        rcases Nat.lt_or_ge b W.heap.size with q | q
        · exact q
        · have : 0 < (row (F 0)).length := by rw [hrow]; exact hm0
          rw [List.getElem?_eq_getElem this] at c0
          simp [World.cell?, Array.getElem?_eq_none q] at c0
      · have hi : i < len := by
          have := (List.getElem?_eq_some_iff.1 hr).1
          simpa using this
        obtain ⟨_, _, c1⟩ := World.cells?_some (hF i (by omega)).1
        have hri : r = row (F i) := by
          rw [List.getElem?_map, List.getElem?_map, List.getElem?_range hi] at hr
          exact (Option.some.inj hr).symm
        subst hri
        have hf : f < m := by
          rcases Nat.lt_or_ge f m with q | q
          · exact q
          · rw [List.getElem?_eq_none (by rw [hrow]; exact q)] at hu; cases hu
        have := c1 f hf
        rw [addr_add, addr_add] at this
        rw [this, hu]
    · obtain ⟨i, hi, rfl⟩ := List.mem_map.1 hs'
      have hi := List.mem_range.1 hi
      exact (hF i (by omega)).2
    · rw [hx] at hw
      have := (weights_slice ht hw).1
      simpa using this
theorem cells86 : Try.prog.cellsOf 86 = 1 := by kernel_rfl
theorem bytes86 : Try.prog.bytesOf 86 = 8 := by kernel_rfl
theorem floats_trod {H : Type} {enc : TypeId × Value → H} {W : World} {n : Nat} {cs : List Value} {x : DataW H × List MemPlace} (h : DataW.trod enc Try.prog W 0 (fun _ => true) true n 87 cs = some x) :
    ∃ (A : Option Addr) (l : List Nat) (c : Nat), cs = [.slice A l.length c] ∧ Fls W A l ∧ (A = none → c = 0) ∧ ((∀ n ∈ x.1.weights Try.prog 87, n ≤ reachBytes) → l.length * 8 ≤ 140737488351232) := by
  obtain ⟨A, l, c, h1, h2, h3, _, _, h4⟩ := rows_trod flrow (fun _ => True) Try.underlying87 cells86 (by decide) (fun _ => rfl) (fun n cs x h => by
    obtain ⟨b, e, _⟩ := trod_float Try.underlying86 h
    exact ⟨b, e, trivial⟩) h
  rw [bytes86] at h4
  exact ⟨A, l, c, h1, h2, h3, h4⟩
end Go.Proofs.Ytbbjnhajmckjoaa
