/- Idle: the arguments, opened: a list of steps; a statement of a law that starts no goroutine though its program does. -/
import Derived.Test.YtgnhddnhcfmipaaWords0
import Derived.Deep.SlicePairs
import Derived.SizedLaws
import Derived.OpenShut
import Derived.ChangeSlices
import Derived.Conc.Holds
import Derived.Leaving
import Derived.Handed
namespace Go.Proofs.Ytgnhddnhcfmipaa
open Go.ChangeShapes Go.WideShapes Go.ChangeAt Go.RowKit Go.Deep

theorem own : ownKnob Try.prog.godebug = none := by kernel_rfl
theorem leaving_of_handed {a : Assume} {C : Checked} {os : Os} {f : FuncId} {r : Reach} {Pre : World → Array Value → Prop} {Post : World → Array Value → Value → World → Prop} (h : ReturnsInHanded a C os f r Pre Post) : ReturnsInLeavingWide a C os f r Pre Post := fun enter => by
  obtain ⟨e1, e2, e3, e4, e5⟩ := h enter
  refine ⟨e1, e2, e3, e4, fun w tape i hf => ?_⟩
  obtain ⟨n, v, w', hr, hc, hro, hp, ⟨j, last, h1, h2, h3⟩, ha⟩ := e5 w tape i hf
  exact ⟨n, v, w', hr, hc, hro, hp, ⟨j, last, h1, h2, h3.2.1, onlyLeaving_of_quiet h3.1, h3.2.2⟩, ha⟩
theorem cells31 : Try.prog.cellsOf 31 = 3 := by kernel_rfl
set_option maxRecDepth 100000 in
theorem step_trod {H : Type} {enc : TypeId × Value → H} {W : World} {n : Nat} {cs : List Value} {x : DataW H × List MemPlace} (h : DataW.trod enc Try.prog W 0 (fun _ => true) true n 31 cs = some x) :
    ∃ s : St, cs = srow s ∧ 0 ≤ s.2.1 ∧ s.2.1 ≤ 255 := by
  obtain ⟨xs, m, rfl, _, hlen, hxl, hf⟩ := DataW.trod_struct Try.underlying31 h
  rw [cells31] at hlen
  match cs, hlen with
  | [v0, v1, v2], _ =>
    have q0 := hf 0 _ rfl
    have q1 := hf 1 _ rfl
    have q2 := hf 2 _ rfl
    match xs, hxl with
    | [y0, y1, y2], _ =>
      have c3 : Try.prog.cellsOf 3 = 1 := by kernel_rfl
      have c5 : Try.prog.cellsOf 5 = 1 := by kernel_rfl
      have r0 : DataW.trod enc Try.prog W 0 (fun _ => true) true m 3 (([v0, v1, v2].drop 0).take (Try.prog.cellsOf 3)) = some y0 := q0
      have r1 : DataW.trod enc Try.prog W 0 (fun _ => true) true m 5 (([v0, v1, v2].drop 1).take (Try.prog.cellsOf 5)) = some y1 := q1
      have r2 : DataW.trod enc Try.prog W 0 (fun _ => true) true m 3 (([v0, v1, v2].drop 2).take (Try.prog.cellsOf 3)) = some y2 := q2
      rw [c3] at r0 r2
      rw [c5] at r1
      simp only [List.drop_zero, List.drop_succ_cons, List.take_succ_cons, List.take_zero] at r0 r1 r2
      obtain ⟨a, h0, _, _⟩ := DataW.trod_int Try.underlying3 r0
      obtain ⟨b, h1, _, w1⟩ := DataW.trod_int Try.underlying5 r1
      obtain ⟨c, h2, _, _⟩ := DataW.trod_int Try.underlying3 r2
      simp only [List.cons.injEq, and_true] at h0 h1 h2
      refine ⟨(a, b, c), by rw [h0, h1, h2]; rfl, ?_⟩
      exact bounds_u8 w1
theorem srow_len (l : List St) : ∀ r ∈ l.map srow, r.length = 3 := fun r hr => by
  obtain ⟨q, _, rfl⟩ := List.mem_map.1 hr
  rfl
set_option maxRecDepth 100000 in
theorem sts_trod {H : Type} {enc : TypeId × Value → H} {W : World} {n : Nat} {cs : List Value} {x : DataW H × List MemPlace} (h : DataW.trod enc Try.prog W 0 (fun _ => true) true n 22 cs = some x) :
    ∃ (A : Option Addr) (l : List St) (c : Nat), cs = [.slice A l.length c] ∧ Sts W A l ∧ l.length ≤ c ∧ ∀ s ∈ l, 0 ≤ s.2.1 ∧ s.2.1 ≤ 255 := by
  rcases open_slice Try.underlying22 h with ⟨hc, _⟩ | ⟨a, len, cap, m, k, D, Pl, hc, _, hl, hm, hmm, _, hall⟩
  · exact ⟨none, [], 0, hc, Sl.nil _ _ _ _, by simp, by simp⟩
  · simp only [if_true] at hmm
    subst hmm
    have hs : ∀ i, i < m → ∃ s : St, W.cells? 0 (a.add (i * 3)) 3 = some (srow s) ∧ 0 ≤ s.2.1 ∧ s.2.1 ≤ 255 := fun i hi => by
      obtain ⟨cs', h1, h2⟩ := hall i hi
      rw [cells31] at h1
      obtain ⟨s, rfl, hb⟩ := step_trod h2
      exact ⟨s, h1, hb⟩
    obtain ⟨F, hF⟩ := choose_lt hs
    have hls : ((List.range len).map F).length = len := by simp
    refine ⟨some a, (List.range len).map F, m, by rw [hls]; exact hc, ⟨?_, srow_len _, fun hn => ?_⟩, by rw [hls]; exact hl, fun s hs' => ?_⟩
    · unfold maxLen at hm
      simp; omega
    · have hlen : 0 < len := by simpa using hn
      obtain ⟨_, _, c0⟩ := World.cells?_some (hF 0 (by omega)).1
      have c0 := c0 0 (by decide)
      obtain ⟨b, o, spot⟩ := a
      have hspot : spot = none := by simpa [Addr.add, srow] using World.cell?_spot c0
      subst hspot
      refine ⟨b, o, rfl, trivial, ?_, fun i r hr f u hu => ?_⟩
      · rw [addr_add, addr_add] at c0
        rcases Nat.lt_or_ge b W.heap.size with q | q
        · exact q
        · simp [World.cell?, Array.getElem?_eq_none q, srow] at c0
      · have hi : i < len := by
          have := (List.getElem?_eq_some_iff.1 hr).1
          simpa using this
        obtain ⟨_, _, c1⟩ := World.cells?_some (hF i (by omega)).1
        have hri : r = srow (F i) := by
          rw [List.getElem?_map, List.getElem?_map, List.getElem?_range hi] at hr
          exact (Option.some.inj hr).symm
        subst hri
        have hf : f < 3 := by
          rcases Nat.lt_or_ge f 3 with q | q
          · exact q
          · rw [List.getElem?_eq_none (by simpa [srow] using q)] at hu; cases hu
        have := c1 f hf
        rw [addr_add, addr_add] at this
        rw [this, hu]
    · obtain ⟨i, hi, rfl⟩ := List.mem_map.1 hs'
      have hi := List.mem_range.1 hi
      exact (hF i (by omega)).2
end Go.Proofs.Ytgnhddnhcfmipaa
