/- Rails: slices.Reverse, walked. -/
import Derived.Test.YtbbjnhajmckjoaaMove
namespace Go.Proofs.Ytbbjnhajmckjoaa
open Go.RowKit Go.BigFrame

/-- the cells of row k, to be written -/
theorem Own.row2 {w : World} {base : Nat} {e : TypeId} {rs : List (List Value)} {A : Option Addr} {n c : Nat} (h : Own w base e 2 rs (.slice A n c)) (hn : rs.length = n) {k : Nat} (hk : k < n) :
    ∃ g u0 u1, A = some ⟨g, 0, none⟩ ∧ base ≤ g ∧ g < w.heap.size ∧ w.cell? ⟨g, k * 2, none⟩ = some u0 ∧ w.cell? ⟨g, k * 2 + 1, none⟩ = some u1 ∧ w.frozen? ⟨g, k * 2, none⟩ = false ∧ w.frozen? ⟨g, k * 2 + 1, none⟩ = false ∧ rs[k]? = some [u0, u1] ∧
      (∀ x y, Own ((w.setCell ⟨g, k * 2, none⟩ x).setCell ⟨g, k * 2 + 1, none⟩ y) base e 2 (rs.set k [x, y]) (.slice A n c)) ∧ (∀ x, Own (w.setCell ⟨g, k * 2 + 1, none⟩ x) base e 2 (rs.set k [u0, x]) (.slice A n c)) := by
  subst hn
  obtain ⟨g, cap, hv, hg1, hg2, hg3⟩ := h.form (by omega)
  simp only [Value.slice.injEq, true_and] at hv
  obtain ⟨rfl, rfl⟩ := hv
  have hl := h.2 _ (List.getElem_mem hk)
  have hr := List.getElem?_eq_getElem hk
  match hm : rs[k], hl with
  | [u0, u1], _ =>
    have c0 := h.cell hk (f := 0) (u := u0) (by rw [hm]; rfl)
    have c1 := h.cell hk (f := 1) (u := u1) (by rw [hm]; rfl)
    refine ⟨g, u0, u1, rfl, hg1, hg2, c0.1, c1.1, c0.2, c1.2, by rw [hr, hm], fun x y => ?_, fun x => ?_⟩
    · have h1 := h.set hk (f := 0) (by decide) x
      rw [hm] at h1
      have hk' : k < (rs.set k ([u0, u1].set 0 x)).length := by rw [List.length_set]; exact hk
      have hl' : (rs.set k ([u0, u1].set 0 x)).length = rs.length := List.length_set
      have h2 : Own (w.setCell ⟨g, k * 2, none⟩ x) base e 2 (rs.set k ([u0, u1].set 0 x)) (.slice (some ⟨g, 0, none⟩) (rs.set k ([u0, u1].set 0 x)).length c) := by rw [hl']; exact h1
      have h3 := h2.set hk' (f := 1) (by decide) y
      rw [List.getElem_set_self, List.set_set, hl'] at h3
      exact h3
    · have := h.set hk (f := 1) (by decide) x
      rw [hm] at this
      exact this
/-- the first k and the last k are turned -/
def Turned (rs xs : List Pt) (k : Nat) : Prop := rs.length = xs.length ∧ ∀ i, i < xs.length → rs[i]? = if i < k ∨ xs.length - k ≤ i then xs[xs.length - 1 - i]? else xs[i]?
theorem turned_step {rs xs : List Pt} {k m : Nat} {p q : Pt} (h : Turned rs xs k) (hp : rs[k]? = some p) (hq : rs[m]? = some q) (hm : xs.length - 1 - k = m) (hkm : k < m) : Turned ((rs.set k q).set m p) xs (k + 1) := by
  have hl := h.1
  have e1 : some p = xs[k]? := by rw [← hp, h.2 k (by omega), if_neg (by omega)]
  have e2 : some q = xs[m]? := by rw [← hq, h.2 m (by omega), if_neg (by omega)]
  refine ⟨by rw [List.length_set, List.length_set]; exact hl, fun i hi => ?_⟩
  by_cases im : i = m
  · subst im
    rw [List.getElem?_set_self (by rw [List.length_set]; omega), if_pos (by omega), e1]
    congr 1
    omega
  · rw [List.getElem?_set_ne (fun e => im e.symm)]
    by_cases ik : i = k
    · subst ik
      rw [List.getElem?_set_self (by omega), if_pos (by omega), e2, hm]
    · rw [List.getElem?_set_ne (fun e => ik e.symm), h.2 i hi]
      by_cases hc : i < k ∨ xs.length - k ≤ i
      · rw [if_pos hc, if_pos (by omega)]
      · rw [if_neg hc, if_neg (by omega)]

set_option maxHeartbeats 4000000 in
set_option maxRecDepth 100000 in
theorem reverse_any (xs : List Pt) (A : Option Addr) (n c base : Nat) (w : World) (h : Own w base 39 2 (xs.map prow) (.slice A n c)) (hn : xs.length = n) (hl : n ≤ 1024) :
    Calls Try.prog 48 #[.slice A n c] w fun e w' => e = .returned (.tuple #[]) ∧ Own w' base 39 2 (xs.reverse.map prow) (.slice A n c) ∧ (∀ b, (Value.slice A n c).ownBlock ≠ some b → w'.heap[b]? = w.heap[b]?) ∧ w'.heap.size = w.heap.size ∧ Below base w w' := by
  go_enter Try.func48, Try.ntmps48
  go_wp2
  go_loopw [2, 3] (fun a b wr => ∃ (k : Nat) (rs : List Pt), 2 * k ≤ n + 1 ∧ a = .int .i64 k ∧ b = .int .i64 ((n : Int) - 1 - k) ∧ Turned rs xs k ∧ Own wr base 39 2 (rs.map prow) (.slice A n c) ∧ (∀ b, (Value.slice A n c).ownBlock ≠ some b → wr.heap[b]? = w.heap[b]?) ∧ wr.heap.size = w.heap.size ∧ Below base w wr) (fun a _ _ => n - (intOf a).toNat)
  case atStart => exact ⟨0, xs, by omega, rfl, by go_num, ⟨rfl, fun i hi => by rw [if_neg (by omega)]⟩, h, fun _ _ => rfl, rfl, Below.refl _ _⟩
  case round =>
    clear h
    obtain ⟨k, rs, hk, rfl, rfl, hT, hO, hB, hS, hBel⟩ := hrel
    by_cases hkl : (k : Int) < (n : Int) - 1 - k
    case neg =>
      have hR : Hid (rs = xs.reverse) := Lib.hid (by
        apply List.ext_getElem?
        intro i
        by_cases hi : i < xs.length
        · rw [hT.2 i hi, List.getElem?_reverse hi]
          by_cases hc : i < k ∨ xs.length - k ≤ i
          · rw [if_pos hc]
          · rw [if_neg hc]
            congr 1
            omega
        · rw [List.getElem?_eq_none (by rw [hT.1]; omega), List.getElem?_eq_none (by rw [List.length_reverse]; omega)])
      go_wp2
      go_end0
      exact ⟨rfl, by rw [← List.map_reverse, ← hR.out]; exact hO, hB, hS, hBel⟩
    obtain ⟨m, hm⟩ : ∃ m : Nat, n - 1 - k = m := ⟨_, rfl⟩
    have em : (n : Int) - 1 - k = (m : Int) := by omega
    rw [em] at hkl
    rw [em]
    replace em := Lib.hid em
    have hkn : k < n := by omega
    have hmn : m < n := by omega
    have hTl := Lib.hid hT
    have hrl : rs.length = n := by rw [hT.1, hn]
    obtain ⟨g, u0, u1, rfl, hg1, hg2, c0, c1, f0, f1, hr0, hs0, _⟩ := hO.row2 (by rw [List.length_map]; exact hrl) hkn
    obtain ⟨g', u2, u3, e, _, _, c2, c3, f2, f3, hr1, hs1, _⟩ := hO.row2 (by rw [List.length_map]; exact hrl) hmn
    cases e
    rw [List.getElem?_map, List.getElem?_eq_getElem (by omega)] at hr0 hr1
    have ek : rs[k]? = some rs[k] := List.getElem?_eq_getElem (by omega)
    have emm : rs[m]? = some rs[m] := List.getElem?_eq_getElem (by omega)
    generalize rs[k] = p at *
    generalize rs[m] = q at *
    obtain ⟨p1, p2⟩ := p
    obtain ⟨q1, q2⟩ := q
    simp only [Option.map_some, prow, Option.some.injEq, List.cons.injEq, and_true] at hr0 hr1
    obtain ⟨rfl, rfl⟩ := hr0
    obtain ⟨rfl, rfl⟩ := hr1
    have hO2 := Lib.hid (by
      have h1 := hs0 (.int .i64 q1) (.int .i64 q2)
      obtain ⟨g', _, _, e, _, _, _, _, _, _, _, h2, _⟩ := h1.row2 (by rw [List.length_set, List.length_map]; exact hrl) hmn
      cases e
      have h3 := h2 (.int .i64 p1) (.int .i64 p2)
      have e : ((rs.map prow).set k [.int .i64 q1, .int .i64 q2]).set m [.int .i64 p1, .int .i64 p2] = ((rs.set k (q1, q2)).set m (p1, p2)).map prow := by rw [List.map_set, List.map_set]; rfl
      rw [e] at h3
      exact h3)
    have hT2 := Lib.hid (turned_step hT ek emm (by rw [hn]; exact hm) (by omega))
    clear hs0 hs1 hO
    replace hrl := Lib.hid hrl
    replace ek := Lib.hid ek
    replace emm := Lib.hid emm
    replace hm := Lib.hid hm
    replace hn := Lib.hid hn
    clear hT
    go_wp2
    go_region
    go_wp2
    go_roundw
    case rel =>
      refine ⟨k + 1, _, by have := em.out; omega, by go_num, ?_, hT2.out, hO2.out.drawn (Drawn.refl _).drew, fun b hb => ?_, ?_, (Below.setCell (Below.setCell (Below.setCell (Below.setCell hBel hg1 _) hg1 _) hg1 _) hg1 _).drew⟩
      · have := em.out
        go_num
      · have hbg : b ≠ g := fun e => hb (by rw [e]; rfl)
        show ((((wr.setCell _ _).setCell _ _).setCell _ _).setCell _ _).heap[b]? = _
        rw [Below.heap_setCell _ _ _ b hbg, Below.heap_setCell _ _ _ b hbg, Below.heap_setCell _ _ _ b hbg, Below.heap_setCell _ _ _ b hbg]
        exact hB b hb
      · show ((((wr.setCell _ _).setCell _ _).setCell _ _).setCell _ _).heap.size = _
        rw [size_set, size_set, size_set, size_set]
        exact hS
    case measure => simp [intOf]; omega
end Go.Proofs.Ytbbjnhajmckjoaa
