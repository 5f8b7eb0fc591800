/- Points: asks, PointsAsks, walked. -/
import Derived.Test.YthmdhmknadhjeaaBtw3
import Derived.Test.YthmdhmknadhjeaaChanges
namespace Go.Proofs.Ythmdhmknadhjeaa
open Go.RowKit Go.BigFrame

set_option maxHeartbeats 8000000 in
set_option maxRecDepth 100000 in
theorem asks_any (l : List Pt) (A D : Option Addr) (c d : Nat) (r v : Int) (w : World) (h : Pts w A l) (k : Pts w D l) :
    Calls Try.prog 21 #[.slice A l.length c, .slice D l.length d, .int .i64 r, .int .i64 v] w fun e w' => e = .returned (.bool true) ∧ Below w.heap.size w w' := by
  have C1 := fun w h => check_any l A c w h
  have C2 := fun w h => rcheck_any l D d w h
  have C3 := fun w h => for_any l A c r w h
  have C4 := fun w h => rfor_any l D d r w h
  have C5 := fun w h => under_any l A c v w h
  have C6 := fun w h => runder_any l D d v w h
  have C7 := fun w h => safe_any l A c r v w h
  have C8 := fun w h => rsafe_any l D d r v w h
  have C9 := fun w h => between_any l A c r w h (Or.inl div_all)
  have C0 := fun w h => rbetween_any l D d r w h
  have hk := Lib.hid (fun w' (hb : Below w.heap.size w w') => And.intro (h.below hb) (k.below hb))
  generalize check l = X1 at *
  generalize forp l r = X2 at *
  generalize und l v = X3 at *
  generalize safep l r v = X4 at *
  generalize btw l r = X5 at *
  clear h k
  have g0 := Below.refl w.heap.size w
  go_enter Try.func21, Try.ntmps21
  go_wp2_with (first
    | (go_at_call 29; (with_reducible refine (C1 _ (hk.out _ g0).1).mono ?_); rintro e w1 ⟨rfl, hb⟩; have g1 := g0.trans (hb.mono g0.size); clear hb)
    | (go_at_call 46; (with_reducible refine (C2 _ (hk.out _ g1).2).mono ?_); rintro e w2 ⟨rfl, hb⟩; have g2 := g1.trans (hb.mono g1.size); clear hb)
    | (go_at_call 24; (with_reducible refine (C3 _ (hk.out _ g2).1).mono ?_); rintro e w3 ⟨rfl, hb⟩; have g3 := g2.trans (hb.mono g2.size); clear hb)
    | (go_at_call 47; (with_reducible refine (C4 _ (hk.out _ g3).2).mono ?_); rintro e w4 ⟨rfl, hb⟩; have g4 := g3.trans (hb.mono g3.size); clear hb)
    | (go_at_call 25; (with_reducible refine (C5 _ (hk.out _ g4).1).mono ?_); rintro e w5 ⟨rfl, hb⟩; have g5 := g4.trans (hb.mono g4.size); clear hb)
    | (go_at_call 48; (with_reducible refine (C6 _ (hk.out _ g5).2).mono ?_); rintro e w6 ⟨rfl, hb⟩; have g6 := g5.trans (hb.mono g5.size); clear hb)
    | (go_at_call 28; (with_reducible refine (C7 _ (hk.out _ g6).1).mono ?_); rintro e w7 ⟨rfl, hb⟩; have g7 := g6.trans (hb.mono g6.size); clear hb)
    | (go_at_call 49; (with_reducible refine (C8 _ (hk.out _ g7).2).mono ?_); rintro e w8 ⟨rfl, hb⟩; have g8 := g7.trans (hb.mono g7.size); clear hb)
    | (go_at_call 26; (with_reducible refine (C9 _ (hk.out _ g8).1).mono ?_); rintro e w9 ⟨rfl, hb⟩; have g9 := g8.trans (hb.mono g8.size); clear hb)
    | (go_at_call 50; (with_reducible refine (C0 _ (hk.out _ g9).2).mono ?_); rintro e w10 ⟨rfl, hb⟩; have g10 := g9.trans (hb.mono g9.size); clear hb))
  go_ret
  exact ⟨rfl, g10⟩

set_option maxHeartbeats 8000000 in
set_option maxRecDepth 100000 in
theorem pasks_walk (l : List Pt) (A : Option Addr) (c : Nat) (r v : Int) (w : World) (h : Pts w A l) (hr : l.length * 16 ≤ 140737488351232) :
    Calls Try.prog 5 #[.slice A l.length c, .int .i64 r, .int .i64 v] w fun e w' => e = .returned (.bool true) ∧ Below w.heap.size w w' := by
  have hlen := h.le
  go_enter Try.func5, Try.ntmps5
  go_wp2_with fail
  refine (given_any l A c _ h hr).mono ?_
  rintro e w1 ⟨vin, rfl, hin, hb1⟩
  obtain ⟨Ai, ci, rfl, hpi⟩ := hin.pts
  have C1 := asks_any l Ai A ci c r v w1 hpi (h.below hb1)
  have C2 := Lib.hid (fun w2 (hb2 : Below w1.heap.size w1 w2) => samePoints_any l l Ai A ci c w2 (hpi.below hb2) ((h.below hb1).below hb2))
  go_wp2_with (first
    | (go_at_call 21; refine C1.mono ?_; rintro e w2 ⟨rfl, hb2⟩; have S2 := C2.out w2 hb2; rw [show decide True = true from rfl] at S2)
    | (go_at_call 16; refine S2.mono ?_; rintro e w6 ⟨rfl, hd6⟩))
  have hin6 : Own w6 w.heap.size 36 2 (l.map prow) (.slice Ai l.length ci) := (hin.below hb2).drawn hd6
  have hg6 : Below w.heap.size w w6 := hd6.after (hb1.trans (hb2.mono hb1.size))
  clear h hpi S2 C1 C2 hin hb1 hb2 hd6
  go_loopw [8] (fun v wr => ∃ (k : Nat) (ys : List Pt), k ≤ l.length ∧ v = .int .i64 k ∧ ys.length = l.length ∧ Own wr w.heap.size 36 2 (ys.map prow) (.slice Ai l.length ci) ∧ Below w.heap.size w wr) (fun v _ => l.length - (intOf v).toNat)
  case atStart => exact ⟨0, l, by omega, rfl, rfl, hin6, hg6⟩
  case round =>
    clear hin6 hg6
    obtain ⟨k, ys, hk, rfl, hys, hO, hg⟩ := hrel
    by_cases hkl : k = l.length
    · subst hkl
      obtain ⟨A1, c1, e1, hp⟩ := hO.pts
      simp only [Value.slice.injEq] at e1
      obtain ⟨rfl, e2, rfl⟩ := e1
      clear e2
      have C2 := told_any ys Ai ci wr hp (by rw [hys]; exact hr)
      rw [hys] at C2
      go_wp2_with (first
        | (go_at_call 17; refine C2.mono ?_; rintro e v2 ⟨vt, rfl, ht, hb2⟩; obtain ⟨Bt, bt, rfl, hpt⟩ := ht.pts)
        | (go_at_call 21; have C3 := asks_any ys Ai Bt ci bt r v v2 (hp.below hb2) hpt; rw [hys] at C3; (try rw [hys]); refine C3.mono ?_; rintro e v3 ⟨rfl, hb3⟩))
      have hs1 := hg.size
      have hs2 := hb2.size
      have hfin : Below w.heap.size w v3 := (hg.trans (hb2.mono hs1)).trans (hb3.mono (by omega))
      go_ret
      exact ⟨rfl, hfin⟩
    have hkl : k < l.length := by omega
    obtain ⟨g, u0, u1, rfl, hg1, hg2, c0, c1, f0, f1, hrow, hset0, _⟩ := hO.row2 (by rw [List.length_map]; exact hys) hkl
    rw [List.getElem?_map, List.getElem?_eq_getElem (by omega)] at hrow
    obtain ⟨a, b, hq⟩ : ∃ a b, ys[k] = (a, b) := ⟨_, _, rfl⟩
    rw [hq] at hrow
    simp only [Option.map_some, prow, Option.some.injEq, List.cons.injEq, and_true] at hrow
    obtain ⟨rfl, rfl⟩ := hrow
    clear hq
    go_wp2
    go_roundw
    case rel => exact ⟨k + 1, ys.set k (_, _), by omega, by go_num, by rw [List.length_set]; exact hys, by rw [List.map_set]; exact hset0 _ _, (hg.setCell hg1 _).setCell hg1 _⟩
    case measure => simp [intOf]; omega
end Go.Proofs.Ythmdhmknadhjeaa
