/- PointsNames, walked. -/
import Derived.Test.YthmdhmknadhjeaaNext
namespace Go.Proofs.Ythmdhmknadhjeaa
open Go.RowKit Go.BigFrame

def nm (n : Nat) : List Pt := (List.range n).map fun i : Nat => ((i : Int) + 1, 5)
theorem nm_len (n : Nat) : (nm n).length = n := by simp [nm]
theorem nm_succ (n : Nat) : (nm n).map prow ++ [[.int .i64 ((n : Int) + 1), .int .i64 5]] = (nm (n + 1)).map prow := by
  simp [nm, List.range_succ, prow]
theorem nm_take : ((nm 65).map prow).take 64 = (nm 64).map prow := by
  rw [← nm_succ 64]
  exact List.take_left' (by rw [List.length_map, nm_len])
theorem chk64 : check (nm 64) = (0, 0) := by decide +kernel
theorem chk65 : check (nm 65) = (64, 280) := by decide +kernel
theorem chk0 : check [] = (0, 280) := by decide

set_option maxHeartbeats 1000000 in
set_option maxRecDepth 100000 in
theorem names_walk (w : World) : Calls Try.prog 9 #[] w fun e w' => e = .returned (.bool true) ∧ Below w.heap.size w w' := by
  go_enter Try.func9, Try.ntmps9
  go_wp2
  go_loopw [1, 2] (fun v i wr => ∃ k : Nat, k ≤ 65 ∧ i = .int .i64 k ∧ Own wr w.heap.size 36 2 ((nm k).map prow) v ∧ Below w.heap.size w wr) (fun _ i _ => 65 - (intOf i).toNat)
  case atStart => exact ⟨0, by omega, rfl, Own.nil _ _ _ _, Below.refl _ _⟩
  case round =>
    obtain ⟨k, hk, rfl, hown, hg⟩ := hrel
    by_cases hkl : k = 65
    · subst hkl
      obtain ⟨A, c, rfl, hp⟩ := hown.pts
      rw [nm_len]
      obtain ⟨g, cap, hv, hg1, hg2, hg3⟩ := hown.form (by rw [List.length_map, nm_len]; omega)
      simp only [Value.slice.injEq] at hv
      obtain ⟨rfl, _, rfl⟩ := hv
      rw [List.length_map, nm_len] at hg3
      have C1 := fun w (h : Pts w (some ⟨g, 0, none⟩) (nm 64)) => check_any (nm 64) _ c w h
      have C2 := fun w (h : Pts w (some ⟨g, 0, none⟩) (nm 65)) => check_any (nm 65) _ c w h
      have C3 := fun w => check_any [] none 0 w (Sl.nil _ _ _ _)
      rw [chk64, nm_len] at C1
      rw [chk65, nm_len] at C2
      rw [chk0, List.length_nil] at C3
      have hq : Hid (Pts wr (some ⟨g, 0, none⟩) (nm 64)) := Lib.hid (by have := Sl.take hp 64; rw [nm_take] at this; exact this)
      replace hp := Lib.hid hp
      clear hown
      clear hk
      have hc1 : (64 : Int) ≤ (c : Int) := by omega
      clear hg3
      go_wp2_with (first
        | (go_at_call 29; (with_reducible refine (C1 _ hq.out).mono ?_); rintro e w1 ⟨rfl, hb1⟩)
        | (go_at_call 29; (with_reducible refine (C2 _ (hp.out.below hb1)).mono ?_); rintro e w2 ⟨rfl, hb2⟩)
        | (go_at_call 29; (with_reducible refine (C3 _).mono ?_); rintro e w3 ⟨rfl, hb3⟩; have hg4 := ((hg.trans (hb1.mono hg.size)).trans (hb2.mono (hg.trans (hb1.mono hg.size)).size)); have hg5 := hg4.trans (hb3.mono hg4.size); clear hb1 hb2 hb3 hg4 hg hg1 hg2 hp hq)
        | (go_at_call 31; (with_reducible refine (small3 _).mono ?_); rintro e w4 ⟨A3, rfl, hs, hb⟩; replace hg5 := hg5.trans (hb.mono hg5.size))
        | (go_at_call 32; (with_reducible refine (nan_any _).mono ?_); rintro e w5 ⟨rfl, rfl⟩)
        | (go_at_call 33; (with_reducible refine (inf_up _).mono ?_); rintro e w5 ⟨rfl, rfl⟩)
        | (go_at_call 33; (with_reducible refine (inf_down _).mono ?_); rintro e w5 ⟨rfl, rfl⟩)
        | (go_at_call 30; (with_reducible refine (next_nan _ _ _ hs).mono ?_); rintro e w5 ⟨rfl, hb⟩; replace hg5 := hg5.trans (hb.mono hg5.size))
        | (go_at_call 30; (with_reducible refine (next_up _ _ _ hs).mono ?_); rintro e w5 ⟨rfl, hb⟩; replace hg5 := hg5.trans (hb.mono hg5.size))
        | (go_at_call 30; (with_reducible refine (next_down _ _ hs).mono ?_); rintro e w5 ⟨rfl, hb⟩; replace hg5 := hg5.trans (hb.mono hg5.size))
        | (go_at_call 22; (with_reducible refine (works_any _).mono ?_); rintro e w5 ⟨rfl, hb⟩; replace hg5 := hg5.trans (hb.mono hg5.size)))
      go_ret
      exact ⟨rfl, hg5⟩
    have hkl : k < 65 := by omega
    have ht := Lib.hid (nm_succ k)
    have hB := hg.size
    have hlk : Hid (((nm k).map prow).length = k) := Lib.hid (by rw [List.length_map, nm_len])
    go_wp2_with (at_builtin; refine wpList_push elt25 rfl _ _ rfl rfl (hown.alloc _) [.int .i64 ((k : Int) + 1), .int .i64 5] wr.heap.size 36 rfl (heap_alloc_at _ _) rfl (by simp [Value.oneCell']) (by rw [hlk.out]; omega) (by rw [size_al]; omega) ?_; intro v' w1 ho' hb' hs' _ _)
    go_roundw
    case rel =>
      refine ⟨k + 1, by omega, by go_num, ?_, (below_al hg _).trans hb'⟩
      rw [← ht.out]
      exact ho'
    case measure => simp [intOf]; omega
end Go.Proofs.Ythmdhmknadhjeaa
