/- Sensor: SensorNames, walked. -/
import Derived.Test.YtgpapbpkcggolaaDoorZn0
import Derived.Test.YtgpapbpkcggolaaDoorMd0
import Derived.Test.YtgpapbpkcggolaaDoorMem5
import Derived.Test.YtgpapbpkcggolaaDoorRead
namespace Go.Proofs.YtgpapbpkcggolaaDoor
open Go.RowKit Go.BigFrame

theorem Has.below {w w' : World} (h : Has w) (d : Below w.heap.size w w') : Has w' := by
  obtain ⟨t, fr, h⟩ := h
  exact ⟨t, fr, (d.block 0 (heap_lt h)).trans h⟩
theorem own_i8 {w : World} {base n : Nat} {l : List Int} {v : Value} (h : Own w base 35 1 (l.map brow) v) (hn : l.length = n) : ∃ A c, v = .slice A n c ∧ I8s w A l := by
  obtain ⟨A, c, e, hs⟩ := h.sl
  exact ⟨A, c, by rw [e, List.length_map, hn], hs.mono fun _ _ => trivial⟩
theorem med_zeros : med (List.replicate 4096 0) = (0, 0) := by
  have h := srt_mem (l := List.replicate 4096 (0 : Int)) (k := (4096 - 1) / 2) (by rw [List.length_replicate]; decide)
  unfold med
  rw [List.length_replicate, if_neg (by decide), List.eq_of_mem_replicate h]
theorem med_many : med (List.replicate 4097 0) = (0, 1) := by
  unfold med
  rw [List.length_replicate, if_pos (Or.inr (by decide))]
theorem i8_lit {w : World} {g : Nat} {a b : Int} {t : TypeId} (h : w.heap[g]? = some (.cells #[.int .i8 a, .int .i8 b] t)) : I8s w (some ⟨g, 0, none⟩) [a, b] := by
  refine ⟨by show 2 ≤ _; decide, fun r hr => ?_, fun _ => ⟨g, 0, rfl, trivial, heap_lt h, fun i r hi f u hu => ?_⟩⟩
  · obtain ⟨q, _, rfl⟩ := List.mem_map.1 hr; rfl
  · obtain ⟨c0, c1⟩ := cell_two h
    match i, hi with
    | 0, hi => cases hi; match f, hu with
      | 0, hu => cases hu; exact c0
    | 1, hi => cases hi; match f, hu with
      | 0, hu => cases hu; exact c1
set_option maxHeartbeats 4000000 in
set_option maxRecDepth 100000 in
theorem snames_walk (w : World) (h : Has w) : Calls Tryd.prog 8 #[] w fun e w' => e = .returned (.bool true) ∧ Below w.heap.size w w' := by
  have m1 : Hid (milli 9223372036854775807 = (110000, false)) := Lib.hid (by decide)
  have m2 : Hid (milli (-9223372036854775808) = (-40000, false)) := Lib.hid (by decide)
  have M1 := micro_no (-1) w (by omega)
  have M2 := micro_no 16 w (by omega)
  have hH := Lib.hid fun (X : World) (q : Below w.heap.size w X) => h.below q
  clear h
  go_enter Tryd.func8, Tryd.ntmps8
  go_upto_region 3 with (first
    | (go_at_call 10; (with_reducible refine M1.mono ?_); rintro e w1 ⟨rfl, rfl⟩)
    | (go_at_call 10; (with_reducible refine M2.mono ?_); rintro e w1 ⟨rfl, rfl⟩))
  have Z := zone_any [5, 5] (some ⟨w.heap.size, 0, none⟩) 2 2 0 (w.alloc (.cells #[.int .i8 5, .int .i8 5] 35)) (i8_lit (heap_alloc_at _ _)) rfl
  rw [show zonep [5, 5] 0 = (0, 1) by decide] at Z
  have b1 : Below w.heap.size w (w.alloc (.cells #[.int .i8 5, .int .i8 5] 35)) := below_al (Below.refl _ _) _
  have D := med_any [] none 0 0 (w.alloc (.cells #[.int .i8 5, .int .i8 5] 35)) (Sl.nil _ _ _ _) rfl
  rw [show med [] = (0, 1) by decide] at D
  clear M1 M2
  go_upto_region 5 with (first
    | (go_at_call 24; (with_reducible refine Z.mono ?_); rintro e w2 ⟨rfl, rfl⟩)
    | (go_at_call 25; (with_reducible refine D.mono ?_); rintro e w3 ⟨rfl, hb3⟩))
  have hb3' : Below w.heap.size w w3 := b1.trans (hb3.mono (by rw [size_al]; omega))
  have hs3 := Lib.hid hb3'.size
  clear Z D b1 hb3
  go_upto_region 6 with (first
    | (refine wpList_made1 (bytes := 1) (z := .int .i8 0) Tryd.underlying47 (by kernel_rfl) rfl rfl _ _ rfl 4096 rfl rfl (by decide) (by decide) ?_; intro w4 ho4 hb4; have K4 : Calls Tryd.prog 25 #[.slice (some ⟨w3.heap.size, 0, none⟩) 4096 4096] w4 fun e w' => e = .returned (.tuple #[.int .i8 0, .int .i64 0]) ∧ Below w4.heap.size w4 w' := (by
        have h5 : Own w4 w3.heap.size 35 1 ((List.replicate 4096 (0 : Int)).map brow) (.slice (some ⟨w3.heap.size, 0, none⟩) 4096 4096) := by rw [List.map_replicate]; exact ho4
        obtain ⟨A, c, e, hI⟩ := own_i8 h5 List.length_replicate
        have K := med_any (List.replicate 4096 0) A c 4096 w4 hI List.length_replicate
        rw [med_zeros, ← e] at K
        exact K); clear ho4)
    | (go_at_call 25; (with_reducible refine K4.mono ?_); rintro e w5 ⟨rfl, hb5⟩))
  have hb5' : Below w.heap.size w w5 := hb3'.trans ((hb4.mono hs3.out).trans (hb5.mono (Nat.le_trans hs3.out hb4.size)))
  have hs5 := Lib.hid hb5'.size
  clear K4 hb4 hb5 hb3' hs3
  go_upto_region 7 with (first
    | (refine wpList_made1 (bytes := 1) (z := .int .i8 0) Tryd.underlying47 (by kernel_rfl) rfl rfl _ _ rfl 4097 rfl rfl (by decide) (by decide) ?_; intro w6 ho6 hb6; have K6 : Calls Tryd.prog 25 #[.slice (some ⟨w5.heap.size, 0, none⟩) 4097 4097] w6 fun e w' => e = .returned (.tuple #[.int .i8 0, .int .i64 1]) ∧ Below w6.heap.size w6 w' := (by
        have h5 : Own w6 w5.heap.size 35 1 ((List.replicate 4097 (0 : Int)).map brow) (.slice (some ⟨w5.heap.size, 0, none⟩) 4097 4097) := by rw [List.map_replicate]; exact ho6
        obtain ⟨A, c, e, hI⟩ := own_i8 h5 List.length_replicate
        have K := med_any (List.replicate 4097 0) A c 4097 w6 hI List.length_replicate
        rw [med_many, ← e] at K
        exact K); clear ho6)
    | (go_at_call 25; (with_reducible refine K6.mono ?_); rintro e w7 ⟨rfl, hb7⟩))
  have hb7' : Below w.heap.size w w7 := hb5'.trans ((hb6.mono hs5.out).trans (hb7.mono (Nat.le_trans hs5.out hb6.size)))
  have G1 := degrees_any 9223372036854775807 w7 (hH.out w7 hb7')
  rw [m1.out, show ((110000 : Int) + 500) / 1000 = 110 by decide] at G1
  have G2 := fun (X : World) (q : Drawn w7 X) => degrees_any (-9223372036854775808) X (hH.out X (hb7'.trans (q.below _)))
  simp only [m2.out, show ((-40000 : Int) + 500) / 1000 = -40 by decide] at G2
  replace hb7' := Lib.hid hb7'
  clear K6 hb6 hb7 hb5' hs5
  go_wp2_with (first
    | (go_at_call 16; (with_reducible refine G1.mono ?_); rintro e w8 ⟨rfl, hd8⟩)
    | (go_at_call 16; (with_reducible refine (G2 _ hd8).mono ?_); rintro e w9 ⟨rfl, hd9⟩))
  go_ret
  exact ⟨rfl, (hb7'.out.trans (hd8.below _)).trans (hd9.below _)⟩
end Go.Proofs.YtgpapbpkcggolaaDoor
