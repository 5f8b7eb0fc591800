/- Net: the reference's Z and Sweep, walked. -/
import Derived.Test.YtfmjmjppkdaanaaSweep2
namespace Go.Proofs.Ytfmjmjppkdaanaa
open Go.RowKit Go.BigFrame flt Ieee

set_option maxHeartbeats 4000000 in
theorem rz_any (l : List Part) (hg : Good l) (A : Option Addr) (c y : Nat) (w : World) (h : Pn w A l) :
    Calls Try.prog 47 #[.slice A l.length c, .float .f64 y] w fun e w' => ∃ r s, e = .returned (.agg #[.float .f64 r, .float .f64 s]) ∧ (cls r, cls s) = lastz (cls y) l ∧ Below w.heap.size w w' := by
  have hE := fun (W : World) (hW : Below w.heap.size w W) => reach_any l hg A c y W (h.below hW)
  have hg1 := hg.1
  have hg2 := hg.2.1
  have hg' := Lib.hid hg
  clear h hg
  have k2 : ((l.length : Int) - 1) = ((l.length - 1 : Nat) : Int) := by omega
  have hlenh : Hid (∀ rs : List (Nat × Nat), ∀ y, rs.map clsc = zsn (cls y) l l.length → rs.length = l.length) := Lib.hid (fun rs y e => by rw [← List.length_map (f := clsc), e, zsn_len])
  generalize hnl : l.length = m at *
  replace hnl := Lib.hid hnl
  have hgb : Hid (Below w.heap.size w (w.alloc (.cells #[.float .f64 0, .float .f64 0] 26))) := Lib.hid (below_al (Below.refl _ _) _)
  have hg0 : (w.alloc (.cells #[.float .f64 0, .float .f64 0] 26)).heap[w.heap.size]? = some (.cells #[.float .f64 0, .float .f64 0] 26) := heap_alloc_at _ _
  go_enter Try.func47, Try.ntmps47
  go_wp2_with fail
  refine (hE _ hgb.out).mono ?_
  rintro e w5 ⟨v5, r5, rfl, hz5, ho5, hb5⟩
  have hb6 : Below w.heap.size w w5 := hgb.out.trans (hb5.mono hgb.out.size)
  obtain ⟨A5, c5, rfl, hcs⟩ := Ps.of_own ho5
  have hl5 := hlenh.out _ _ hz5
  rw [hl5]
  obtain ⟨b5, o5, r, q, rfl, hb5lt, c0, c1, hc⟩ := hcs.2 (m - 1) (by rw [List.length_map, hl5]; omega)
  have hg5 := (hb5.block w.heap.size (heap_lt hg0)).trans hg0
  replace hc := Lib.hid hc
  replace hz5 := Lib.hid hz5
  replace hl5 := Lib.hid hl5
  replace hb6 := Lib.hid hb6
  clear hg0 hgb ho5 hb5 hcs
  go_wp2_with (refine wpList_store_row rfl 26 _ _ rfl w.heap.size _ rfl rfl 26 _ hg5 (by kernel_rfl) (by kernel_rfl) (by kernel_rfl) ?_)
  refine bodyPost_ret (results_cell_row rfl _ _ w.heap.size 26 #[.float .f64 r, .float .f64 q] (0, 0) _ rfl (setRow_heap _ _ _ _ _ _ hg5) Try.underlying26 rfl (by kernel_rfl)) rfl ?_
  refine ⟨r, q, rfl, ?_, below_setRow hb6.out (Nat.le_refl _) _⟩
  have e2 := lastz_get hg'.out (zs := List.map clsc r5) (by rw [hnl.out]; exact hz5.out)
  rw [hc.out, ← e2]
  congr 1
  rw [hnl.out]
set_option maxHeartbeats 4000000 in
theorem rsweep_any (l : List Part) (hg : Good l) (A : Option Addr) (c f s : Nat) (n : Nat) (w : World) (h : Pn w A l) (hn2 : n ≤ 4096) :
    Calls Try.prog 33 #[.slice A l.length c, .float .f64 f, .float .f64 s, .int .i64 n] w fun e w' => ∃ (v : Value) (rs : List (Nat × Nat)), e = .returned v ∧ rs.map clsc = swn (cls f) (cls s) l n ∧ Own w' w.heap.size 26 2 (rs.map prow) v ∧ Below w.heap.size w w' := by
  obtain ⟨FM, GM, hm, cm⟩ := veil (op := .mul) (Or.inr (Or.inr (Or.inl rfl))) 23
  obtain ⟨FA, GA, ha, cA⟩ := veil (op := .add) (Or.inl rfl) 23
  have hE := fun (y : Nat) (W : World) (hW : Below w.heap.size w W) => rz_any l hg A c y W (h.below hW)
  clear h hg
  replace cm := Lib.hid cm
  replace cA := Lib.hid cA
  have ho0 : Own w w.heap.size 26 2 (([] : List (Nat × Nat)).map prow) (.slice none 0 0) := Own.nil _ _ _ _
  generalize hnl : l.length = m at *
  replace hnl := Lib.hid hnl
  go_enter Try.func33, Try.ntmps33
  go_wp2
  go_loopw [9, 10] (fun s9 s10 wr => ∃ (k : Nat) (rs : List (Nat × Nat)), k ≤ n ∧ s10 = .int .i64 k ∧ rs.map clsc = swn (cls f) (cls s) l k ∧ Own wr w.heap.size 26 2 (rs.map prow) s9 ∧ Below w.heap.size w wr) (fun _ v _ => n - (intOf v).toNat)
  case atStart => exact ⟨0, [], by omega, rfl, rfl, ho0, Below.refl _ _⟩
  case round =>
    clear ho0
    obtain ⟨k, rs, hk, rfl, hrs, ho, hd⟩ := hrel
    obtain ⟨wi, rfl⟩ : ∃ x : World, x = wr := ⟨_, rfl⟩
    replace hrs := Lib.hid hrs
    by_cases hkl : k = n
    · subst hkl
      go_wp2
      go_ret
      exact ⟨_, rs, rfl, hrs.out, ho, hd⟩
    have hlt : k < n := by omega
    have hrl : Hid (rs.length = k) := Lib.hid (by rw [← List.length_map (f := clsc), hrs.out, swn_len])
    have hbs : Hid (w.heap.size ≤ wi.heap.size) := Lib.hid hd.size
    have hbytes : Hid (((rs.map prow).length + 1) * 16 ≤ 140737488355328) := Lib.hid (by rw [List.length_map, hrl.out]; omega)
    go_wp2_with fail
    refine (hE _ _ (by first | exact below_drewN' hd _ | exact below_drewN' (below_drewN' hd _) _)).mono ?_
    rintro e w5 ⟨r, q, rfl, hc, hb5⟩
    have hb6 : Below wi.heap.size wi w5 := by first | exact (below_drewN' (Below.refl _ _) _).trans hb5 | exact (below_drewN' (below_drewN' (Below.refl _ _) _) _).trans hb5
    replace ho := ho.below hb6
    replace hb6 := Lib.hid hb6
    replace hc := Lib.hid hc
    clear hb5
    go_wp2_with (at_builtin; refine wpList_push el26 rfl _ _ rfl rfl (ho.alloc _) [.float .f64 r, .float .f64 q] w5.heap.size 26 rfl (heap_alloc_at _ _) rfl (by simp [Value.oneCell']) hbytes.out (by rw [size_al]; have := hb6.out.size; have := hbs.out; omega) ?_; intro v' w3 ho4 hb4 hs4 hn4 hg4; clear hs4 hn4 hg4)
    go_roundw
    case rel =>
      refine ⟨k + 1, rs ++ [(r, q)], by omega, by go_num, ?_, by rw [List.map_append]; exact ho4, hd.trans (((hb6.out.mono hbs.out).alloc (by have := hb6.out.size; have := hbs.out; omega) _).trans hb4)⟩
      rw [List.map_append, hrs.out]
      show _ = swn (cls f) (cls s) l k ++ [lastz (rt (cls f) (cls s) k) l]
      congr 1
      show [(cls r, cls q)] = _
      rw [hc.out]
      congr 2
      rw [cA.out, cm.out]; rfl
    case measure => simp [intOf]; omega
end Go.Proofs.Ytfmjmjppkdaanaa
