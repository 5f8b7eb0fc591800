/- Net: sweeps that may be, the program's and the reference's, walked. -/
import Derived.Test.YtfmjmjppkdaanaaSweep
namespace Go.Proofs.Ytfmjmjppkdaanaa
open Go.RowKit Go.BigFrame flt Ieee

theorem lastz_get {W : Option Nat} {l : List Part} (hg : Good l) {zs : List Cx} (h : zs = zsn W l l.length) : zs[l.length - 1]'(by rw [h, zsn_len]; have := hg.1; omega) = lastz W l := by
  subst h
  unfold lastz
  rw [List.getD_eq_getElem?_getD, List.getElem?_eq_getElem]
  rfl
set_option maxHeartbeats 4000000 in
theorem sweep_good (l : List Part) (A : Option Addr) (c f s : Nat) (n : Nat) (w : World) (h : Pn w A l) (hok : SwOk l (cls f) (cls s) n) :
    Calls Try.prog 29 #[.slice A l.length c, .float .f64 f, .float .f64 s, .int .i64 n] w fun e w' => ∃ (v : Value) (rs : List (Nat × Nat)), e = .returned (.tuple #[v, .int .i64 0]) ∧ rs.map clsc = swn (cls f) (cls s) l n ∧ Own w' w.heap.size 34 1 (rs.map crow) v ∧ Below w.heap.size w w' := by
  obtain ⟨hg, hr, hf, hge, hn1, hn2⟩ := hok
  have hC := check_any l A c w h
  have hR := rate_any f
  have hF := finite_any s
  have hlt := lt_zero s hf
  rw [hge] at hlt
  unfold chk at hC
  rw [if_pos hg] at hC
  rw [hr] at hR
  rw [hf] at hF
  obtain ⟨FM, GM, hm, cm⟩ := veil (op := .mul) (Or.inr (Or.inr (Or.inl rfl))) 23
  obtain ⟨FA, GA, ha, cA⟩ := veil (op := .add) (Or.inl rfl) 23
  have hE := fun (y : Nat) (W : World) (hW : Below w.heap.size w W) => each_any l hg A c y W (h.below hW)
  have hg1 := hg.1
  have hg2 := hg.2.1
  have hg' := Lib.hid hg
  obtain ⟨i0, z, hi, hz0, hz1, hz2, hz⟩ := el34.i
  clear h hr hf hge hg
  have k2 : ((l.length : Int) - 1) = ((l.length - 1 : Nat) : Int) := by omega
  have b2 : Hid (i0.bytes * n ≤ 281474976710656) := Lib.hid (by rw [hz2]; omega)
  have b3 : Hid (n ≤ maxLen) := Lib.hid (by unfold maxLen; omega)
  replace cm := Lib.hid cm
  replace cA := Lib.hid cA
  have hlenh : Hid (∀ rs : List (Nat × Nat), ∀ y, rs.map clsc = zsn (cls y) l l.length → rs.length = l.length) := Lib.hid (fun rs y e => by rw [← List.length_map (f := clsc), e, zsn_len])
  generalize hnl : l.length = m at *
  replace hnl := Lib.hid hnl
  go_enter Try.func29, Try.ntmps29
  go_upto_region 6 with (first | (go_at_call 41; (with_reducible refine (hC).mono ?_); rintro e w1 ⟨rfl, hb⟩) | (go_at_call 36; (with_reducible refine (hR _).mono ?_); rintro e w2 ⟨rfl, hw⟩; subst hw) | (go_at_call 45; (with_reducible refine (hF _).mono ?_); rintro e w3 ⟨rfl, hw⟩; subst hw))
  obtain ⟨wo, rfl⟩ : ∃ x : World, x = w3 := ⟨_, rfl⟩
  have b4 : Hid (wo.heap.size ≤ wo.heap.size) := Lib.hid (Nat.le_refl _)
  go_wp2_with (at_make; refine wpList_make_own _ rfl _ _ 50 rfl wo.heap.size 34 i0 z 1 Try.underlying50 hi hz0 hz1 _ _ _ n rfl rfl rfl b2.out b3.out b4.out (fun w4 hown hgr => ?_))
  have ho4 : Own w4 w.heap.size 34 1 (([] : List (Nat × Nat)).map crow) (.slice (some ⟨wo.heap.size, 0, none⟩) 0 n) := Own.mono ⟨hown, by simp⟩ hb.size
  have hd4 : Below w.heap.size w w4 := hb.grown hgr hb.size (by simp)
  clear hown hgr b2 b3 b4 hi hz0 hz1 hz2 hz hb
  generalize hv0 : Value.slice (some ⟨wo.heap.size, 0, none⟩) 0 n = v0 at *
  clear hv0
  go_loopw [11, 42] (fun s11 s42 wr => ∃ (k : Nat) (rs : List (Nat × Nat)), k ≤ n ∧ s42 = .int .i64 k ∧ rs.map clsc = swn (cls f) (cls s) l k ∧ Own wr w.heap.size 34 1 (rs.map crow) s11 ∧ Below w.heap.size w wr) (fun _ v _ => n - (intOf v).toNat)
  case atStart => exact ⟨0, [], by omega, rfl, rfl, ho4, hd4⟩
  case round =>
    clear ho4 hd4
    obtain ⟨k, rs, hk, rfl, hrs, ho, hd⟩ := hrel
    obtain ⟨wi, rfl⟩ : ∃ x : World, x = wr := ⟨_, rfl⟩
    replace hrs := Lib.hid hrs
    by_cases hkl : k = n
    · subst hkl
      go_wp2
      go_ret2
      exact ⟨_, rs, rfl, hrs.out, ho, hd⟩
    have hlt : k < n := by omega
    have hrl : Hid (rs.length = k) := Lib.hid (by rw [← List.length_map (f := clsc), hrs.out, swn_len])
    have hbs : Hid (w.heap.size ≤ wi.heap.size) := Lib.hid hd.size
    have hbytes : Hid (((rs.map crow).length + 1) * 16 ≤ 140737488355328) := Lib.hid (by rw [List.length_map, hrl.out]; omega)
    go_wp2_with fail
    refine (hE _ _ (by first | exact below_drewN' hd _ | exact below_drewN' (below_drewN' hd _) _)).mono ?_
    rintro e w5 ⟨v5, r5, rfl, hz5, ho5, hb5⟩
    have hb6 : Below wi.heap.size wi w5 := by first | exact (below_drewN' (Below.refl _ _) _).trans hb5 | exact (below_drewN' (below_drewN' (Below.refl _ _) _) _).trans hb5
    obtain ⟨A5, c5, rfl, hcs⟩ := Cs.of_own ho5
    have hl5 := hlenh.out _ _ hz5
    rw [hl5]
    obtain ⟨b5, o5, r, q, rfl, hb5lt, c0, hc⟩ := hcs.2 (m - 1) (by rw [List.length_map, hl5]; omega)
    replace ho := ho.below hb6
    replace hb6 := Lib.hid hb6
    replace hc := Lib.hid hc
    replace hz5 := Lib.hid hz5
    replace hl5 := Lib.hid hl5
    clear ho5 hb5 hcs
    go_wp2_with (at_builtin; refine wpList_push el34 rfl _ _ rfl rfl (ho.alloc _) [.complex .f64 r q] w5.heap.size 34 rfl (heap_alloc_at _ _) rfl (by simp [Value.oneCell']) hbytes.out (by rw [size_al]; have := hb6.out.size; have := hbs.out; omega) ?_; intro v' w3 ho4 hb4 hs4 hn4 hg4; clear hs4 hn4 hg4)
    go_roundw
    case rel =>
      refine ⟨k + 1, rs ++ [(r, q)], by omega, by go_num, ?_, by rw [List.map_append]; exact ho4, hd.trans (((hb6.out.mono hbs.out).alloc (by have := hb6.out.size; have := hbs.out; omega) _).trans hb4)⟩
      rw [List.map_append, hrs.out]
      show _ = swn (cls f) (cls s) l k ++ [lastz (rt (cls f) (cls s) k) l]
      congr 1
      show [(cls r, cls q)] = _
      rw [hc.out]
      congr 1
      have e : rt (cls f) (cls s) k = cls (FA f (FM (floatOfInt .f64 k) s wi) (wi.drewN (GM (floatOfInt .f64 k) s))) := by
        rw [cA.out, cm.out]; rfl
      rw [e]
      have e2 := lastz_get hg'.out (zs := List.map clsc r5) (by rw [hnl.out]; exact hz5.out)
      rw [← e2]
      congr 1
      rw [hnl.out]
    case measure => simp [intOf]; omega
end Go.Proofs.Ytfmjmjppkdaanaa
