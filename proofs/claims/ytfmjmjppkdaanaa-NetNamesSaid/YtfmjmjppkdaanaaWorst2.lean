/- Net: the reference's worst; whether a sweep stays within a limit; walked. -/
import Derived.Test.YtfmjmjppkdaanaaWorst
namespace Go.Proofs.Ytfmjmjppkdaanaa
open Go.RowKit Go.BigFrame flt Ieee

set_option maxHeartbeats 4000000 in
theorem rworst_any (zs : List Cx) (n : Nat) (hzl : zs.length = n) (A : Option Addr) (c : Nat) (w : World) (h : Ps w A zs) (hn1 : 1 ≤ n) :
    Calls Try.prog 34 #[.slice A n c] w fun e w' => ∃ q, e = .returned (.tuple #[.int .i64 ((worst zs).1 : Nat), .float .f64 q]) ∧ cls q = (worst zs).2 ∧ Below w.heap.size w w' := by
  have hn2 : n ≤ 9223372036854775807 := by have := h.1; omega
  have hW : Hid (worst zs = wl zs n 0 0) := Lib.hid (by unfold worst; rw [hzl])
  have hcell : ∀ (k : Nat) (W : World), k < n → Below w.heap.size w W → ∃ b o r s, A = some ⟨b, o, none⟩ ∧ b < w.heap.size ∧ W.cell? ⟨b, o + k * 2, none⟩ = some (.float .f64 r) ∧ W.cell? ⟨b, o + k * 2 + 1, none⟩ = some (.float .f64 s) ∧ (cls r, cls s) = zat zs k := fun k W hk hW => by
    obtain ⟨b, o, r, s, e, hb, c0, c1, hc⟩ := h.2 k (by omega)
    exact ⟨b, o, r, s, e, hb, (hW.cell hb).trans c0, (hW.cell hb).trans c1, by rw [hc]; exact zat_get _⟩
  replace hcell := Lib.hid hcell
  replace hzl := Lib.hid hzl
  generalize hX : worst zs = X at *
  clear hX h
  go_enter Try.func34, Try.ntmps34
  go_wp2
  go_loopw [4, 5] (fun s4 s5 wr => ∃ (k a : Nat), k ≤ n ∧ s5 = .int .i64 k ∧ a < n ∧ s4 = .int .i64 a ∧ X = wl zs (n - k) k a ∧ Below w.heap.size w wr) (fun _ v _ => n - (intOf v).toNat)
  case atStart => exact ⟨0, 0, by omega, rfl, by omega, rfl, hW.out, Below.refl _ _⟩
  case round =>
    obtain ⟨k, a, hk, rfl, ha, rfl, hXk, hd⟩ := hrel
    obtain ⟨wi, rfl⟩ : ∃ x : World, x = wr := ⟨_, rfl⟩
    replace hXk := Lib.hid hXk
    obtain ⟨b, o, r, q, rfl, hbl, c0, c1, hc⟩ := hcell.out a wi ha hd
    replace hc := Lib.hid hc
    by_cases hkl : k = n
    · subst hkl
      have hXe : Hid (X = (a, sz (zat zs a))) := Lib.hid (by rw [hXk.out, Nat.sub_self]; rfl)
      go_wp2_with (go_at_call 19; (with_reducible refine (rsize_any _ _ _).mono ?_); rintro e w2 ⟨r2, rfl, hr2, hd2⟩; replace hr2 := Lib.hid hr2)
      go_ret2
      exact ⟨r2, by rw [hXe.out]; rfl, by rw [hXe.out, hr2.out]; show size (cls r) (cls q) = size (zat zs a).1 (zat zs a).2; rw [← hc.out], hd.trans (hd2.mono hd.size)⟩
    have hlt : k < n := by omega
    obtain ⟨b', o', r2, q2, e, _, d0, d1, hc2⟩ := hcell.out k wi hlt hd
    cases e
    replace hc2 := Lib.hid hc2
    have hstep : Hid (X = if (sz (zat zs k)).isNone then (k, none) else if ord (sz (zat zs k)) (sz (zat zs a)) == some .gt then wl zs (n - (k + 1)) (k + 1) k else wl zs (n - (k + 1)) (k + 1) a) := Lib.hid (by
      rw [hXk.out, show n - k = (n - (k + 1)) + 1 by omega]; rfl)
    clear hXk
    have hbw : b < wi.heap.size := by have := hd.size; omega
    have hc0' := fun W (hW : Below wi.heap.size wi W) => (hW.cell (p := ⟨b, o + a * 2, none⟩) hbw).trans c0
    have hc1' := fun W (hW : Below wi.heap.size wi W) => (hW.cell (p := ⟨b, o + a * 2 + 1, none⟩) hbw).trans c1
    go_upto_region 6 with (go_at_call 19; (with_reducible refine (rsize_any _ _ _).mono ?_); rintro e w2 ⟨r3, rfl, hr3, hd3⟩)
    obtain ⟨wj, rfl⟩ : ∃ x : World, x = w2 := ⟨_, rfl⟩
    have hr3' : Hid (cls r3 = sz (zat zs k)) := Lib.hid (by rw [hr3]; show size (cls r2) (cls q2) = size (zat zs k).1 (zat zs k).2; rw [← hc2.out])
    have hN : (FloatKind.f64.format.order r3 r3 != some .eq) = (cls r3).isNone := nan_test r3
    have c0 := hc0' _ hd3
    have c1 := hc1' _ hd3
    have hdj : Below w.heap.size w wj := hd.trans (hd3.mono hd.size)
    replace hc0' := Lib.hid hc0'
    replace hc1' := Lib.hid hc1'
    clear d0 d1 hd3
    cases hnn : (cls r3).isNone
    · rw [hnn] at hN
      have hG := fun y => gt_test r3 y
      have hgen : ∀ r4, cls r4 = size (cls r) (cls q) → (FloatKind.f64.format.order r3 r4 == some .gt) = (ord (sz (zat zs k)) (sz (zat zs a)) == some .gt) := fun r4 h4 => by
        rw [hG, hr3'.out, h4]
        show _ = (ord _ (size (zat zs a).1 (zat zs a).2) == some .gt)
        rw [← hc.out]
      have hsn : (sz (zat zs k)).isNone = false := by rw [← hr3'.out]; exact hnn
      have hstep2 : Hid (X = if ord (sz (zat zs k)) (sz (zat zs a)) == some .gt then wl zs (n - (k + 1)) (k + 1) k else wl zs (n - (k + 1)) (k + 1) a) := Lib.hid (by rw [hstep.out, hsn]; rfl)
      clear hstep hsn hnn hr3 hG
      generalize (ord (sz (zat zs k)) (sz (zat zs a)) == some .gt) = G at *
      cases G
      all_goals (
        go_wp2_with (go_at_call 19; (with_reducible refine (rsize_any _ _ _).mono ?_); rintro e w4 ⟨r4, rfl, hr4, hd4⟩; have hcmp := hgen r4 hr4; clear hr4)
        go_roundw
        case rel => first | exact ⟨k + 1, a, by omega, by go_num, ha, rfl, by rw [hstep2.out]; rfl, hdj.trans (hd4.mono hdj.size)⟩ | exact ⟨k + 1, k, by omega, by go_num, hlt, rfl, by rw [hstep2.out]; rfl, hdj.trans (hd4.mono hdj.size)⟩
        case measure => simp [intOf]; omega)
    · rw [hnn] at hN
      have hsn : (sz (zat zs k)).isNone = true := by rw [← hr3'.out]; exact hnn
      have hXe : Hid (X = (k, none)) := Lib.hid (by rw [hstep.out, hsn]; rfl)
      have hr0 : Hid (cls r3 = none) := Lib.hid (Option.isNone_iff_eq_none.1 hnn)
      clear hstep hsn hnn hr3
      go_wp2
      go_ret2
      exact ⟨r3, by rw [hXe.out]; rfl, by rw [hXe.out, hr0.out], hdj⟩
set_option maxHeartbeats 4000000 in
theorem meets_bad (l : List Part) (A : Option Addr) (c m f s : Nat) (n : Int) (w : World) (h : Pn w A l) (he : ¬ SwOk l (cls f) (cls s) n) :
    Calls Try.prog 32 #[.slice A l.length c, .float .f64 m, .float .f64 f, .float .f64 s, .int .i64 n] w fun e w' => e = .returned (.tuple #[.bool false, .int .i64 0, .int .i64 (swerr l (cls f) (cls s) n)]) ∧ Below w.heap.size w w' := by
  have hS := sweep_bad l A c f s n w h he
  have hE : swerr l (cls f) (cls s) n = 1 ∨ swerr l (cls f) (cls s) n = 290 := by
    unfold swerr
    by_cases hg : Good l
    · rw [if_pos hg, if_neg he]; exact Or.inl rfl
    · rw [if_neg hg]; exact Or.inr rfl
  clear h he
  generalize swerr l (cls f) (cls s) n = E at *
  rcases hE with rfl | rfl
  all_goals (
    go_enter Try.func32, Try.ntmps32
    go_wp2_with (go_at_call 29; (with_reducible refine (hS).mono ?_); rintro e w1 ⟨rfl, hb⟩)
    refine bodyPost_ret (results_tmp3 rfl _ _ _) rfl ?_
    exact ⟨rfl, hb⟩)
set_option maxHeartbeats 4000000 in
theorem meets_arg (l : List Part) (A : Option Addr) (c m f s : Nat) (n : Nat) (w : World) (h : Pn w A l) (hok : SwOk l (cls f) (cls s) n) (hm : ge0 (cls m) = false) :
    Calls Try.prog 32 #[.slice A l.length c, .float .f64 m, .float .f64 f, .float .f64 s, .int .i64 n] w fun e w' => e = .returned (.tuple #[.bool false, .int .i64 0, .int .i64 1]) ∧ Below w.heap.size w w' := by
  have hS := sweep_good l A c f s n w h hok
  have hG := ge_zero m
  rw [hm] at hG
  clear h hok hm
  go_enter Try.func32, Try.ntmps32
  go_wp2_with (go_at_call 29; (with_reducible refine (hS).mono ?_); rintro e w1 ⟨v, rs, rfl, _, _, hb⟩)
  refine bodyPost_ret (results_tmp3 rfl _ _ _) rfl ?_
  exact ⟨rfl, hb⟩
set_option maxHeartbeats 4000000 in
theorem meets_good (l : List Part) (A : Option Addr) (c m f s : Nat) (n : Nat) (w : World) (h : Pn w A l) (hok : SwOk l (cls f) (cls s) n) (hm : ge0 (cls m) = true) :
    Calls Try.prog 32 #[.slice A l.length c, .float .f64 m, .float .f64 f, .float .f64 s, .int .i64 n] w fun e w' =>
      e = .returned (.tuple #[.bool (meets (swn (cls f) (cls s) l n) (op2 .mul (cls m) (cls m))).1, .int .i64 ((meets (swn (cls f) (cls s) l n) (op2 .mul (cls m) (cls m))).2 : Nat), .int .i64 0]) ∧ Below w.heap.size w w' := by
  have hS := sweep_good l A c f s n w h hok
  have hG := ge_zero m
  rw [hm] at hG
  obtain ⟨FM, GM, hmul, cm⟩ := veil (op := .mul) (Or.inr (Or.inr (Or.inl rfl))) 23
  have hn2 : n ≤ 4096 := by have := hok.2.2.2.2.2; omega
  have hzl := swn_len (cls f) (cls s) l n
  clear h hok hm
  generalize swn (cls f) (cls s) l n = zs at *
  have hT : ∀ W, cls (FM m m W) = op2 .mul (cls m) (cls m) := fun W => cm m m W
  generalize op2 .mul (cls m) (cls m) = T at *
  have hW : Hid (meets zs T = mt zs T n 0) := Lib.hid (by unfold meets; rw [hzl])
  replace hzl := Lib.hid hzl
  replace hT := Lib.hid hT
  generalize hX : meets zs T = X at *
  clear hX cm
  go_enter Try.func32, Try.ntmps32
  go_upto_region 6 with (go_at_call 29; (with_reducible refine (hS).mono ?_); rintro e w1 ⟨v, rs, rfl, hrs, ho, hb⟩; obtain ⟨Av, cv, rfl, hcs⟩ := Cs.of_own ho; have hrl : rs.length = n := (by rw [← List.length_map (f := clsc), hrs, hzl.out]); rw [hrs] at hcs; rw [hrl]; replace hrs := Lib.hid hrs; replace hrl := Lib.hid hrl)
  clear ho hS
  obtain ⟨wo, rfl⟩ : ∃ x : World, x = w1 := ⟨_, rfl⟩
  have hcell : ∀ (k : Nat) (W : World), k < n → Drawn wo W → ∃ b o r s, Av = some ⟨b, o, none⟩ ∧ W.cell? ⟨b, o + k, none⟩ = some (.complex .f64 r s) ∧ (cls r, cls s) = zat zs k := fun k W hk hW => by
    obtain ⟨b, o, r, s, e, _, c0, hc⟩ := hcs.2 k (by rw [hzl.out]; exact hk)
    exact ⟨b, o, r, s, e, by rw [hW.cell]; exact c0, by rw [hc]; exact zat_get _⟩
  replace hcell := Lib.hid hcell
  clear hcs
  go_wp2
  have hTT := hT.out wo
  generalize FM m m wo = top at *
  replace hTT := Lib.hid hTT
  go_loopw [41] (fun s41 wr => ∃ (k : Nat), k ≤ n ∧ s41 = .int .i64 k ∧ X = mt zs T (n - k) k ∧ Drawn wo wr) (fun v _ => n - (intOf v).toNat)
  case atStart => exact ⟨0, by omega, rfl, hW.out, (Drawn.refl _).drewN _⟩
  case round =>
    obtain ⟨k, hk, rfl, hXk, hd⟩ := hrel
    obtain ⟨wi, rfl⟩ : ∃ x : World, x = wr := ⟨_, rfl⟩
    replace hXk := Lib.hid hXk
    by_cases hkl : k = n
    · subst hkl
      have hXe : Hid (X = (true, 0)) := Lib.hid (by rw [hXk.out, Nat.sub_self]; rfl)
      go_wp2
      refine bodyPost_ret (results_tmp3 rfl _ _ _) rfl ?_
      exact ⟨by rw [hXe.out]; rfl, hd.after hb⟩
    have hlt : k < n := by omega
    obtain ⟨b, o, r, q, rfl, c0, hc⟩ := hcell.out k wi hlt hd
    replace hc := Lib.hid hc
    have hstep : Hid (X = if le (sz (zat zs k)) T then mt zs T (n - (k + 1)) (k + 1) else (false, k)) := Lib.hid (by
      rw [hXk.out, show n - k = (n - (k + 1)) + 1 by omega]; rfl)
    clear hXk
    have hgen : ∀ r4, cls r4 = size (cls r) (cls q) → (FloatKind.f64.format.order r4 top == some .lt || FloatKind.f64.format.order r4 top == some .eq) = le (sz (zat zs k)) T := fun r4 h4 => by
      rw [le_test, hTT.out, h4]
      show _ = le (size (zat zs k).1 (zat zs k).2) T
      rw [← hc.out]
    generalize le (sz (zat zs k)) T = G at *
    cases G
    · go_wp2_with (go_at_call 18; (with_reducible refine (size_any _ _ _).mono ?_); rintro e w4 ⟨r4, rfl, hr4, hd4⟩; have hcmp := hgen r4 hr4; clear hr4)
      refine bodyPost_ret (results_tmp3 rfl _ _ _) rfl ?_
      exact ⟨by rw [hstep.out]; rfl, (hd.trans hd4).after hb⟩
    · go_wp2_with (go_at_call 18; (with_reducible refine (size_any _ _ _).mono ?_); rintro e w4 ⟨r4, rfl, hr4, hd4⟩; have hcmp := hgen r4 hr4; clear hr4)
      go_roundw
      case rel => exact ⟨k + 1, by omega, by go_num, by rw [hstep.out]; rfl, hd.trans hd4⟩
      case measure => simp [intOf]; omega
end Go.Proofs.Ytfmjmjppkdaanaa
