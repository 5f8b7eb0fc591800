/- Rails: fed rails that are some, out of any, and volts that hold: walked. -/
import Derived.Test.YtbbjnhajmckjoaaWks
namespace Go.Proofs.Ytbbjnhajmckjoaa
open Go.RowKit Go.BigFrame

theorem and_mask (x : Int) (k : Nat) (hk : k ≤ 62) : bits .and .i64 x ((2 ^ k - 1 : Nat) : Int) = x % ((2 ^ k : Nat) : Int) := by
  show IntKind.i64.wrap ((BitVec.ofInt 64 x &&& BitVec.ofInt 64 ((2 ^ k - 1 : Nat) : Int)).toNat : Int) = _
  have hp : 2 ^ k ≤ 2 ^ 62 := Nat.pow_le_pow_right (by decide) hk
  have hp0 : 0 < 2 ^ k := Nat.two_pow_pos k
  rw [BitVec.toNat_and, BitVec.ofInt_natCast, BitVec.toNat_ofNat, Nat.mod_eq_of_lt (a := 2 ^ k - 1) (by omega), Nat.and_two_pow_sub_one_eq_mod, BitVec.toNat_ofInt]
  have e : (((x % ((2 ^ 64 : Nat) : Int)).toNat % 2 ^ k : Nat) : Int) = x % ((2 ^ k : Nat) : Int) := by
    rw [Int.natCast_emod, Int.toNat_of_nonneg (Int.emod_nonneg _ (by decide))]
    refine Int.emod_emod_of_dvd _ ?_
    exact Int.natCast_dvd_natCast.2 (Nat.pow_dvd_pow 2 (by omega))
  rw [e]
  have h1 := Int.emod_nonneg x (show ((2 ^ k : Nat) : Int) ≠ 0 by omega)
  have h2 := Int.emod_lt_of_pos x (show (0 : Int) < ((2 ^ k : Nat) : Int) by omega)
  rw [IntKind.wrap_i64]
  omega


theorem m63 (x : Int) : bits .and .i64 x 63 = x % 64 := and_mask x 6 (by decide)
theorem m1023 (x : Int) : bits .and .i64 x 1023 = x % 1024 := and_mask x 10 (by decide)
def chp (l : List Pt) (i : Nat) : Pt := (if 0 < i ∧ 0 ≤ (l.getD i (0, 0)).1 then (l.getD i (0, 0)).1 % (i : Int) else -1, (l.getD i (0, 0)).2 % 64)
def chl (l : List Pt) : Nat → List Pt
  | 0 => []
  | k + 1 => chl l k ++ [chp l k]
def ch0 (v : List Int) (i : Nat) : Int := if i < v.length then v.getD i 0 % 1024 else 0
def chx (l : List Pt) (v vs : List Int) (i : Nat) : Int :=
  if 0 ≤ (chp l i).1 then min (ch0 v i) (max 0 (vs.getD (chp l i).1.toNat 0 - (chp l i).2)) else ch0 v i
def chv (l : List Pt) (v : List Int) : Nat → List Int
  | 0 => []
  | k + 1 => chv l v k ++ [chx l v (chv l v k) k]
theorem chl_len (l : List Pt) : ∀ k, (chl l k).length = k
  | 0 => rfl
  | k + 1 => by unfold chl; rw [List.length_append, chl_len l k]; rfl
theorem chv_len (l : List Pt) (v : List Int) : ∀ k, (chv l v k).length = k
  | 0 => rfl
  | k + 1 => by unfold chv; rw [List.length_append, chv_len l v k]; rfl
theorem chp_lo (l : List Pt) (i : Nat) : -1 ≤ (chp l i).1 ∧ (chp l i).1 < (i : Int) ∧ 0 ≤ (chp l i).2 ∧ (chp l i).2 ≤ 63 := by
  have h1 := Int.emod_nonneg (l.getD i (0, 0)).2 (show (64 : Int) ≠ 0 by decide)
  have h2 := Int.emod_lt_of_pos (l.getD i (0, 0)).2 (show (0 : Int) < 64 by decide)
  unfold chp
  simp only
  by_cases h : 0 < i ∧ 0 ≤ (l.getD i (0, 0)).1
  · rw [if_pos h]
    have h3 := Int.emod_nonneg (l.getD i (0, 0)).1 (show (i : Int) ≠ 0 by omega)
    have h4 := Int.emod_lt_of_pos (l.getD i (0, 0)).1 (show (0 : Int) < (i : Int) by omega)
    omega
  · rw [if_neg h]
    omega
theorem ch0_lo (v : List Int) (i : Nat) : 0 ≤ ch0 v i ∧ ch0 v i ≤ 1023 := by
  unfold ch0
  by_cases h : i < v.length
  · rw [if_pos h]
    have h1 := Int.emod_nonneg (v.getD i 0) (show (1024 : Int) ≠ 0 by decide)
    have h2 := Int.emod_lt_of_pos (v.getD i 0) (show (0 : Int) < 1024 by decide)
    omega
  · rw [if_neg h]; decide
theorem chx_lo (l : List Pt) (v vs : List Int) (i : Nat) : 0 ≤ chx l v vs i ∧ chx l v vs i ≤ 1023 := by
  have h := ch0_lo v i
  unfold chx
  by_cases h1 : 0 ≤ (chp l i).1
  · rw [if_pos h1]; omega
  · rw [if_neg h1]; exact h
theorem chv_lo (l : List Pt) (v : List Int) : ∀ k, ∀ x ∈ chv l v k, 0 ≤ x ∧ x ≤ 1023
  | 0, x, h => by simp [chv] at h
  | k + 1, x, h => by
    unfold chv at h
    rcases List.mem_append.1 h with h | h
    · exact chv_lo l v k x h
    · simp only [List.mem_singleton] at h; subst h; exact chx_lo l v _ k
set_option maxHeartbeats 8000000 in
set_option maxRecDepth 100000 in
theorem chained_any (l : List Pt) (v : List Int) (A B : Option Addr) (a b : Nat) (w : World) (h : Pts w A l) (hv : Ints w B v) :
    Calls Try.prog 34 #[.slice A l.length a, .slice B v.length b] w fun e w' => ∃ x y, e = .returned (.tuple #[x, y]) ∧ Own w' w.heap.size 42 2 ((chl l (min l.length 30)).map prow) x ∧ Own w' w.heap.size 2 1 ((chv l v (min l.length 30)).map irow) y ∧ Apart x y ∧ Below w.heap.size w w' := by
  have hlen := h.le
  have hlen2 := hv.le
  have hfw := Lib.hid (fun w' (hb : Below w.heap.size w w') => And.intro (Pts.below h hb) (Ints.below hv hb))
  clear h hv
  obtain ⟨m, hm⟩ : ∃ m, min l.length 30 = m := ⟨_, rfl⟩
  rw [hm]
  have hm' := Lib.hid hm
  clear hm
  go_enter Try.func34, Try.ntmps34
  go_upto_region 4 with fail
  go_loopw [6, 7, 8] (fun u d i wr => ∃ k : Nat, k ≤ m ∧ i = .int .i64 k ∧ Own wr w.heap.size 42 2 ((chl l k).map prow) u ∧ Own wr w.heap.size 2 1 ((chv l v k).map irow) d ∧ Apart u d ∧ Below w.heap.size w wr) (fun _ _ i _ => m - (RowKit.intOf i).toNat)
  case atStart => exact ⟨0, by omega, rfl, Own.nil _ _ _ _, Own.nil _ _ _ _, fun g hg => by simp [Value.ownBlock] at hg, Below.refl _ _⟩
  case round =>
    obtain ⟨k, hk, rfl, hu, hd, hA, hg⟩ := hrel
    obtain ⟨wk, rfl⟩ : ∃ x : World, x = wr := ⟨_, rfl⟩
    by_cases hkm : k = m
    · have hmm := hm'.out
      by_cases h1 : k < l.length
      · have h2 : ¬ ((k : Int) < 30) := by omega
        have h1' : (k : Int) < (l.length : Int) := by omega
        clear hfw hmm h1 hm'
        subst hkm
        go_wp2
        go_ret2
        exact ⟨_, _, rfl, hu, hd, hA, hg⟩
      · have h1' : ¬ ((k : Int) < (l.length : Int)) := by omega
        clear hfw hmm h1 hm'
        subst hkm
        go_wp2
        go_ret2
        exact ⟨_, _, rfl, hu, hd, hA, hg⟩
    have hkl : k < l.length := by have := hm'.out; omega
    have hk30 : k < 30 := by have := hm'.out; omega
    have hkl' : (k : Int) < (l.length : Int) := by omega
    have hk3' : (k : Int) < 30 := by omega
    obtain ⟨hF, hT⟩ := hfw.out wk hg
    obtain ⟨b1, o1, rfl, hbl, c1, c2⟩ := hF.at_ hkl
    have hpd : Hid (chp l k = (if 0 < k ∧ 0 ≤ l[k].1 then l[k].1 % (k : Int) else -1, l[k].2 % 64)) := Lib.hid (by unfold chp; rw [show l.getD k (0, 0) = l[k] by simp [List.getD, hkl]])
    have hplo := Lib.hid (chp_lo l k)
    rw [← m63] at hpd
    generalize hl1 : l[k].1 = p1 at *
    generalize hl2 : l[k].2 = p2 at *
    clear hl1 hl2 hF
    go_upto_region 7 with fail
    generalize bits BinOp.and IntKind.i64 p2 63 = ab at *
    clear c2
    have hbx := heap_alloc_at wk (.cells #[.int .i64 (-1), .int .i64 ab] 42)
    have hgx := below_al hg (.cells #[.int .i64 (-1), .int .i64 ab] 42)
    have hszx : Hid ((wk.alloc (.cells #[.int .i64 (-1), .int .i64 ab] 42)).heap.size = wk.heap.size + 1) := Lib.hid (size_al _ _)
    have hux := hu.alloc (.cells #[.int .i64 (-1), .int .i64 ab] 42)
    have hdx := hd.alloc (.cells #[.int .i64 (-1), .int .i64 ab] 42)
    have hul := fun g e => (hu.lt g e).2
    have hdl := fun g e => (hd.lt g e).2
    have hBk := hg.size
    clear hu hd hg hbl hT
    replace hux := Lib.hid hux
    replace hdx := Lib.hid hdx
    replace hul := Lib.hid hul
    replace hdl := Lib.hid hdl
    replace hgx := Lib.hid hgx
    have c1x : (wk.alloc (.cells #[.int .i64 (-1), .int .i64 ab] 42)).cell? ⟨b1, o1 + k * 2, none⟩ = some (.int .i64 p1) := ((below_al (Below.refl wk.heap.size wk) _).cell (cell_lt' c1)).trans c1
    have q0 : (wk.alloc (.cells #[.int .i64 (-1), .int .i64 ab] 42)).cell? ⟨wk.heap.size, 0, none⟩ = some (.int .i64 (-1)) := (by rw [cell_of_row _ _ 0 _ 42 (0, 0) hbx]; rfl)
    have f0 : (wk.alloc (.cells #[.int .i64 (-1), .int .i64 ab] 42)).frozen? ⟨wk.heap.size, 0, none⟩ = false := frozen_row hbx 0
    clear c1
    generalize wk.alloc (.cells #[.int .i64 (-1), .int .i64 ab] 42) = wx at *
    generalize hG : wk.heap.size = G at *
    go_cut [37] from 28 to 37 (fun x wc => x = .bool (decide (0 < k ∧ 0 ≤ p1)) ∧ wc = wx)
    case first =>
      by_cases h1 : 0 < k ∧ 0 ≤ p1
      · have hT := Lib.hid (decide_eq_true h1)
        have e1 : 0 < (k : Int) := by omega
        have e2 : 0 ≤ p1 := h1.2
        clear h1
        go_wp2
        go_meet
        case rel => exact ⟨by rw [hT.out], rfl⟩
      · have hT := Lib.hid (decide_eq_false h1)
        rcases Nat.eq_zero_or_pos k with hk0 | hk0
        · subst hk0
          clear h1
          go_wp2
          go_meet
          case rel => exact ⟨by rw [hT.out], rfl⟩
        · have e1 : 0 < (k : Int) := by omega
          have e2 : ¬ 0 ≤ p1 := fun q => h1 ⟨hk0, q⟩
          clear h1
          go_wp2
          go_meet
          case rel => exact ⟨by rw [hT.out], rfl⟩
    obtain ⟨rfl, rfl⟩ := hcut
    obtain ⟨wx, rfl⟩ : ∃ x : World, x = wc := ⟨_, rfl⟩
    go_upto_if 37 with fail
    go_cut [] from 37 to 45 (fun wc => ∃ pp : Int, chp l k = (pp, ab) ∧ wc.heap[G]? = some (.cells #[.int .i64 pp, .int .i64 ab] 42) ∧ Below G wx wc)
    case first =>
      by_cases h1 : 0 < k ∧ 0 ≤ p1
      · have hT := decide_eq_true h1
        have e1 : 0 < (k : Int) := by omega
        have e2 : 0 ≤ p1 := h1.2
        have e3 : ¬ ((k : Int) = 0) := by omega
        rw [if_pos h1] at hpd
        rw [hT]
        clear h1
        go_wp2
        go_meet
        case rel =>
          refine ⟨p1 % k, hpd.out, ?_, ?_⟩
          · rw [heap_setCell_same wx G 0 _ 42 _ hbx]; rfl
          · exact (Below.refl _ _).setCell (p := ⟨G, 0, none⟩) (Nat.le_refl _) _
      · rw [if_neg h1] at hpd
        rw [decide_eq_false h1]
        clear h1
        go_wp2
        go_meet
        case rel => exact ⟨-1, hpd.out, hbx, Below.refl _ _⟩
    obtain ⟨pp, hpp, hbc, hbw⟩ := hcut
    obtain ⟨wy, rfl⟩ : ∃ x : World, x = wc := ⟨_, rfl⟩
    have hlo := hplo.out
    rw [hpp] at hlo
    simp only at hlo
    obtain ⟨hlo1, hlo2, hlo3, hlo4⟩ := hlo
    replace hpp := Lib.hid hpp
    have hgy := Lib.hid (hgx.out.trans (hbw.mono hBk))
    have huy := Lib.hid (hux.out.keep (w' := wy) fun g e => hbw.block g (hul.out g e))
    have hdy := hdx.out.keep (w' := wy) fun g e => hbw.block g (hdl.out g e)
    clear hux hdx hgx c1x hbx hszx q0 f0 hpd hplo hbw
    have q0 : wy.cell? ⟨G, 0, none⟩ = some (.int .i64 pp) := (by rw [cell_of_row _ _ 0 _ 42 (0, 0) hbc]; rfl)
    have q1 : wy.cell? ⟨G, 1, none⟩ = some (.int .i64 ab) := (by rw [cell_of_row _ _ 1 _ 42 (0, 0) hbc]; rfl)
    obtain ⟨-, hT⟩ := hfw.out wy hgy.out
    obtain ⟨x0, hx0⟩ : ∃ x, ch0 v k = x := ⟨_, rfl⟩
    have hx0l := ch0_lo v k
    rw [hx0] at hx0l
    replace hx0 := Lib.hid hx0
    replace hbc := Lib.hid hbc
    replace hdy := Lib.hid hdy
    go_upto_if 49 with fail
    go_cut [10] from 46 to 54 (fun x wc => x = .int .i64 x0 ∧ wc = wy)
    case first =>
      have hx := hx0.out
      unfold ch0 at hx
      by_cases h1 : k < v.length
      · obtain ⟨b2, o2, rfl, _, d1⟩ := hT.at_ h1
        rw [if_pos h1, show v.getD k 0 = v[k] by simp [List.getD, h1], ← m1023] at hx
        have h1' : (k : Int) < (v.length : Int) := by omega
        generalize v[k] = vk at *
        replace hx := Lib.hid hx
        clear hT h1 hfw
        go_wp2
        go_meet
        case rel => exact ⟨by rw [hx.out], rfl⟩
      · rw [if_neg h1] at hx
        have h1' : ¬ (k : Int) < (v.length : Int) := by omega
        clear h1 hT hfw
        subst hx
        go_wp2
        go_meet
        case rel => exact ⟨rfl, rfl⟩
    obtain ⟨rfl, rfl⟩ := hcut
    obtain ⟨wy, rfl⟩ : ∃ x : World, x = wc := ⟨_, rfl⟩
    clear hT
    obtain ⟨Ad, cd, rfl, -⟩ := hdy.out.sl
    rw [List.length_map, chv_len] at hA hdl hdy ⊢
    go_upto_if 57 with fail
    go_cut [10] from 57 to 68 (fun x wc => x = .int .i64 (chx l v (chv l v k) k) ∧ Drawn wy wc)
    case first =>
      have hx : chx l v (chv l v k) k = if 0 ≤ pp then min x0 (max 0 ((chv l v k).getD pp.toNat 0 - ab)) else x0 := by
        unfold chx; rw [hpp.out, hx0.out]
      by_cases h1 : 0 ≤ pp
      · rw [if_pos h1] at hx
        obtain ⟨pn, rfl⟩ : ∃ n : Nat, pp = n := ⟨pp.toNat, by omega⟩
        have hpk : pn < k := by omega
        have hlenv := chv_len l v k
        have hvl := chv_lo l v k
        have hdd := hdy.out
        generalize chv l v k = vs at *
        obtain ⟨g, u0, rfl, -, -, y0, -, hu0, -⟩ := hdd.row1 (by rw [List.length_map, hlenv]) hpk
        rw [List.getElem?_map, List.getElem?_eq_getElem (hlenv ▸ hpk)] at hu0
        obtain rfl : u0 = .int .i64 (vs[pn]'(hlenv ▸ hpk)) := by simpa [irow] using hu0.symm
        have hyl := hvl _ (List.getElem_mem (hlenv ▸ hpk))
        rw [show vs.getD (pn : Int).toNat 0 = vs[pn]'(hlenv ▸ hpk) by simp [List.getD, hlenv, hpk]] at hx
        generalize vs[pn]'(hlenv ▸ hpk) = y at *
        have hw : wrap64 (y - ab) = y - ab := (by unfold wrap64; omega)
        have hpk' : (pn : Int) < (k : Int) := by omega
        have h1' := Lib.hid h1
        generalize hz : chx l v vs k = z at *
        clear hz hdd hvl hlenv hul hdl hdy huy hgy hbc hpp hx0 hfw hm' h1 hlo1 hlo2 hA
        replace hw := Lib.hid hw
        replace hx := Lib.hid hx
        have h1 := h1'.out
        clear hlo3 hlo4
        replace hx0l := Lib.hid hx0l
        go_wp2
        go_big_quiet (fail)
        all_goals go_wp2
        all_goals go_meet
        all_goals (case rel =>
          refine ⟨?_, ⟨_, rfl⟩⟩
          have q1 := hw.out
          have q2 := hx.out
          have q3 := hx0l.out
          clear hw hx hx0l
          simp only [q1] at *
          congr 1
          split at * <;> omega)
      · rw [if_neg h1] at hx
        replace hx := Lib.hid hx
        go_wp2
        go_meet
        case rel => exact ⟨by rw [hx.out], Drawn.refl _⟩
    obtain ⟨rfl, hdr⟩ := hcut
    obtain ⟨wz, rfl⟩ : ∃ x : World, x = wc := ⟨_, rfl⟩
    have huz := huy.out.drawn hdr
    have hdz := hdy.out.drawn hdr
    have hgz := hdr.after hgy.out
    have hbz : wz.heap[G]? = some (.cells #[.int .i64 pp, .int .i64 ab] 42) := by
      obtain ⟨_, rfl⟩ := hdr; exact hbc.out
    have hlz : wz.heap.size = wy.heap.size := by obtain ⟨_, rfl⟩ := hdr; rfl
    have eu : Hid ((chl l k).map prow ++ [[.int .i64 pp, .int .i64 ab]] = (chl l (k + 1)).map prow) := Lib.hid (by rw [show chl l (k + 1) = chl l k ++ [chp l k] from rfl, List.map_append, hpp.out]; rfl)
    have ed : Hid ((chv l v k).map irow ++ [[.int .i64 (chx l v (chv l v k) k)]] = (chv l v (k + 1)).map irow) := Lib.hid (by rw [show chv l v (k + 1) = chv l v k ++ [chx l v (chv l v k) k] from rfl, List.map_append]; rfl)
    have hlu : Hid (((chl l k).map prow).length = k) := Lib.hid (by rw [List.length_map, chl_len])
    have hld : Hid (((chv l v k).map irow).length = k) := Lib.hid (by rw [List.length_map, chv_len])
    have hBz := hgz.size
    clear huy hdy hgy hdr hbc hpp hx0 hx0l q0 q1 hlz hul hdl hfw hlo1 hlo2 hlo3 hlo4 hBk
    generalize chx l v (chv l v k) k = z at *
    generalize chv l v k = vs at *
    generalize chl l k = us at *
    replace hgz := Lib.hid hgz
    go_wp2_with (first
      | (refine wpList_load_row rfl 42 _ rfl G rfl 42 _ (0, 0) _ hbz Try.underlying42 rfl (by kernel_rfl) ?_)
      | (at_builtin; refine wpList_push_at elt24 rfl _ _ rfl rfl (huz.alloc _) [.int .i64 pp, .int .i64 ab] wz.heap.size 42 rfl (heap_alloc_at _ _) rfl (by simp [Value.oneCell']) (by rw [hlu.out]; omega) (by rw [size_al]; omega) ?_; intro v1 w3 ho1 hb1 hs1 _ hgr1 hat1
         have hd3 := (hdz.alloc _).grown hgr1 hA.ne
         have hA1 := hA.left hat1 (fun g hg => ((hdz.alloc _).lt g hg).2)
         have hg3 := Lib.hid ((below_al hgz.out _).trans hb1)
         clear hbz hgr1 hat1 hb1 hs1 huz hdz)
      | (at_builtin; refine wpList_push_at elt23 rfl _ _ rfl rfl (hd3.alloc _) [.int .i64 z] w3.heap.size 2 rfl (heap_alloc_at _ _) rfl (by simp [Value.oneCell']) (by rw [hld.out]; omega) (by rw [size_al]; have := hg3.out.size; omega) ?_; intro v2 w4 ho2 hb2 hs2 _ hgr2 hat2))
    go_roundw
    case rel =>
      exact ⟨k + 1, by omega, by go_num, by rw [← eu.out]; exact (ho1.alloc _).grown hgr2 hA1.ne', by rw [← ed.out]; exact ho2, hA1.right hat2 (fun g hg => ((ho1.alloc _).lt g hg).2), (below_al hg3.out _).trans hb2⟩
    case measure => first | (simp [RowKit.intOf]; done) | (simp [RowKit.intOf]; omega)
end Go.Proofs.Ytbbjnhajmckjoaa
