/- Idle: IdleWords, walked. -/
import Derived.Test.YtgnhddnhcfmipaaWords0
import Derived.Deep.CutBlock
namespace Go.Proofs.Ytgnhddnhcfmipaa
open Go.RowKit Go.BigFrame

set_option maxHeartbeats 4000000 in
set_option maxRecDepth 100000 in
theorem words_walk (one two : Int) (A : Option Addr) (cap : Nat) (l : List St) (w : World) (h : Sts w A l) (hl : ∀ s ∈ l, 0 ≤ s.2.1 ∧ s.2.1 ≤ 255) :
    Calls Try.prog 3 #[.int .i64 one, .int .i64 two, .slice A l.length cap] w fun e w' => e = .returned (.bool true) ∧ Below w.heap.size w w' := by
  have hle := h.le
  have n1 := new_all one w
  have n2 := new_all two (neww one w)
  obtain ⟨hp, hq, h2⟩ := new_two one two w (Nat.le_refl _) (Nat.lt_succ_self _)
  have b1 := neww_below one (Below.refl w.heap.size w) (Nat.le_refl _)
  have b2 := neww_below two b1.1 b1.2
  clear b1
  have hp1 : (isTick one = false ∧ newe one = 1 ∧ newp one w = .pointer none) ∨ (isTick one = true ∧ newe one = 0 ∧ newp one w = .pointer (some ⟨w.heap.size, 0, none⟩)) := by
    unfold newe newp; cases isTick one <;> simp
  have hq1 : (isTick two = false ∧ newe two = 1 ∧ newp two (neww one w) = .pointer none) ∨ (isTick two = true ∧ newe two = 0 ∧ newp two (neww one w) = .pointer (some ⟨(neww one w).heap.size, 0, none⟩)) := by
    unfold newe newp; cases isTick two <;> simp
  have hsz : (neww two (neww one w)).heap.size ≤ w.heap.size + 2 := by
    have := neww_size two (neww one w); have := neww_size one w; omega
  generalize newe one = e1 at *
  generalize newe two = e2 at *
  generalize newp two (neww one w) = q at *
  generalize newp one w = p at *
  generalize neww two (neww one w) = w2 at *
  generalize neww one w = w1 at *
  go_enter Try.func3, Try.ntmps3
  go_upto_region 3 with (first
    | (go_at_call 11; (with_reducible refine n1.mono ?_); rintro e w3 ⟨rfl, hw3⟩; replace hw3 := hw3.symm; subst hw3)
    | (go_at_call 11; (with_reducible refine n2.mono ?_); rintro e w3 ⟨rfl, hw3⟩; replace hw3 := hw3.symm; subst hw3))
  go_cut [70] from 29 to 71 (fun t wx => t = .bool false ∧ wx = w2)
  case first =>
    clear h hp hq h2 b2 hsz n1 n2
    rcases hp1 with ⟨t1, rfl, rfl⟩ | ⟨t1, rfl, rfl⟩ <;> rcases hq1 with ⟨t2, rfl, rfl⟩ | ⟨t2, rfl, rfl⟩
    all_goals go_wp2_with (go_at_call 12; (with_reducible refine (rtick_any _ _).mono ?_); rintro e w3 ⟨rfl, rfl⟩)
    all_goals go_meet
    all_goals (case rel => exact ⟨rfl, rfl⟩)
  obtain ⟨rfl, rfl⟩ := hcut
  clear hp1 hq1 n1 n2
  go_wp2
  have hp0 := hp.at_
  have hq0 := hq.at_
  have hG := b2.1
  have hB := b2.2
  clear hp hq b2 hsz
  generalize hN : wc.heap.size = N at *
  generalize hBw : w.heap.size = B at *
  replace hBw := Lib.hid hBw
  have hs4 : ∀ j, j < N → ∀ y z, ((wc.alloc y).alloc z).heap[j]? = wc.heap[j]? := fun j hj y z => (((below_al (Below.refl wc.heap.size wc) y).alloc (by rw [size_al]; omega) z).block j (by omega))
  go_loopw [13] (fun i wr => ∃ (k : Nat) (v1 v2 : VW), k ≤ l.length ∧ i = .int .i64 k ∧ v1.ok ∧ v2.ok ∧ Wd B N wr p one v1 ∧ Wd B N wr q two v2 ∧ wr.heap[N]? = some (.cells v1.arr 29) ∧ wr.heap[N + 1]? = some (.cells v2.arr 29) ∧ Below B w wr) (fun i _ => l.length - (intOf i).toNat)
  case atStart =>
    subst hN
    exact ⟨0, VW.zero, VW.zero, by omega, rfl, VW.zero_ok, VW.zero_ok, hp0.keep (fun g hg _ => hs4 g hg _ _), hq0.keep (fun g hg _ => hs4 g hg _ _), heap_alloc (heap_alloc_at _ _), heap_alloc_at' _ _ _ (by rw [size_al]),
      (hG.alloc (by omega) _).alloc (by rw [size_al]; omega) _⟩
  case round =>
    obtain ⟨k, v1, v2, hk, rfl, ok1, ok2, hp, hq, hn1, hn2, hgB⟩ := hrel
    clear hp0 hq0 hs4 hG
    replace hN := Lib.hid hN
    by_cases hkl : k = l.length
    · subst hkl
      clear hp hq hn1 hn2 h
      go_wp2
      go_ret
      exact ⟨rfl, by rw [hBw.out]; exact hgB⟩
    have hlt : k < l.length := by omega
    obtain ⟨b, o, rfl, hbB, c0, c1, c2⟩ := Sts.at_ h hlt
    rw [hBw.out] at hbB
    replace c0 := (hgB.cell hbB).trans c0
    replace c1 := (hgB.cell hbB).trans c1
    replace c2 := (hgB.cell hbB).trans c2
    have hbl : b < wr.heap.size := by have := heap_lt hn2; omega
    clear h
    have hkd := hl _ (List.getElem_mem hlt)
    generalize l[k].1 = who at *
    generalize l[k].2.1 = kind at *
    generalize l[k].2.2 = now at *
    obtain ⟨P, D, V, hPDV⟩ : ∃ P D V, (who = 0 ∧ P = p ∧ D = one ∧ V = v1) ∨ (¬ who = 0 ∧ P = q ∧ D = two ∧ V = v2) := by
      by_cases e : who = 0
      · exact ⟨_, _, _, Or.inl ⟨e, rfl, rfl, rfl⟩⟩
      · exact ⟨_, _, _, Or.inr ⟨e, rfl, rfl, rfl⟩⟩
    have hW : Wd B N wr P D V := by rcases hPDV with ⟨_, rfl, rfl, rfl⟩ | ⟨_, rfl, rfl, rfl⟩ <;> assumption
    have okV : V.ok := by rcases hPDV with ⟨_, rfl, rfl, rfl⟩ | ⟨_, rfl, rfl, rfl⟩ <;> assumption
    have hsN : N + 1 < wr.heap.size := heap_lt hn2
    have s0 := cell_of_row _ _ 0 _ 29 (0, 0) hn1
    have s1 := cell_of_row _ _ 1 _ 29 (0, 0) hn1
    have s2 := cell_of_row _ _ 2 _ 29 (0, 0) hn1
    have s3 := cell_of_row _ _ 3 _ 29 (0, 0) hn1
    unfold VW.arr at s0 s1 s2 s3
    go_upto_region 12 with fail
    generalize hwA : wr.alloc _ = wA
    have gA : Below wr.heap.size wr wA := by rw [← hwA]; exact below_al (Below.refl _ _) _
    have hmA : wA.heap[wr.heap.size]? = some (.cells v1.arr 29) := by rw [← hwA]; exact heap_alloc_at _ _
    have hn2A : wA.heap[N + 1]? = some (.cells v2.arr 29) := by rw [← hwA]; exact heap_alloc hn2
    have a0 := (gA.cell (p := ⟨b, o + k * 3, none⟩) hbl).trans c0
    clear s0 s1 s2 s3
    go_upto_if 85 with fail
    have hne0 : ¬ who = 0 → Hid ((who != 0) = true) := fun e => Lib.hid (bne_iff_ne.mpr e)
    have l1 : wA.cell? ⟨b, o + k * 3 + 1, none⟩ = some (.int .u8 kind) := (gA.cell (p := ⟨b, o + k * 3 + 1, none⟩) hbl).trans c1
    have l2 : wA.cell? ⟨b, o + k * 3 + 2, none⟩ = some (.int .i64 now) := (gA.cell (p := ⟨b, o + k * 3 + 2, none⟩) hbl).trans c2
    clear c0 c1 c2 hwA
    generalize hm : wr.heap.size = m at *
    replace hm := Lib.hid hm
    go_cut [14, 15] from 86 to 88 (fun pp dd wx => pp = P ∧ dd = .int .i64 D ∧ wx.heap[m]? = some (.cells V.arr 29) ∧ Below m wA wx)
    case first =>
      clear hW okV l1 l2 a0 hn1 hp hq
      rcases hPDV with ⟨e0, rfl, rfl, rfl⟩ | ⟨e0, rfl, rfl, rfl⟩
      · subst e0
        clear hn2A hne0
        go_wp2
        go_meet
        case rel => exact ⟨rfl, rfl, hmA, Below.refl _ _⟩
      · have e1 := (hne0 e0).out
        clear hne0
        have s0 := cell_of_row _ _ 0 _ 29 (0, 0) hn2A
        have s1 := cell_of_row _ _ 1 _ 29 (0, 0) hn2A
        have s2 := cell_of_row _ _ 2 _ 29 (0, 0) hn2A
        have s3 := cell_of_row _ _ 3 _ 29 (0, 0) hn2A
        unfold VW.arr at s0 s1 s2 s3
        go_wp2_with (refine wpList_store_row rfl 29 _ _ rfl m V.arr rfl rfl 29 _ hmA (by kernel_rfl) (by kernel_rfl) (by kernel_rfl) ?_)
        go_meet
        case rel => exact ⟨rfl, rfl, setRow_heap _ _ _ _ _ _ hmA, below_setRow (Below.refl _ _) (Nat.le_refl _) _⟩
    obtain ⟨rfl, rfl, hmX, gX⟩ := hcut
    generalize u14 = P at *
    obtain ⟨wX, rfl⟩ : ∃ x : World, x = wc := ⟨_, rfl⟩
    have gWX := gA.trans gX
    have hnN := (gWX.block N (by omega)).trans hn1
    have hnN2 := (gWX.block (N + 1) (by omega)).trans hn2
    have x0 := (gX.cell (p := ⟨b, o + k * 3, none⟩) hbl).trans a0
    have x1 := (gX.cell (p := ⟨b, o + k * 3 + 1, none⟩) hbl).trans l1
    have x2 := (gX.cell (p := ⟨b, o + k * 3 + 2, none⟩) hbl).trans l2
    clear a0 l1 l2 gA gX hn2A hmA
    have fin0 : Hid (Wd B N wX p one v1 ∧ Wd B N wX q two v2 ∧ Below B w wX) := Lib.hid
      ⟨hp.keep fun g hg _ => gWX.block g (by omega), hq.keep fun g hg _ => gWX.block g (by omega), hgB.trans (gWX.mono (by omega))⟩
    rcases hW with ⟨tD, rfl⟩ | ⟨tD, g, hBg, hgN1, rfl, hg⟩
    · clear hmX x0 x1 x2 hPDV
      go_wp2
      go_roundw
      case rel => exact ⟨k + 1, v1, v2, by omega, by go_num, ok1, ok2, fin0.out.1, fin0.out.2.1, hnN, hnN2, fin0.out.2.2⟩
      case measure => simp [intOf]; omega
    have hDok := (isTick_iff D).mp tD
    have hmsz := heap_lt hmX
    obtain ⟨V', c', hR⟩ : ∃ V' c', wants kind D now V = (V', c') := ⟨_, _, rfl⟩
    have okV' : V'.ok := by have := wants_ok (kind := kind) (d := D) (now := now) okV; rw [hR] at this; exact this
    have hR' := Lib.hid hR
    have hff : isTick now = false → Hid (V' = V ∧ c' = 1) := fun e => Lib.hid (by unfold wants at hR; rw [if_neg (by rw [e]; decide)] at hR; injection hR with r1 r2; exact ⟨r1.symm, r2.symm⟩)
    have htt : isTick now = true → Hid (act kind D now V = (V', c')) := fun e => Lib.hid (by unfold wants at hR; rw [if_pos e] at hR; exact hR)
    replace tD := Lib.hid tD
    clear hR
    go_upto_if 96 with (go_at_call 12; (with_reducible refine (rtick_any _ _).mono ?_); rintro e w9 ⟨rfl, rfl⟩)
    go_cut [17] from 96 to 113 (fun cc wx => cc = .int .i64 c' ∧ wx.heap[m]? = some (.cells V'.arr 29) ∧ Below m wX wx)
    case first =>
      clear hPDV x0 hnN hnN2 fin0 hgB hp hq hn1 hn2 hg hl
      cases ht : isTick now
      · have e0 := hff ht
        clear hff htt
        go_wp2
        go_meet
        case rel => exact ⟨by rw [e0.out.2], by rw [e0.out.1]; exact hmX, Below.refl _ _⟩
      · have K := fun W => rdoes_any V okV kind D now hkd hDok W
        rw [(htt ht).out] at K
        clear hff htt
        obtain ⟨u, a, s, j⟩ := V
        obtain ⟨u', a', s', j'⟩ := V'
        simp only [VW.arr] at K hmX ⊢
        have hmd : wX.drew.heap[m]? = some (.cells #[.int .i64 u, .bool a, .int .i64 s, .int .i64 j] 29) := hmX
        have y1 : wX.drew.cell? ⟨b, o + k * 3 + 1, none⟩ = some (.int .u8 kind) := x1
        have y2 : wX.drew.cell? ⟨b, o + k * 3 + 2, none⟩ = some (.int .i64 now) := x2
        have s0 := cell_of_row _ _ 0 _ 29 (0, 0) hmd
        have s1 := cell_of_row _ _ 1 _ 29 (0, 0) hmd
        have s2 := cell_of_row _ _ 2 _ 29 (0, 0) hmd
        have s3 := cell_of_row _ _ 3 _ 29 (0, 0) hmd
        clear h2 hB hBw ok1 ok2 hne0 hsN hm hN gWX hBg hgN1 hR' okV okV' hDok hkd hmX hle
        go_upto_region 19 with fail
        go_region_with ((go_at_call 13; (with_reducible refine (K _).mono ?_); rintro e w5 ⟨rfl, hb5⟩; have g5 : Below m wX w5 := ((Below.refl m wX).drew).trans (hb5.mono (Nat.le_of_lt hmsz)); have r5 := (hb5.block m hmsz).trans hmd; have i0 := cell_of_row _ _ 0 _ 29 (0, 0) r5; have i1 := cell_of_row _ _ 1 _ 29 (0, 0) r5; have i2 := cell_of_row _ _ 2 _ 29 (0, 0) r5; have i3 := cell_of_row _ _ 3 _ 29 (0, 0) r5; have j0 := frozen_row r5 0; have j1 := frozen_row r5 1; have j2 := frozen_row r5 2; have j3 := frozen_row r5 3))
        all_goals go_wp2
        all_goals go_meet
        all_goals (case rel => exact ⟨rfl, heap_set (heap_set (heap_set (heap_set r5 0 _) 1 _) 2 _) 3 _, below_four g5 (Nat.le_refl _) _ _ _ _⟩)
    obtain ⟨rfl, hmY, gY⟩ := hcut
    obtain ⟨wY, rfl⟩ : ∃ x : World, x = wc := ⟨_, rfl⟩
    have gWY := gWX.trans gY
    replace x0 := (gY.cell (p := ⟨b, o + k * 3, none⟩) hbl).trans x0
    replace x1 := (gY.cell (p := ⟨b, o + k * 3 + 1, none⟩) hbl).trans x1
    replace x2 := (gY.cell (p := ⟨b, o + k * 3 + 2, none⟩) hbl).trans x2
    have hgY := (gWY.block g (by omega)).trans hg
    have hmsY := heap_lt hmY
    clear hnN hnN2 hmX gY gWX fin0 hff htt hmsz
    go_upto_block 2 with fail
    go_cut [18] from 120 to 146 (fun gg wz => gg = .int .i64 c' ∧ Below wY.heap.size (wY.setCell ⟨g, 1, none⟩ (.int .u64 V'.num)) wz)
    case first =>
      have hst : V'.num = V.num → Hid (Below wY.heap.size (wY.setCell ⟨g, 1, none⟩ (.int .u64 V'.num)) wY) := fun e => Lib.hid (by rw [e]; exact Below.stay (Below.refl _ _) hgY)
      clear hPDV x0 hgB hp hq hn1 hn2 hg hl h2 hB hBw ok1 ok2 hne0 hsN hm hN hBg hgN1 okV' hkd hle hmY gWY
      by_cases k1 : kind = 1
      · subst k1
        have K := wget_any g now D V okV hDok wY hgY
        rw [hR'.out] at K
        simp only at K
        clear hst hR' hgY
        generalize V'.num = x' at *
        go_wp2_with (go_at_call 14; (with_reducible refine K.mono ?_); rintro e w9 ⟨rfl, hb9⟩)
        go_meet
        case rel => exact ⟨rfl, hb9⟩
      by_cases k2 : kind = 2
      · subst k2
        have K := wput_any g now D V okV hDok wY hgY
        rw [hR'.out] at K
        simp only at K
        clear hst hR' hgY k1
        generalize V'.num = x' at *
        go_wp2_with (go_at_call 15; (with_reducible refine K.mono ?_); rintro e w9 ⟨rfl, hb9⟩)
        go_meet
        case rel => exact ⟨rfl, hb9⟩
      by_cases k3 : kind = 3
      · subst k3
        have K := wsweep_any g now D V okV hDok wY hgY
        rw [hR'.out] at K
        simp only at K
        clear hst hR' hgY k1 k2
        generalize V'.num = x' at *
        go_wp2_with (go_at_call 16; (with_reducible refine K.mono ?_); rintro e w9 ⟨rfl, hb9⟩)
        go_meet
        case rel => exact ⟨rfl, hb9⟩
      have hst2 := hst (by have e := wants_other (d := D) (now := now) (v := V) k1 k2 k3; rw [hR'.out] at e; rw [← e])
      have f1 : (kind == 1) = false := beq_eq_false_iff_ne.mpr k1
      have f2 : (kind == 2) = false := beq_eq_false_iff_ne.mpr k2
      have f3 : (kind == 3) = false := beq_eq_false_iff_ne.mpr k3
      clear hst hR' hgY k1 k2 k3
      generalize V'.num = x' at *
      go_wp2
      go_meet
      case rel => exact ⟨rfl, hst2.out⟩
    obtain ⟨rfl, gZ⟩ := hcut
    obtain ⟨wZ, rfl⟩ : ∃ x : World, x = wc := ⟨_, rfl⟩
    have T0 : Thru g V'.num wr wY wZ wZ := ⟨by rw [hm.out]; exact gWY, gZ, Below.refl _ _⟩
    have hmZ := T0.tail hmsY (by omega) hmY
    have hgZ := T0.word hg
    replace x0 := (gZ.cell (p := ⟨b, o + k * 3, none⟩) (by show b < _; omega)).trans ((World.cell?_setCell_far wY ⟨g, 1, none⟩ ⟨b, o + k * 3, none⟩ _ (by simp only; omega)).trans x0)
    clear x1 x2 T0
    go_upto_region 28 with fail
    go_cut [156] from 147 to 155 (fun t wx => t = .bool false ∧ Below wZ.heap.size wZ wx)
    case first =>
      have K := fun W hW => wview_any g V' okV' W hW
      have M := fun W => alike_any V' W
      have ne : (c' != c') = false := bne_self_eq_false c'
      have hmsZ := heap_lt hmZ
      have hcZ := cell_of_row _ _ 1 _ 100 (0, 0) hgZ
      clear hPDV x0 hgB hp hq hn1 hn2 hg hl h2 hB hBw ok1 ok2 hne0 hsN hm hN hBg hgN1 okV' hkd hle hmY gWY hgZ hgY hR' hDok okV hmsY hbB hbl gZ
      generalize V'.num = x' at *
      obtain ⟨u', a', s', j'⟩ := V'
      simp only [VW.arr] at K M hmZ
      have hmd : wZ.drew.heap[m]? = some (.cells #[.int .i64 u', .bool a', .int .i64 s', .int .i64 j'] 29) := hmZ
      have s0 := cell_of_row _ _ 0 _ 29 (0, 0) hmd
      have s1 := cell_of_row _ _ 1 _ 29 (0, 0) hmd
      have s2 := cell_of_row _ _ 2 _ 29 (0, 0) hmd
      have s3 := cell_of_row _ _ 3 _ 29 (0, 0) hmd
      go_region_with (first
        | (go_at_call 18; (with_reducible refine (K _ hcZ).mono ?_); rintro e w5 ⟨rfl, hb5⟩; have g5 : Below wZ.heap.size wZ w5 := ((Below.refl _ wZ).drew).trans hb5; have r5 := (hb5.block m hmsZ).trans hmd; have i0 := cell_of_row _ _ 0 _ 29 (0, 0) r5; have i1 := cell_of_row _ _ 1 _ 29 (0, 0) r5; have i2 := cell_of_row _ _ 2 _ 29 (0, 0) r5; have i3 := cell_of_row _ _ 3 _ 29 (0, 0) r5)
        | (go_at_call 17; (with_reducible refine (M _).mono ?_); rintro e w6 ⟨rfl, hb6⟩; have g6 := g5.trans (hb6.mono g5.size)))
      all_goals go_wp2
      all_goals go_meet
      all_goals (case rel => exact ⟨rfl, g6⟩)
    obtain ⟨rfl, gV⟩ := hcut
    obtain ⟨wV, rfl⟩ : ∃ x : World, x = wc := ⟨_, rfl⟩
    have T : Thru g V'.num wr wY wZ wV := ⟨by rw [hm.out]; exact gWY, gZ, gV⟩
    have hmV := T.tail hmsY (by omega) hmY
    have y0 := (gV.cell (p := ⟨b, o + k * 3, none⟩) (by have := gZ.size; rw [size_set] at this; simp only; omega)).trans x0
    have hBV := T.below hgB hBg (by rw [hm.out]; omega)
    have hgV := T.word hg
    have hN1 := T.far (j := N) (by omega) hn1
    have hN2 := T.far (j := N + 1) (by omega) hn2
    have m0 := cell_of_row _ _ 0 _ 29 (0, 0) hmV
    have m1 := cell_of_row _ _ 1 _ 29 (0, 0) hmV
    have m2 := cell_of_row _ _ 2 _ 29 (0, 0) hmV
    have m3 := cell_of_row _ _ 3 _ 29 (0, 0) hmV
    unfold VW.arr at m0 m1 m2 m3
    clear x0 gZ gV hmZ hgZ hgY hmY gWY hmsY hR' hkd hg hn1 hn2
    rcases hPDV with ⟨e0, rfl, rfl, rfl⟩ | ⟨e0, rfl, rfl, rfl⟩
    · subst e0
      have f1 : Hid (Wd B N (wV.setRow N V'.arr) (.pointer (some ⟨g, 0, none⟩)) D V') := Lib.hid (Or.inr ⟨tD.out, g, hBg, hgN1, rfl, by rw [setRow_other _ _ _ _ (by omega)]; exact hgV⟩)
      have f2 : Hid (Wd B N (wV.setRow N V'.arr) q two v2) := Lib.hid (hq.turn T (fun e => h2 g rfl e) (fun j hj => setRow_other _ _ _ _ (by omega)))
      have f3 : Hid ((wV.setRow N V'.arr).heap[N + 1]? = some (.cells v2.arr 29)) := Lib.hid (by rw [setRow_other _ _ _ _ (by omega)]; exact hN2)
      clear hp hq h2 hne0 T hN2 hgV
      go_wp2_with (refine wpList_store_row rfl 29 _ _ rfl N V'.arr rfl rfl 29 _ hN1 (by kernel_rfl) (by kernel_rfl) (by kernel_rfl) ?_)
      go_roundw
      case rel => exact ⟨k + 1, V', v2, by omega, by go_num, okV', ok2, f1.out, f2.out, setRow_heap _ _ _ _ _ _ hN1, f3.out, below_setRow hBV (by omega) _⟩
      case measure => simp [intOf]; omega
    · have e1 := (hne0 e0).out
      have f1 : Hid (Wd B N (wV.setRow (N + 1) V'.arr) (.pointer (some ⟨g, 0, none⟩)) D V') := Lib.hid (Or.inr ⟨tD.out, g, hBg, hgN1, rfl, by rw [setRow_other _ _ _ _ (by omega)]; exact hgV⟩)
      have f2 : Hid (Wd B N (wV.setRow (N + 1) V'.arr) p one v1) := Lib.hid (hp.turn T (fun e => h2 g e rfl) (fun j hj => setRow_other _ _ _ _ (by omega)))
      have f3 : Hid ((wV.setRow (N + 1) V'.arr).heap[N]? = some (.cells v1.arr 29)) := Lib.hid (by rw [setRow_other _ _ _ _ (by omega)]; exact hN1)
      clear hp hq h2 hne0 T hN1 hgV e0
      go_wp2_with (refine wpList_store_row rfl 29 _ _ rfl (N + 1) V'.arr rfl rfl 29 _ hN2 (by kernel_rfl) (by kernel_rfl) (by kernel_rfl) ?_)
      go_roundw
      case rel => exact ⟨k + 1, v1, V', by omega, by go_num, ok1, okV', f2.out, f1.out, f3.out, setRow_heap _ _ _ _ _ _ hN2, below_setRow hBV (by omega) _⟩
      case measure => simp [intOf]; omega
end Go.Proofs.Ytgnhddnhcfmipaa
