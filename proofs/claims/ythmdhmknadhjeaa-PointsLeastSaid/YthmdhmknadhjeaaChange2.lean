/- Points: Change, walked. -/
import Derived.Test.YthmdhmknadhjeaaChange
import Derived.Deep.Cut
namespace Go.Proofs.Ythmdhmknadhjeaa
open Go.RowKit Go.BigFrame

/-- how the box stands in the midst of Change -/
structure St (wc : World) (xs : List Pt) (wx : World) : Prop where
  b : Boxd wx wc.heap.size 47 39 2 (xs.map srow)
  g : Below wc.heap.size wc wx
  s : wc.heap.size < wx.heap.size
theorem St.put {wc wx w1 : World} {xs ys : List Pt} (h : St wc xs wx) (hb : Boxd w1 wc.heap.size 47 39 2 (ys.map srow)) (hg : Below wc.heap.size wx w1) (hs : wx.heap.size ≤ w1.heap.size) : St wc ys w1 :=
  ⟨hb, h.g.trans hg, Nat.lt_of_lt_of_le h.s hs⟩
theorem St.cells {wc wx : World} {xs : List Pt} (h : St wc xs wx) {P : Nat} {x y : Value} (hP : wc.heap[P]? = some (.cells #[x, y] 36)) : wx.cell? ⟨P, 0, none⟩ = some x ∧ wx.cell? ⟨P, 1, none⟩ = some y :=
  cell_two ((h.g.block P (heap_lt hP)).trans hP)
theorem St.box {wc wx : World} {xs : List Pt} (h : St wc xs wx) : ∃ v, wx.cell? ⟨wc.heap.size, 0, none⟩ = some v ∧ Own wx wc.heap.size 47 2 (xs.map srow) v := by
  obtain ⟨v, hv, ho⟩ := h.b.v
  exact ⟨v, cell_of_row wx _ 0 _ 39 (0, 0) hv, ho.mono (by omega)⟩

set_option maxHeartbeats 8000000 in
set_option maxRecDepth 100000 in
theorem change_any (l : List Pt) (A : Option Addr) (c : Nat) (i j y : Int) (w : World) (h : Pts w A l) :
    Calls Try.prog 18 #[.slice A l.length c, .int .i64 i, .int .i64 j, .int .i64 y] w fun e w' => ∃ v, e = .returned (.tuple #[v, .int .i64 (chg l i j y).2]) ∧ Own w' w.heap.size 47 2 ((chg l i j y).1.map srow) v ∧ Below w.heap.size w w' := by
  have hlen := h.le
  by_cases hc : (check l).2 = 0
  case neg =>
    have e := Lib.hid (chg_none (i := i) (j := j) (y := y) hc)
    have h280 := check_code l hc
    go_enter Try.func18, Try.ntmps18
    go_wp2_with fail
    refine (bad_any l A c _ h).mono ?_
    rintro e w1 ⟨rfl, hb⟩
    rw [h280]
    go_wp2
    go_ret2
    exact ⟨_, fin_chg e.out, own_chg e.out (Own.nil _ _ _ _), hb⟩
  by_cases hP : badArg l i j y
  case pos =>
    have e := Lib.hid (chg_arg hc hP)
    unfold badArg at hP
    have fin : ∀ w1, Below w.heap.size w w1 → ∃ v, Ending.returned (.tuple #[.slice none 0 0, .int .i64 1]) = .returned (.tuple #[v, .int .i64 (chg l i j y).2]) ∧ Own w1 w.heap.size 47 2 ((chg l i j y).1.map srow) v ∧ Below w.heap.size w w1 :=
      fun w1 hb => ⟨_, fin_chg e.out, own_chg e.out (Own.nil _ _ _ _), hb⟩
    have fin := Lib.hid fin
    go_enter Try.func18, Try.ntmps18
    go_wp2_with fail
    refine (bad_any l A c _ h).mono ?_
    rintro e w1 ⟨rfl, hb⟩
    rw [hc]
    by_cases q1 : i < 0
    · clear hP
      go_wp2
      go_ret2
      exact fin.out w1 hb
    by_cases q2 : (l.length : Int) ≤ i
    · clear hP
      go_wp2
      go_ret2
      exact fin.out w1 hb
    by_cases q3 : j < 0
    · clear hP
      go_wp2
      go_ret2
      exact fin.out w1 hb
    by_cases q4 : (l.length : Int) ≤ j
    · clear hP
      go_wp2
      go_ret2
      exact fin.out w1 hb
    have q5 : y < 1 := by omega
    clear hP
    go_wp2
    go_ret2
    exact fin.out w1 hb
  obtain ⟨f, t, a1, a2, b1, b2, rfl, rfl, S, ei, ej⟩ := step_of hc hP
  have ht := tab_range hc
  have hP := Lib.hid hP
  obtain ⟨b, o, rfl, _, _⟩ := h.at_ S.hi
  have hS := Lib.hid S
  have hcell : Hid (∀ w1, Below w.heap.size w w1 → w1.cell? ⟨b, o + f * 2, none⟩ = some (.int .i64 a1) ∧ w1.cell? ⟨b, o + f * 2 + 1, none⟩ = some (.int .i64 a2) ∧ w1.cell? ⟨b, o + t * 2, none⟩ = some (.int .i64 b1) ∧ w1.cell? ⟨b, o + t * 2 + 1, none⟩ = some (.int .i64 b2) ∧ b < w1.heap.size) := Lib.hid (by
    intro w1 hb
    obtain ⟨b', o', e', hl, c1, c2⟩ := (h.below hb).at_ S.hi
    cases e'
    obtain ⟨b', o', e', _, c3, c4⟩ := (h.below hb).at_ S.hj
    cases e'
    have ea := S.ea
    have eb := S.eb
    rw [List.getElem?_eq_getElem S.hi] at ea
    rw [List.getElem?_eq_getElem S.hj] at eb
    rw [Option.some.inj ea] at c1 c2
    rw [Option.some.inj eb] at c3 c4
    exact ⟨c1, c2, c3, c4, hl⟩)
  have hi := S.hi
  have hj := S.hj
  have ry := S.ry
  have B := fun w0 hh => bad_any l (some ⟨b, o, none⟩) c w0 hh
  go_enter Try.func18, Try.ntmps18
  go_wp2_with fail
  refine (B _ h).mono ?_
  rintro e w1 ⟨rfl, hb⟩
  rw [hc]
  obtain ⟨c1, c2, c3, c4, hl⟩ := hcell.out w1 hb
  clear ht B
  go_wp2
  go_cut [11, 12] from 18 (fun s11 s12 wc => ∃ P Q : Nat, s11 = .pointer (some ⟨P, 0, none⟩) ∧ s12 = .pointer (some ⟨Q, 0, none⟩) ∧ wc.heap[P]? = some (.cells #[.int .i64 a1, .int .i64 a2] 36) ∧
    wc.heap[Q]? = some (.cells #[.int .i64 b1, .int .i64 b2] 36) ∧ Below w.heap.size w wc)
  case first =>
    go_region
    all_goals go_wp2
    · go_meet
      case rel => exact ⟨_, _, rfl, rfl, heap_alloc (heap_alloc_at _ _), heap_alloc_at' _ _ _ (by rw [size_al]), ((below_al (below_al hb _) _)).drew⟩
    · go_meet
      case rel => exact ⟨_, _, rfl, rfl, heap_alloc_at' _ _ _ (by rw [size_al]), heap_alloc (heap_alloc_at _ _), ((below_al (below_al hb _) _)).drew⟩
  case rest =>
    obtain ⟨P, Q, rfl, rfl, hP1, hQ1, hb1⟩ := hcut
    clear c1 c2 c3 c4 hcell
    obtain ⟨c1, c2⟩ := cell_two hP1
    obtain ⟨c3, c4⟩ := cell_two hQ1
    have hgap := gap_range S.ra2 S.rb2
    have hra := S.ra2
    have hrb := S.rb2
    have hgp : Hid (∀ n, nst a2 b2 y = n ↔ (gap a2 b2 / y).toNat + (if gap a2 b2 % y = 0 then 0 else 1) = n) := Lib.hid (fun n => Iff.rfl)
    go_upto_region 7 with fail
    go_cut [13] from 18 (fun s13 wx => s13 = .int .i64 (gap a2 b2) ∧ wx = wc)
    case first =>
      rcases Int.lt_trichotomy a2 b2 with q | q | q
      · have e : Hid (gap a2 b2 = b2 - a2) := Lib.hid (by unfold gap; rw [if_pos q])
        clear hgap hgp
        generalize gap a2 b2 = D at *
        go_wp2
        go_meet
        case rel => exact ⟨by rw [e.out], rfl⟩
      · have e : Hid (gap a2 b2 = 0) := Lib.hid (by unfold gap; rw [if_neg (by omega)]; omega)
        clear hgap hgp
        subst q
        generalize gap a2 a2 = D at *
        go_wp2
        go_meet
        case rel => exact ⟨by rw [e.out], rfl⟩
      · have e : Hid (gap a2 b2 = a2 - b2) := Lib.hid (by unfold gap; rw [if_neg (by omega)])
        clear hgap hgp
        generalize gap a2 b2 = D at *
        go_wp2
        go_meet
        case rel => exact ⟨by rw [e.out], rfl⟩
    case rest =>
      obtain ⟨rfl, rfl⟩ := hcut
      generalize gap a2 b2 = D at *
      have hdv : 0 ≤ D / y ∧ D / y ≤ D := ⟨Int.ediv_nonneg (by omega) (by omega), Int.ediv_le_self _ (by omega)⟩
      go_upto_if 70 with fail
      go_cut [14] from 18 (fun s14 wx => s14 = .int .i64 (nst a2 b2 y : Nat) ∧ wx = wc)
      case first =>
        by_cases hm : D % y = 0
        · have e : Hid (((nst a2 b2 y : Nat) : Int) = D / y) := Lib.hid (by
            have := (hgp.out _).1 rfl
            rw [if_pos hm] at this; omega)
          clear hgp
          generalize ((nst a2 b2 y : Nat) : Int) = N at *
          go_wp2
          go_meet
          case rel => exact ⟨by rw [e.out], rfl⟩
        · have e : Hid (((nst a2 b2 y : Nat) : Int) = D / y + 1) := Lib.hid (by
            have := (hgp.out _).1 rfl
            rw [if_neg hm] at this; omega)
          clear hgp
          generalize ((nst a2 b2 y : Nat) : Int) = N at *
          go_wp2
          go_meet
          case rel => exact ⟨by rw [e.out], rfl⟩
      case rest =>
        obtain ⟨rfl, rfl⟩ := hcut
        have hn : ((nst a2 b2 y : Nat) : Int) ≤ D + 1 := by
          have := (hgp.out _).1 rfl
          split at this <;> omega
        have hnm := Lib.hid (show ∀ k : Nat, k < nst a2 b2 y → 0 ≤ (k : Int) * y ∧ (k : Int) * y ≤ D from by
          intro k hk
          refine ⟨Int.mul_nonneg (by omega) (by omega), ?_⟩
          have := (hgp.out _).1 rfl
          have h1 : (k : Int) ≤ D / y := by
            split at this <;> omega
          have h2 : (k : Int) * y ≤ D / y * y := Int.mul_le_mul_of_nonneg_right h1 (by omega)
          have h3 : D / y * y ≤ D := Int.ediv_mul_le D (by omega)
          omega)
        clear hgp
        by_cases hij : f = t
        · subst hij
          have e := Lib.hid (chg_same hc hP.out)
          go_wp2
          go_ret2
          exact ⟨_, fin_chg e.out, own_chg e.out (Own.nil _ _ _ _), hb1⟩
        have hij' : (f : Int) ≠ t := by omega
        by_cases hN : 4096 < nst a2 b2 y + 1
        · have e := Lib.hid (chg_many hc hP.out hij' (by rw [ei, ej]; exact hN))
          go_wp2
          go_ret2
          exact ⟨_, fin_chg e.out, own_chg e.out (Own.nil _ _ _ _), hb1⟩
        have e := Lib.hid (chg_turn hc hP.out hij' (by rw [ei, ej]; exact hN))
        rw [ei, ej] at e
        generalize nst a2 b2 y = n at *
        clear hc h hi hj hlen hl hb
        have hnc : Hid (chg l (↑f) (↑t) y = ((if (t : Int) < f then [(2, b1)] else []) ++ volts a2 b2 y n n ++ (if (f : Int) < t then [(2, b1)] else []), 0)) := Lib.hid (by
          rw [e.out]; unfold turn; rw [ei, ej])
        clear e ei ej
        obtain ⟨wo, rfl⟩ : ∃ wo : World, wo = wc := ⟨_, rfl⟩
        have S0 : St wo [] (wo.alloc (.cells #[.slice none 0 0] 39)) := ⟨⟨_, heap_alloc_at _ _, Own.nil _ _ _ _⟩, below_al (Below.refl _ _) _, by rw [size_al]; omega⟩
        have hP1 := Lib.hid hP1
        have hQ1 := Lib.hid hQ1
        clear c1 c2 c3 c4
        go_upto_if 82 with fail
        go_cut [] from 18 (fun wx => St wo (if (t : Int) < f then [(2, b1)] else []) wx)
        case first =>
          by_cases q : (t : Int) < f
          · obtain ⟨c3, c4⟩ := S0.cells hQ1.out
            go_wp2_with (go_at_call 45; refine (put_any _ _ _ [] _ S0.b (by decide)).mono ?_; rintro e w2 ⟨rfl, hb2, hg2, hs2⟩)
            go_meet
            case rel => rw [if_pos q]; exact S0.put hb2 hg2 hs2
          · go_wp2
            go_meet
            case rel => rw [if_neg (by omega)]; exact S0
        case rest =>
          clear S0
          have hpre : Hid (((if (t : Int) < f then [((2 : Int), b1)] else [])).length ≤ 1) := Lib.hid (by split <;> simp)
          generalize (if (t : Int) < f then [((2 : Int), b1)] else []) = pre at *
          go_wp2
          go_loopw [17] (fun v wr => ∃ m : Nat, 1 ≤ m ∧ m ≤ n + 1 ∧ v = .int .i64 m ∧ St wo (pre ++ volts a2 b2 y n (m - 1)) wr) (fun v _ => n + 1 - (intOf v).toNat)
          case atStart => exact ⟨1, by omega, by omega, rfl, by simpa [volts] using hcut⟩
          case round =>
            obtain ⟨m, hm1, hm2, rfl, hS⟩ := hrel
            obtain ⟨c3, c4⟩ := hS.cells hQ1.out
            obtain ⟨c1, c2⟩ := hS.cells hP1.out
            have hlen : Hid (((pre ++ volts a2 b2 y n (m - 1)).length + 1) * 16 ≤ 140737488355328) := Lib.hid (by
              have := hpre.out
              rw [List.length_append, volts_length]; omega)
            by_cases hmn : m = n + 1
            · subst hmn
              rw [Nat.add_sub_cancel] at hS hlen
              by_cases q : (f : Int) < t
              · have hfin := Lib.hid (show chg l f t y = ((pre ++ volts a2 b2 y n n) ++ [(2, b1)], 0) by rw [hnc.out, if_pos q])
                clear hnc
                go_wp2_with (go_at_call 45; refine (put_any _ _ _ _ _ hS.b hlen.out).mono ?_; rintro e w2 ⟨rfl, hb2, hg2, hs2⟩; have S2 := hS.put hb2 hg2 hs2; obtain ⟨v, hv, ho⟩ := S2.box)
                go_ret2
                exact ⟨_, fin_chg hfin.out, own_chg hfin.out (ho.mono hb1.size), hb1.trans (S2.g.mono hb1.size)⟩
              · have hfin := Lib.hid (show chg l f t y = (pre ++ volts a2 b2 y n n, 0) by rw [hnc.out, if_neg q, List.append_nil])
                clear hnc
                obtain ⟨v, hv, ho⟩ := hS.box
                go_wp2
                go_ret2
                exact ⟨_, fin_chg hfin.out, own_chg hfin.out (ho.mono hb1.size), hb1.trans (hS.g.mono hb1.size)⟩
            have hstep : Hid (∀ x, x = volt a2 b2 y n m → (pre ++ volts a2 b2 y n (m - 1)) ++ [(1, x)] = pre ++ volts a2 b2 y n (m + 1 - 1)) := Lib.hid (by
              rintro x rfl
              obtain ⟨m', rfl⟩ : ∃ m', m = m' + 1 := ⟨m - 1, by omega⟩
              rw [Nat.add_sub_cancel, Nat.add_sub_cancel, volts_succ, List.append_assoc])
            by_cases hme : m = n
            · have hx := Lib.hid (hstep.out b2 (by unfold volt; rw [if_pos hme]))
              clear hstep
              subst hme
              go_wp2_with (go_at_call 45; refine (put_any _ _ _ _ _ hS.b hlen.out).mono ?_; rintro e w2 ⟨rfl, hb2, hg2, hs2⟩)
              go_roundw
              case rel => exact ⟨m + 1, by omega, by omega, by go_num, by rw [← hx.out]; exact hS.put hb2 hg2 hs2⟩
              case measure => simp [intOf]
            have hmy := hnm.out m (by omega)
            by_cases hab : a2 < b2
            · have hx := Lib.hid (hstep.out (a2 + m * y) (by unfold volt; rw [if_neg hme, if_pos hab]))
              clear hstep
              go_wp2_with (go_at_call 45; refine (put_any _ _ _ _ _ hS.b hlen.out).mono ?_; rintro e w2 ⟨rfl, hb2, hg2, hs2⟩)
              go_roundw
              case rel => exact ⟨m + 1, by omega, by omega, by go_num, by rw [← hx.out]; exact hS.put hb2 hg2 hs2⟩
              case measure => simp [intOf]; omega
            · have hx := Lib.hid (hstep.out (a2 - m * y) (by unfold volt; rw [if_neg hme, if_neg hab]))
              clear hstep
              go_wp2_with (go_at_call 45; refine (put_any _ _ _ _ _ hS.b hlen.out).mono ?_; rintro e w2 ⟨rfl, hb2, hg2, hs2⟩)
              go_roundw
              case rel => exact ⟨m + 1, by omega, by omega, by go_num, by rw [← hx.out]; exact hS.put hb2 hg2 hs2⟩
              case measure => simp [intOf]; omega
end Go.Proofs.Ythmdhmknadhjeaa
