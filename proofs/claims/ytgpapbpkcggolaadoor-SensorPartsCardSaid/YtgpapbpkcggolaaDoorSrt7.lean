/- Sensor: the sort's partialInsertionSort, walked at small numbers. -/
import Derived.Test.YtgpapbpkcggolaaDoorSrt1
namespace Go.Proofs.YtgpapbpkcggolaaDoor
open Go.RowKit Go.BigFrame

theorem sc_stop {d : Array Int} {b i : Nat} (h : ¬ (i < b ∧ ¬ d[i]! < d[i - 1]!)) : Sort.scanSorted Sort.ltInt d b i = i := by
  rw [Sort.scanSorted, if_neg (by simpa [Sort.ltInt] using h)]
theorem sc_go {d : Array Int} {b i : Nat} (h : i < b) (h1 : ¬ d[i]! < d[i - 1]!) : Sort.scanSorted Sort.ltInt d b i = Sort.scanSorted Sort.ltInt d b (i + 1) := by
  rw [Sort.scanSorted, if_pos (by simp [Sort.ltInt, h] <;> omega)]
theorem sd_stop {d : Array Int} {j : Nat} (h : ¬ (1 ≤ j ∧ d[j]! < d[j - 1]!)) : Sort.shiftDown Sort.ltInt j d = d := by
  cases j with
  | zero => rfl
  | succ j => rw [Sort.shiftDown, if_pos (by simp [Sort.ltInt] at h ⊢; omega)]
theorem sd_go {d : Array Int} {j : Nat} (h1 : d[j + 1]! < d[j]!) : Sort.shiftDown Sort.ltInt (j + 1) d = Sort.shiftDown Sort.ltInt j (Sort.swp d (j + 1) j) := by
  rw [Sort.shiftDown, if_neg (by simp [Sort.ltInt]; omega)]
theorem su_stop {d : Array Int} {b j : Nat} (h : ¬ (j < b ∧ d[j]! < d[j - 1]!)) : Sort.shiftUp Sort.ltInt b j d = d := by
  rw [Sort.shiftUp]
  by_cases hj : j < b
  · rw [if_pos hj, if_pos (by simp [Sort.ltInt]; omega)]
  · rw [if_neg hj]
theorem su_go {d : Array Int} {b j : Nat} (h : j < b) (h1 : d[j]! < d[j - 1]!) : Sort.shiftUp Sort.ltInt b j d = Sort.shiftUp Sort.ltInt b (j + 1) (Sort.swp d j (j - 1)) := by
  rw [Sort.shiftUp, if_pos h, if_neg (by simp [Sort.ltInt]; omega)]
set_option maxHeartbeats 8000000 in
set_option maxRecDepth 100000 in
theorem pins_any {w0 w : World} {g n c a b : Nat} {d : Array Int} (h : Ar w0 w 35 g n c d) (hb : b ≤ n) (hab : a < b) (hn : n ≤ 4096) :
    Calls Tryd.prog 43 #[.slice (some ⟨g, 0, none⟩) n c, .int .i64 a, .int .i64 b] w fun e w' => e = .returned (.bool (Sort.partialInsertionSort Sort.ltInt d a b).2) ∧ Ar w0 w' 35 g n c (Sort.partialInsertionSort Sort.ltInt d a b).1 := by
  have hA := Lib.hid h
  clear h
  obtain ⟨R, hR⟩ : ∃ R, R = Sort.partialInsertionSort Sort.ltInt d a b := ⟨_, rfl⟩
  rw [← hR]
  have hR' : Hid (Sort.partialIns Sort.ltInt a b 5 (a + 1) d = R) := Lib.hid (by rw [hR]; rfl)
  clear hR
  go_enter Tryd.func43, Tryd.ntmps43
  go_upto_region 3 with fail
  go_loopw [8, 7, 9, 10] (fun s8 s7 _ _ wr => ∃ (t i : Nat) (dk : Array Int), t ≤ 5 ∧ a < i ∧ i ≤ b ∧ s8 = .int .i64 t ∧ s7 = .int .i64 i ∧ Hid (Ar w0 wr 35 g n c dk) ∧ Hid (Sort.partialIns Sort.ltInt a b (5 - t) i dk = R)) (fun s8 _ _ _ _ => 5 - (intOf s8).toNat)
  case atStart => exact ⟨0, a + 1, d, by omega, by omega, by omega, rfl, by go_num, hA, hR'⟩
  case round =>
    clear hA hR'
    obtain ⟨t, i, dk, ht, hai, hib, rfl, rfl, hA, hE⟩ := hrel
    obtain ⟨wk, rfl⟩ : ∃ x : World, x = wr := ⟨_, rfl⟩
    by_cases ht5 : t = 5
    · have hR : Hid ((dk, false) = R) := Lib.hid (by rw [← hE.out, ht5]; rfl)
      subst ht5
      clear hE
      go_wp2
      go_ret
      rw [← hR.out]
      exact ⟨rfl, hA.out⟩
    · have hts : 5 - t = (4 - t) + 1 := by omega
      have ht1 : 5 - (t + 1) = 4 - t := by omega
      obtain ⟨K, hK⟩ : ∃ K : Nat, K = Sort.scanSorted Sort.ltInt dk b i := ⟨_, rfl⟩
      have hEq := Sort.partialIns_succ (lt := Sort.ltInt) a b (4 - t) i dk
      rw [← hK, ← hts, hE.out] at hEq
      replace hEq := Lib.hid hEq
      replace hK := Lib.hid hK
      replace hts := Lib.hid hts
      replace ht1 := Lib.hid ht1
      have htl : (t : Int) < 5 := by omega
      clear hE ht5
      go_upto_block 2 with fail
      go_cut [7] from 17 to 34 (fun s7 wx => s7 = .int .i64 (K : Nat) ∧ i ≤ K ∧ K ≤ b ∧ Ar w0 wx 35 g n c dk)
      case first =>
        go_wp2_with fail
        go_loopw [7] (fun s7 wr => ∃ i2 : Nat, i ≤ i2 ∧ i2 ≤ b ∧ s7 = .int .i64 i2 ∧ Hid (Ar w0 wr 35 g n c dk) ∧ Hid (Sort.scanSorted Sort.ltInt dk b i2 = Sort.scanSorted Sort.ltInt dk b i)) (fun s7 _ => b - (intOf s7).toNat)
        case atStart => exact ⟨i, by omega, by omega, rfl, hA, Lib.hid rfl⟩
        case round =>
          clear hA
          obtain ⟨i2, hi1, hi2, rfl, hA, hS⟩ := hrel
          obtain ⟨w1, rfl⟩ : ∃ x : World, x = wr := ⟨_, rfl⟩
          have L := fun (x y : Int) (W : World) => less_any x y W
          by_cases hij : i2 < b
          · obtain ⟨q, rfl⟩ : ∃ q, i2 = q + 1 := ⟨i2 - 1, by omega⟩
            have c0 := (hA.out.cell (k := q + 1) (by omega)).1
            have c1 := (hA.out.cell (k := q) (by omega)).1
            have hgo := Lib.hid (sc_go (d := dk) (b := b) (i := q + 1) hij)
            have hst := Lib.hid (sc_stop (d := dk) (b := b) (i := q + 1))
            simp only [Nat.add_sub_cancel] at hgo hst
            generalize dk[q + 1]! = x at *
            generalize dk[q]! = y at *
            by_cases hp : x < y
            · have hS' : Hid (q + 1 = K) := Lib.hid (by rw [hK.out, ← hS.out, hst.out (fun z => z.2 hp)])
              clear hS hgo hst
              go_upto_region 5 with fail
              have g1 : (q : Int) + 1 < (b : Int) := by omega
              go_big_quiet ((go_at_call 44; (with_reducible exact quiet_same (L _ _ _))))
              go_wp2
              go_meet
              case rel => exact ⟨by rw [← hS'.out], by rw [← hS'.out]; omega, by rw [← hS'.out]; omega, hA.out.drewN _⟩
            · have hS' : Hid (Sort.scanSorted Sort.ltInt dk b (q + 1 + 1) = Sort.scanSorted Sort.ltInt dk b i) := Lib.hid (by rw [← hS.out, hgo.out hp])
              clear hS hgo hst
              go_upto_region 5 with fail
              have g1 : (q : Int) + 1 < (b : Int) := by omega
              go_big_quiet ((go_at_call 44; (with_reducible exact quiet_same (L _ _ _))))
              go_wp2
              go_roundw
              case rel => exact ⟨q + 1 + 1, by omega, by omega, by go_num, Lib.hid (hA.out.drewN _), hS'⟩
              case measure => first | (simp [intOf]; done) | (simp [intOf]; omega)
          · have hS' : Hid (i2 = K) := Lib.hid (by rw [hK.out, ← hS.out, sc_stop (fun z => hij z.1)])
            clear hS L
            go_upto_region 5 with fail
            have g1 : ¬ (i2 : Int) < (b : Int) := by omega
            go_big_quiet (fail)
            go_wp2
            go_meet
            case rel => exact ⟨by rw [← hS'.out], by rw [← hS'.out]; omega, by rw [← hS'.out]; omega, hA.out.drewN _⟩
      case rest =>
        obtain ⟨rfl, hiK, hKb, hA2⟩ := hcut
        obtain ⟨wu, rfl⟩ : ∃ x : World, x = wc := ⟨_, rfl⟩
        clear hA hK
        have hA := Lib.hid hA2
        clear hA2
        by_cases hKe : K = b
        · have hR : Hid (R = (dk, true)) := Lib.hid (by rw [hEq.out, if_pos hKe])
          subst hKe
          clear hEq
          go_wp2
          go_ret
          rw [hR.out]
          exact ⟨rfl, hA.out⟩
        · have hKne : ((K : Int) == (b : Int)) = false := by simp; omega
          by_cases h50 : b - a < 50
          · have hR : Hid (R = (dk, false)) := Lib.hid (by rw [hEq.out, if_neg hKe, if_pos h50])
            have h50' : (b : Int) - (a : Int) < 50 := by omega
            clear hEq
            go_wp2
            go_ret
            rw [hR.out]
            exact ⟨rfl, hA.out⟩
          · have h50' : ¬ (b : Int) - (a : Int) < 50 := by omega
            have hR : Hid (R = Sort.partialIns Sort.ltInt a b (4 - t) K (Sort.fixUp Sort.ltInt b K (Sort.fixDown Sort.ltInt a K (Sort.swp dk K (K - 1))))) := Lib.hid (by rw [hEq.out, if_neg hKe, if_neg h50])
            have hKn : K < n := by omega
            have e4 : 5 - (t + 1) = 4 - t := by omega
            rw [← e4] at hR
            replace e4 := Lib.hid e4
            clear hEq
            obtain ⟨q, rfl⟩ : ∃ q, K = q + 1 := ⟨K - 1, by omega⟩
            rw [show q + 1 - 1 = q from rfl] at hR
            have c0 := (hA.out.cell (k := q + 1) (by omega)).1
            have c1 := (hA.out.cell (k := q) (by omega)).1
            have f0 := (hA.out.cell (k := q + 1) (by omega)).2
            have f1 := (hA.out.cell (k := q) (by omega)).2
            have hsw := Lib.hid (hA.out.swpD (i := q + 1) (j := q) (by omega) (by omega))
            generalize Sort.swp dk (q + 1) q = d2 at *
            generalize dk[q + 1]! = x at *
            generalize dk[q]! = y at *
            clear hA
            rw [show ((q + 1 : Nat) : Int) = (q : Int) + 1 by omega] at hKne ⊢
            have htl := Lib.hid htl
            go_upto_region 11 with fail
            go_cut [] from 42 to 57 (fun wx => Ar w0 wx 35 g n c d2)
            case first =>
              go_region
              all_goals go_wp2
              all_goals go_meet
              all_goals (case rel => exact hsw.out)
            case rest =>
              have hA := Lib.hid hcut
              obtain ⟨wv, rfl⟩ : ∃ x : World, x = wc := ⟨_, rfl⟩
              clear hcut c0 c1 f0 f1 hsw
              have hFD : Hid (Sort.fixDown Sort.ltInt a (q + 1) d2 = if q + 1 - a ≥ 2 then Sort.shiftDown Sort.ltInt q d2 else d2) := Lib.hid rfl
              generalize Sort.fixDown Sort.ltInt a (q + 1) d2 = d3 at *
              go_upto_if 61 with fail
              go_cut [9] from 61 to 94 (fun _ wx => Ar w0 wx 35 g n c d3)
              case first =>
                by_cases h2 : q + 1 - a ≥ 2
                · have hD3 : Hid (d3 = Sort.shiftDown Sort.ltInt q d2) := Lib.hid (by rw [hFD.out, if_pos h2])
                  have h2' : (2 : Int) ≤ (q : Int) + 1 - (a : Int) := by omega
                  clear hFD hR
                  go_upto_region 14 with fail
                  go_loopw [9] (fun s9 wr => ∃ (j : Nat) (dj : Array Int), j ≤ q ∧ s9 = .int .i64 j ∧ Hid (Ar w0 wr 35 g n c dj) ∧ Hid (Sort.shiftDown Sort.ltInt j dj = d3)) (fun s9 _ => (intOf s9).toNat)
                  case atStart => exact ⟨q, d2, by omega, by first | rfl | go_num, hA, Lib.hid hD3.out.symm⟩
                  case round =>
                    clear hA hD3
                    obtain ⟨j, dj, hjq, rfl, hA, hS⟩ := hrel
                    obtain ⟨w1, rfl⟩ : ∃ x : World, x = wr := ⟨_, rfl⟩
                    cases j with
                    | zero =>
                      have hD : Hid (dj = d3) := Lib.hid hS.out
                      clear hS
                      go_wp2
                      go_meet
                      case rel => rw [← hD.out]; exact hA.out
                    | succ r =>
                      have L := fun (x y : Int) (W : World) => less_any x y W
                      have c0 := (hA.out.cell (k := r + 1) (by omega)).1
                      have c1 := (hA.out.cell (k := r) (by omega)).1
                      have f0 := (hA.out.cell (k := r + 1) (by omega)).2
                      have f1 := (hA.out.cell (k := r) (by omega)).2
                      have hsw := Lib.hid fun (W : World) (z : Drawn w1 W) => (hA.out.drawn z).swpD (i := r + 1) (j := r) (by omega) (by omega)
                      have hgo := Lib.hid (sd_go (d := dj) (j := r))
                      have hst := Lib.hid (sd_stop (d := dj) (j := r + 1))
                      simp only [Nat.add_sub_cancel] at hst
                      have cc := Lib.hid fun (W : World) (z : Drawn w1 W) => And.intro ((hA.out.drawn z).cell (k := r + 1) (by omega)) ((hA.out.drawn z).cell (k := r) (by omega))
                      generalize dj[r + 1]! = x at *
                      generalize dj[r]! = y at *
                      rw [show ((r + 1 : Nat) : Int) = (r : Int) + 1 by omega]
                      by_cases hp : x < y
                      · have hS' : Hid (Sort.shiftDown Sort.ltInt r (Sort.swp dj (r + 1) r) = d3) := Lib.hid (by rw [← hS.out, hgo.out hp])
                        clear hS hgo hst
                        go_upto_region 16 with fail
                        go_big_quiet ((go_at_call 44; (with_reducible exact quiet_same (L _ _ _))))
                        obtain ⟨w2, hw2⟩ : ∃ x : World, x = w1.drewN nq := ⟨_, rfl⟩
                        have z2 : Drawn w1 w2 := ⟨nq, hw2.symm⟩
                        rw [← hw2]
                        clear hw2 c0 c1 f0 f1
                        obtain ⟨⟨c0, f0⟩, ⟨c1, f1⟩⟩ := cc.out w2 z2
                        have hsw2 := Lib.hid (hsw.out w2 z2)
                        clear cc hsw z2
                        go_upto_region 17 with fail
                        go_region
                        all_goals go_wp2
                        go_roundw
                        case rel => exact ⟨r, _, by omega, by go_num, hsw2, hS'⟩
                        case measure => first | (simp [intOf]; done) | (simp [intOf]; omega)
                      · have hS' : Hid (dj = d3) := Lib.hid (by rw [← hS.out, hst.out (fun z => hp z.2)])
                        clear hS hgo hst hsw cc
                        go_upto_region 16 with fail
                        go_big_quiet ((go_at_call 44; (with_reducible exact quiet_same (L _ _ _))))
                        go_wp2
                        go_meet
                        case rel => rw [← hS'.out]; exact hA.out.drewN _
                · have hD3 : Hid (d3 = d2) := Lib.hid (by rw [hFD.out, if_neg h2])
                  have h2' : ¬ (2 : Int) ≤ (q : Int) + 1 - (a : Int) := by omega
                  clear hFD hR
                  go_wp2
                  go_meet
                  case rel => rw [hD3.out]; exact hA.out
              case rest =>
                have hA3 := Lib.hid hcut
                obtain ⟨wy, rfl⟩ : ∃ x : World, x = wc := ⟨_, rfl⟩
                clear hcut hFD hA
                have hA := hA3
                clear hA3
                have hFU : Hid (Sort.fixUp Sort.ltInt b (q + 1) d3 = if b - (q + 1) ≥ 2 then Sort.shiftUp Sort.ltInt b (q + 1 + 1) d3 else d3) := Lib.hid rfl
                generalize Sort.fixUp Sort.ltInt b (q + 1) d3 = d4 at *
                by_cases h2 : b - (q + 1) ≥ 2
                · have hD4 : Hid (d4 = Sort.shiftUp Sort.ltInt b (q + 1 + 1) d3) := Lib.hid (by rw [hFU.out, if_pos h2])
                  have h2' : (2 : Int) ≤ (b : Int) - ((q : Int) + 1) := by omega
                  clear hFU
                  have ht2 := htl.out
                  go_upto_region 20 with fail
                  go_loopw [10] (fun s9 wr => ∃ (j : Nat) (dj : Array Int), q + 2 ≤ j ∧ j ≤ b ∧ s9 = .int .i64 j ∧ Hid (Ar w0 wr 35 g n c dj) ∧ Hid (Sort.shiftUp Sort.ltInt b j dj = d4)) (fun s9 _ => b - (intOf s9).toNat)
                  case atStart => exact ⟨q + 1 + 1, d3, by omega, by omega, by first | rfl | go_num, hA, Lib.hid hD4.out.symm⟩
                  case round =>
                    clear hA hD4
                    obtain ⟨j, dj, hjq, hjb, rfl, hA, hS⟩ := hrel
                    obtain ⟨w1, rfl⟩ : ∃ x : World, x = wr := ⟨_, rfl⟩
                    by_cases hjl : j < b
                    · obtain ⟨r, rfl⟩ : ∃ r, j = r + 1 := ⟨j - 1, by omega⟩
                      have L := fun (x y : Int) (W : World) => less_any x y W
                      have hgo := Lib.hid (su_go (d := dj) (b := b) (j := r + 1) hjl)
                      have hst := Lib.hid (su_stop (d := dj) (b := b) (j := r + 1))
                      simp only [Nat.add_sub_cancel] at hgo hst
                      have c0 := (hA.out.cell (k := r + 1) (by omega)).1
                      have c1 := (hA.out.cell (k := r) (by omega)).1
                      have hsw := Lib.hid fun (W : World) (z : Drawn w1 W) => (hA.out.drawn z).swpD (i := r + 1) (j := r) (by omega) (by omega)
                      have cc := Lib.hid fun (W : World) (z : Drawn w1 W) => And.intro ((hA.out.drawn z).cell (k := r + 1) (by omega)) ((hA.out.drawn z).cell (k := r) (by omega))
                      generalize dj[r + 1]! = x at *
                      generalize dj[r]! = y at *
                      rw [show ((r + 1 : Nat) : Int) = (r : Int) + 1 by omega]
                      have g1 : (r : Int) + 1 < (b : Int) := by omega
                      by_cases hp : x < y
                      · have hS' : Hid (Sort.shiftUp Sort.ltInt b (r + 1 + 1) (Sort.swp dj (r + 1) r) = d4) := Lib.hid (by rw [← hS.out, hgo.out hp])
                        clear hS hgo hst
                        go_upto_region 22 with fail
                        go_big_quiet ((go_at_call 44; (with_reducible exact quiet_same (L _ _ _))))
                        obtain ⟨w2, hw2⟩ : ∃ x : World, x = w1.drewN nq := ⟨_, rfl⟩
                        have z2 : Drawn w1 w2 := ⟨nq, hw2.symm⟩
                        rw [← hw2]
                        clear hw2 c0 c1
                        obtain ⟨⟨c0, f0⟩, ⟨c1, f1⟩⟩ := cc.out w2 z2
                        have hsw2 := Lib.hid (hsw.out w2 z2)
                        clear cc hsw z2
                        go_upto_region 23 with fail
                        go_region
                        all_goals go_wp2
                        go_roundw
                        case rel => exact ⟨r + 1 + 1, _, by omega, by omega, by go_num, hsw2, hS'⟩
                        case measure => first | (simp [intOf]; done) | (simp [intOf]; omega)
                      · have hS' : Hid (dj = d4) := Lib.hid (by rw [← hS.out, hst.out (fun z => hp z.2)])
                        clear hS hgo hst hsw cc
                        go_upto_region 22 with fail
                        go_big_quiet ((go_at_call 44; (with_reducible exact quiet_same (L _ _ _))))
                        go_wp2
                        go_roundw
                        case rel => exact ⟨t + 1, q + 1, d4, by omega, by omega, by omega, by go_num, by first | rfl | go_num, Lib.hid (by rw [← hS'.out]; exact hA.out.drewN _), Lib.hid hR.out.symm⟩
                        case measure => first | (simp [intOf]; done) | (simp [intOf]; omega)
                    · have hS' : Hid (dj = d4) := Lib.hid (by rw [← hS.out, su_stop (fun z => hjl z.1)])
                      clear hS
                      go_wp2
                      go_roundw
                      case rel => exact ⟨t + 1, q + 1, d4, by omega, by omega, by omega, by go_num, by first | rfl | go_num, Lib.hid (by rw [← hS'.out]; exact hA.out), Lib.hid hR.out.symm⟩
                      case measure => first | (simp [intOf]; done) | (simp [intOf]; omega)
                · have hD4 : Hid (d4 = d3) := Lib.hid (by rw [hFU.out, if_neg h2])
                  have h2' : ¬ (2 : Int) ≤ (b : Int) - ((q : Int) + 1) := by omega
                  clear hFU
                  have ht2 := htl.out
                  go_wp2
                  go_roundw
                  case rel => exact ⟨t + 1, q + 1, d4, by omega, by omega, by omega, by go_num, by first | rfl | go_num, Lib.hid (by rw [hD4.out]; exact hA.out), Lib.hid hR.out.symm⟩
                  case measure => first | (simp [intOf]; done) | (simp [intOf]; omega)
end Go.Proofs.YtgpapbpkcggolaaDoor
