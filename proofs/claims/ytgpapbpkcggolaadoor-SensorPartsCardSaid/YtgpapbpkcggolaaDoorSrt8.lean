/- Sensor: the sort's pdqsort, walked at small numbers. -/
import Derived.Test.YtgpapbpkcggolaaDoorSrt2
import Derived.Test.YtgpapbpkcggolaaDoorSrt3
import Derived.Test.YtgpapbpkcggolaaDoorSrt4
import Derived.Test.YtgpapbpkcggolaaDoorSrt5
import Derived.Test.YtgpapbpkcggolaaDoorSrt6
import Derived.Test.YtgpapbpkcggolaaDoorSrt7
namespace Go.Proofs.YtgpapbpkcggolaaDoor
open Go.RowKit Go.BigFrame

/-- whatever sorted permutation of a part comes back, the whole is one -/
def Fin (a b a' b' : Nat) (d dk : Array Int) : Prop := ∀ R, Sort.PermIn a' b' dk R → Sort.SortedIn Sort.ltInt a' b' R → Sort.PermIn a b d R ∧ Sort.SortedIn Sort.ltInt a b R
theorem Fin.perm {a b a' b' : Nat} {d dk d1 : Array Int} (h : Fin a b a' b' d dk) (p : Sort.PermIn a' b' dk d1) : Fin a b a' b' d d1 :=
  fun R h1 h2 => h R (Sort.permIn_trans _ _ _ _ _ p h1) h2
theorem Fin.eq {a b a' b' pv : Nat} {d d3 : Array Int} (h : Fin a b a' b' d d3) (ha0 : 0 < a') (hp1 : a' ≤ pv) (hp2 : pv < b') (hb : b' ≤ d3.size) (hB : Sort.Below Sort.ltInt a' b' d3) (hnl : Sort.ltInt d3[a' - 1]! d3[pv]! = false) :
    a' < (Sort.partitionEqual Sort.ltInt d3 a' b' pv).1 ∧ (Sort.partitionEqual Sort.ltInt d3 a' b' pv).1 ≤ b' ∧ Sort.Below Sort.ltInt (Sort.partitionEqual Sort.ltInt d3 a' b' pv).1 b' (Sort.partitionEqual Sort.ltInt d3 a' b' pv).2 ∧
      Fin a b (Sort.partitionEqual Sort.ltInt d3 a' b' pv).1 b' d (Sort.partitionEqual Sort.ltInt d3 a' b' pv).2 := by
  obtain ⟨h1, h2, _, h3, h4⟩ := Sort.round_eq Sort.swo_ltInt (Sort.partitionEqual_holds _) ha0 hp1 hp2 hb hB hnl (rfl : Sort.partitionEqual Sort.ltInt d3 a' b' pv = (_, _))
  exact ⟨h1, h2, h3, fun R q1 q2 => by
    obtain ⟨u1, u2⟩ := h4 R q1 q2
    exact h R u1 u2⟩
theorem Fin.part {a b a' b' pv : Nat} {d d3 : Array Int} (h : Fin a b a' b' d d3) (hp1 : a' ≤ pv) (hp2 : pv < b') (hb : b' ≤ d3.size) (hB : Sort.Below Sort.ltInt a' b' d3) :
    a' ≤ (Sort.partition Sort.ltInt d3 a' b' pv).1 ∧ (Sort.partition Sort.ltInt d3 a' b' pv).1 < b' ∧ Sort.Below Sort.ltInt a' (Sort.partition Sort.ltInt d3 a' b' pv).1 (Sort.partition Sort.ltInt d3 a' b' pv).2.2 ∧ Sort.Below Sort.ltInt ((Sort.partition Sort.ltInt d3 a' b' pv).1 + 1) b' (Sort.partition Sort.ltInt d3 a' b' pv).2.2 ∧
    (∀ L, Sort.PermIn a' (Sort.partition Sort.ltInt d3 a' b' pv).1 (Sort.partition Sort.ltInt d3 a' b' pv).2.2 L → Sort.SortedIn Sort.ltInt a' (Sort.partition Sort.ltInt d3 a' b' pv).1 L → Sort.Below Sort.ltInt ((Sort.partition Sort.ltInt d3 a' b' pv).1 + 1) b' L ∧ Fin a b ((Sort.partition Sort.ltInt d3 a' b' pv).1 + 1) b' d L) ∧
    (∀ L, Sort.PermIn ((Sort.partition Sort.ltInt d3 a' b' pv).1 + 1) b' (Sort.partition Sort.ltInt d3 a' b' pv).2.2 L → Sort.SortedIn Sort.ltInt ((Sort.partition Sort.ltInt d3 a' b' pv).1 + 1) b' L → Sort.Below Sort.ltInt a' (Sort.partition Sort.ltInt d3 a' b' pv).1 L ∧ Fin a b a' (Sort.partition Sort.ltInt d3 a' b' pv).1 d L) := by
  obtain ⟨h1, h2, _, h3, h4, h5, h6⟩ := Sort.round_part Sort.swo_ltInt (Sort.partition_holds _) hp1 hp2 hb hB (rfl : Sort.partition Sort.ltInt d3 a' b' pv = (_, _, _))
  refine ⟨h1, h2, h3, h4, fun L q1 q2 => ?_, fun L q1 q2 => ?_⟩
  · obtain ⟨u1, u2⟩ := h5 L q1 q2
    exact ⟨u1, fun R v1 v2 => by
      obtain ⟨x1, x2⟩ := u2 R v1 v2
      exact h R x1 x2⟩
  · obtain ⟨u1, u2⟩ := h6 L q1 q2
    exact ⟨u1, fun R v1 v2 => by
      obtain ⟨x1, x2⟩ := u2 R v1 v2
      exact h R x1 x2⟩
/-- what pdqsort gives on a part -/
def Pdq (w0 : World) (g n c : Nat) (m : Nat) : Prop :=
  ∀ (w : World) (a b lim : Nat) (d : Array Int), b - a < m → a ≤ b → b ≤ n → lim ≤ 100 → Ar w0 w 35 g n c d → Sort.Below Sort.ltInt a b d →
    Calls Tryd.prog 36 #[.slice (some ⟨g, 0, none⟩) n c, .int .i64 a, .int .i64 b, .int .i64 lim] w fun e w' => ∃ d' : Array Int, e = .returned (.tuple #[]) ∧ Sort.PermIn a b d d' ∧ Sort.SortedIn Sort.ltInt a b d' ∧ Ar w0 w' 35 g n c d'
set_option maxHeartbeats 8000000 in
set_option maxRecDepth 100000 in
theorem pdq_step {w0 : World} {g n c : Nat} (m : Nat) (hn : n ≤ 4096) (IH : Pdq w0 g n c m) : Pdq w0 g n c (m + 1) := by
  intro w a b lim d hm hab hb hlim hA hB
  have hA0 := Lib.hid hA
  have hB0 := Lib.hid hB
  have hF0 : Hid (Fin a b a b d d) := Lib.hid fun R h1 h2 => ⟨h1, h2⟩
  have IH' := Lib.hid IH
  clear hA hB IH
  go_enter Tryd.func36, Tryd.ntmps36
  go_upto_region 2 with fail
  go_loopw [1, 2, 3, 8, 9, 10, 11, 12, 13, 14, 15, 16, 17, 18] (fun s1 s2 s3 s8 s9 _ _ _ _ _ _ _ _ _ wr => ∃ (a' b' l' : Nat) (wb wp : Bool) (dk : Array Int), a ≤ a' ∧ a' ≤ b' ∧ b' ≤ b ∧ l' ≤ 100 ∧ s1 = .int .i64 a' ∧ s2 = .int .i64 b' ∧ s3 = .int .i64 l' ∧ s8 = .bool wb ∧ s9 = .bool wp ∧
      Hid (Ar w0 wr 35 g n c dk) ∧ Hid (Sort.Below Sort.ltInt a' b' dk) ∧ Hid (Fin a b a' b' d dk)) (fun s1 s2 _ _ _ _ _ _ _ _ _ _ _ _ _ => (intOf s2 - intOf s1).toNat)
  case atStart => exact ⟨a, b, lim, true, true, d, by omega, hab, by omega, hlim, rfl, rfl, rfl, rfl, rfl, hA0, hB0, hF0⟩
  case round =>
    clear hA0 hB0 hF0
    obtain ⟨a', b', l', wb, wp, dk, ha', hab', hb', hl', rfl, rfl, rfl, rfl, rfl, hA, hB, hF⟩ := hrel
    obtain ⟨wk, rfl⟩ : ∃ x : World, x = wr := ⟨_, rfl⟩
    obtain ⟨l, hl⟩ : ∃ l : Nat, l = b' - a' := ⟨_, rfl⟩
    have el : (b' : Int) - (a' : Int) = (l : Int) := by omega
    have hl4 : l ≤ 4096 := by omega
    by_cases h12 : l ≤ 12
    · have K := ins_any (a := a') (b := b') hA.out (by omega) hab' hn
      have S := Sort.insertionSort_holds (lt := Sort.ltInt) Sort.swo_ltInt dk a' b' hab' (by rw [hA.out.sz]; omega)
      have G := Lib.hid (hF.out _ S.1 S.2)
      replace hl := Lib.hid hl
      clear hA hB hF S
      go_wp2_with (go_at_call 38; (with_reducible refine K.mono ?_); rintro e w1 ⟨rfl, hA1⟩; replace hA1 := Lib.hid hA1)
      ((try simp only [Exit.inBlock, Exit.then]); refine bodyPost_ret (results_none rfl _ _ _) rfl ?_)
      exact ⟨_, rfl, G.out.1, G.out.2, hA1.out⟩
    · by_cases hl0 : l' = 0
      · have K := heap_any (a := a') (b := b') hA.out (by omega) (by omega) hn
        have S := Sort.heapSort_holds (lt := Sort.ltInt) Sort.swo_ltInt dk a' b' hab' (by rw [hA.out.sz]; omega)
        have G := Lib.hid (hF.out _ S.1 S.2)
        replace hl := Lib.hid hl
        clear hA hB hF S
        subst hl0
        go_wp2_with (go_at_call 39; (with_reducible refine K.mono ?_); rintro e w1 ⟨rfl, hA1⟩; replace hA1 := Lib.hid hA1)
        ((try simp only [Exit.inBlock, Exit.then]); refine bodyPost_ret (results_none rfl _ _ _) rfl ?_)
        exact ⟨_, rfl, G.out.1, G.out.2, hA1.out⟩
      · have hl0' : ((l' : Int) == 0) = false := by simp; omega
        have hl1 : 1 ≤ l' := by omega
        have hll := Lib.hid hl
        clear hl0 hl
        go_upto_if 35 with fail
        go_cut [3] from 35 to 41 (fun s3 wx => ∃ (l2 : Nat) (d1 : Array Int), l2 ≤ 100 ∧ s3 = .int .i64 l2 ∧ Sort.PermIn a' b' dk d1 ∧ Ar w0 wx 35 g n c d1)
        case first =>
          cases wb
          · have K := break_any (a := a') (b := b') hA.out (by omega) (by omega) hn
            have ell : (l' : Int) - 1 = ((l' - 1 : Nat) : Int) := by omega
            clear hB hF
            go_wp2_with (go_at_call 40; (with_reducible refine K.mono ?_); rintro e w1 ⟨d1, rfl, hP1, hA1⟩; replace hA1 := Lib.hid hA1; replace hP1 := Lib.hid hP1)
            go_meet
            case rel => exact ⟨l' - 1, d1, by omega, by first | rfl | (rw [ell]) | go_num, hP1.out, hA1.out⟩
          · clear hB hF
            go_wp2
            go_meet
            case rel => exact ⟨l', dk, hl', rfl, Sort.permIn_refl _ _ _, hA.out⟩
        case rest =>
          obtain ⟨l2, d1, hl2, rfl, hP1, hA1⟩ := hcut
          obtain ⟨w1, rfl⟩ : ∃ x : World, x = wc := ⟨_, rfl⟩
          have hz0 : dk.size = n := hA.out.sz
          have hB1 := Lib.hid (hB.out.perm (by rw [hz0]; omega) hP1)
          have hF1 := Lib.hid (hF.out.perm hP1)
          have hz1 : d1.size = n := hA1.sz
          clear hA hB hF hP1 hz0
          have K1 := pivot_any (a := a') (b := b') hA1 (by omega) (by omega) hn
          replace hz1 := Lib.hid hz1
          clear hA1 hl1 hl0' hl'
          go_upto_if 50 with (go_at_call 41; (with_reducible refine K1.mono ?_); rintro e w2 ⟨x, tt, rfl, hx, htt, hA2⟩; replace hA2 := Lib.hid hA2)
          go_cut [11, 12] from 49 to 60 (fun s11 s12 wx => ∃ (pv : Nat) (hint : Int) (d2 : Array Int), s11 = .int .i64 pv ∧ s12 = .int .i64 hint ∧ a' ≤ pv ∧ pv < b' ∧ Sort.PermIn a' b' d1 d2 ∧ Ar w0 wx 35 g n c d2)
          case first =>
            by_cases h2 : tt = 2
            · have K2 := rev_any (a := a') (b := b') hA2.out (by omega) (by omega) hn
              have P2 := Lib.hid (Sort.reverseRange_holds (α := Int) d1 a' b' (by omega) (by rw [hz1.out]; omega))
              obtain ⟨pv, hpv⟩ : ∃ pv : Nat, pv = (b' - 1) - (x - a') := ⟨_, rfl⟩
              have epv : ((b' : Int) - 1) - ((x : Int) - (a' : Int)) = (pv : Int) := by omega
              have hpv1 := Lib.hid (show a' ≤ pv ∧ pv < b' by omega)
              have hx1 := hx.1
              have hx2 := hx.2
              replace hpv := Lib.hid hpv
              subst h2
              clear hA2 hB1 hF1
              go_wp2_with (go_at_call 42; (with_reducible refine K2.mono ?_); rintro e w3 ⟨rfl, hA3⟩; replace hA3 := Lib.hid hA3)
              go_meet
              case rel => exact ⟨pv, 1, _, rfl, rfl, hpv1.out.1, hpv1.out.2, P2.out, hA3.out⟩
            · have h2' : (tt == 2) = false := by simpa using h2
              go_wp2
              go_meet
              case rel => exact ⟨x, tt, d1, rfl, rfl, hx.1, hx.2, Sort.permIn_refl _ _ _, hA2.out⟩
          case rest =>
            obtain ⟨pv, hint, d2, rfl, rfl, hpa, hpb, hP2, hA3⟩ := hcut
            obtain ⟨w3, rfl⟩ : ∃ x : World, x = wc := ⟨_, rfl⟩
            have hB2 := Lib.hid (hB1.out.perm (by rw [hz1.out]; omega) hP2)
            have hF2 := Lib.hid (hF1.out.perm hP2)
            have hz2 := Lib.hid (show d2.size = n from hA3.sz)
            have hA2' := Lib.hid hA3
            clear hA2 hB1 hF1 hP2 hA3 hx htt hz1
            go_upto_region 15 with fail
            go_cut [68] from 61 to 67 (fun s68 wx => ∃ q : Bool, s68 = .bool q ∧ wx = w3)
            case first =>
              by_cases h1 : hint = 1
              · subst h1
                cases wb <;> cases wp <;> (go_wp2; go_meet; case rel => exact ⟨_, rfl, rfl⟩)
              · have h1' : (hint == 1) = false := by simpa using h1
                cases wb <;> cases wp <;> (go_wp2; go_meet; case rel => exact ⟨_, rfl, rfl⟩)
            case rest =>
              obtain ⟨q, rfl, hww⟩ := hcut
              rw [hww]
              clear hww
              go_upto_if 68 with fail
              go_cut [] from 68 to 72 (fun wx => ∃ d3 : Array Int, Sort.PermIn a' b' d2 d3 ∧ Ar w0 wx 35 g n c d3)
              case first =>
                cases q
                · go_wp2
                  go_meet
                  case rel => exact ⟨d2, Sort.permIn_refl _ _ _, hA2'.out⟩
                · have K := pins_any (a := a') (b := b') hA2'.out (by omega) (by omega) hn
                  have S := Lib.hid (Sort.partialInsertionSort_holds (lt := Sort.ltInt) Sort.swo_ltInt d2 a' b' (by omega) (by rw [hz2.out]; omega) hB2.out)
                  clear hA2'
                  generalize Sort.partialInsertionSort Sort.ltInt d2 a' b' = R at *
                  obtain ⟨Rd, Rb⟩ := R
                  cases Rb
                  · go_wp2_with (go_at_call 43; (with_reducible refine K.mono ?_); rintro e w4 ⟨rfl, hA4⟩; replace hA4 := Lib.hid hA4)
                    go_meet
                    case rel => exact ⟨Rd, S.out.1, hA4.out⟩
                  · have G := Lib.hid (hF2.out _ S.out.1 (S.out.2 rfl))
                    clear hF2 S
                    go_wp2_with (go_at_call 43; (with_reducible refine K.mono ?_); rintro e w4 ⟨rfl, hA4⟩; replace hA4 := Lib.hid hA4)
                    ((try simp only [Exit.inBlock, Exit.then]); refine bodyPost_ret (results_none rfl _ _ _) rfl ?_)
                    exact ⟨_, rfl, G.out.1, G.out.2, hA4.out⟩
              case rest =>
                obtain ⟨d3, hP3, hA3⟩ := hcut
                obtain ⟨w4, rfl⟩ : ∃ x : World, x = wc := ⟨_, rfl⟩
                have hB3 := Lib.hid (hB2.out.perm (by rw [hz2.out]; omega) hP3)
                have hF3 := Lib.hid (hF2.out.perm hP3)
                have hz3 := Lib.hid (show d3.size = n from hA3.sz)
                have hA := Lib.hid hA3
                clear hA2' hB2 hF2 hP3 hA3 hz2
                have hpn : pv < n := by omega
                go_upto_region 17 with fail
                go_cut [87] from 73 to 86 (fun s87 wx => ∃ q : Bool, s87 = .bool q ∧ (q = true → 0 < a' ∧ Sort.ltInt d3[a' - 1]! d3[pv]! = false) ∧ Ar w0 wx 35 g n c d3)
                case first =>
                  clear hB3 hF3 hz3 IH' hll
                  have L := fun (x y : Int) (W : World) => less_any x y W
                  by_cases ha0 : a' = 0
                  · subst ha0
                    have g1 : ¬ (0 : Int) < ((0 : Nat) : Int) := by omega
                    go_big_quiet (fail)
                    go_wp2
                    go_meet
                    case rel => exact ⟨false, rfl, (fun e => by cases e), hA.out.drewN _⟩
                  · obtain ⟨r, rfl⟩ : ∃ r, a' = r + 1 := ⟨a' - 1, by omega⟩
                    have c0 := (hA.out.cell (k := r) (by omega)).1
                    have c1 := (hA.out.cell (k := pv) hpn).1
                    have hrn : r < n := by omega
                    have eR := Lib.hid fun (x y : Int) (e1 : d3[r]! = x) (e2 : d3[pv]! = y) (e : ¬ x < y) => (show Sort.ltInt d3[r + 1 - 1]! d3[pv]! = false by rw [show r + 1 - 1 = r from rfl, e1, e2]; simp [Sort.ltInt]; omega)
                    obtain ⟨x, hx⟩ : ∃ x, d3[r]! = x := ⟨_, rfl⟩
                    obtain ⟨y, hy⟩ : ∃ x, d3[pv]! = x := ⟨_, rfl⟩
                    rw [hx] at c0
                    rw [hy] at c1
                    replace eR := Lib.hid (eR.out x y hx hy)
                    clear hx hy
                    rw [show ((r + 1 : Nat) : Int) = (r : Int) + 1 by omega]
                    by_cases hxy : x < y
                    · have g1 : (0 : Int) < (r : Int) + 1 := by omega
                      go_big_quiet ((go_at_call 44; (with_reducible exact quiet_same (L _ _ _))))
                      go_wp2
                      go_meet
                      case rel => exact ⟨false, rfl, (fun e => by cases e), hA.out.drewN _⟩
                    · have g1 : (0 : Int) < (r : Int) + 1 := by omega
                      go_big_quiet ((go_at_call 44; (with_reducible exact quiet_same (L _ _ _))))
                      go_wp2
                      go_meet
                      case rel => exact ⟨true, rfl, fun _ => ⟨by omega, eR.out hxy⟩, hA.out.drewN _⟩
                case rest =>
                  obtain ⟨q, rfl, hq, hA5⟩ := hcut
                  obtain ⟨w5, rfl⟩ : ∃ x : World, x = wc := ⟨_, rfl⟩
                  clear hA
                  cases q
                  · have hx := hF3.out.part hpa hpb (by rw [hz3.out]; omega) hB3.out
                    have K := part_any (a := a') (b := b') hA5 (by omega) hpa hpb (by have := hll.out; omega) hn
                    clear hA5 hF3 hB3 hq
                    generalize Sort.partition Sort.ltInt d3 a' b' pv = R at *
                    obtain ⟨mid, ap, d4⟩ := R
                    obtain ⟨m1, m2, hBl, hBr, hL, hR⟩ := hx
                    replace hBl := Lib.hid hBl
                    replace hBr := Lib.hid hBr
                    replace hL := Lib.hid hL
                    replace hR := Lib.hid hR
                    dsimp only at m1 m2 hBl hBr hL hR K
                    obtain ⟨l8, hl8⟩ : ∃ k : Nat, k = l / 8 := ⟨_, rfl⟩
                    have e8 : (l : Int).tdiv 8 = (l8 : Int) := by rw [Int.tdiv_eq_ediv_of_nonneg (by omega)]; omega
                    have l8b : l8 ≤ 4096 := by omega
                    replace hl8 := Lib.hid hl8
                    obtain ⟨u, hu⟩ : ∃ u : Nat, u = mid - a' := ⟨_, rfl⟩
                    obtain ⟨v, hv⟩ : ∃ v : Nat, v = b' - mid := ⟨_, rfl⟩
                    have eu : (mid : Int) - (a' : Int) = (u : Int) := by omega
                    have ev : (b' : Int) - (mid : Int) = (v : Int) := by omega
                    have ub : u ≤ 4096 := by omega
                    have vb : v ≤ 4096 := by omega
                    have hlm : l < m + 1 := by have := hll.out; omega
                    have huv := Lib.hid (And.intro hu (And.intro hv hll.out))
                    clear hu hv
                    go_upto_region 24 with (go_at_call 46; (with_reducible refine K.mono ?_); rintro e w6 ⟨rfl, hA6⟩; replace hA6 := Lib.hid hA6)
                    by_cases hlt : u < v
                    · have hIH := Lib.hid (IH'.out w6 a' mid l2 d4 (by have := huv.out; omega) m1 (by omega) hl2 hA6.out hBl.out)
                      have hlt' : (u : Int) < (v : Int) := by omega
                      clear IH' hA6 hBl hBr hR
                      have KI := hIH.out
                      have emm := Lib.hid (show (mid : Int) + 1 = ((mid + 1 : Nat) : Int) by omega)
                      have hrel4 := Lib.hid (And.intro (show a ≤ mid + 1 by omega) (And.intro (show mid + 1 ≤ b' by omega) (show b' - (mid + 1) < b' - a' by omega)))
                      clear hIH
                      go_wp2_with (go_at_call 36; (with_reducible refine KI.mono ?_); rintro e w7 ⟨d5, rfl, hP7, hS7, hA7⟩; have hLL := Lib.hid (hL.out d5 hP7 hS7); replace hA7 := Lib.hid hA7; clear hP7 hS7)
                      go_roundw
                      case rel => exact ⟨mid + 1, b', l2, _, ap, d5, hrel4.out.1, hrel4.out.2.1, hb', hl2, by first | rfl | (rw [emm.out]) | go_num, rfl, rfl, rfl, rfl, hA7, Lib.hid hLL.out.1, Lib.hid hLL.out.2⟩
                      case measure => (have := hrel4.out.2.2; first | (simp [intOf]; done) | (simp [intOf]; omega))
                    · have hIH := Lib.hid (IH'.out w6 (mid + 1) b' l2 d4 (by have := huv.out; omega) (by omega) (by omega) hl2 hA6.out hBr.out)
                      have hlt' : ¬ (u : Int) < (v : Int) := by omega
                      clear IH' hA6 hBl hBr hL
                      have KI := hIH.out
                      have emm : ((mid + 1 : Nat) : Int) = (mid : Int) + 1 := by omega
                      rw [emm] at KI
                      have hrel4 := Lib.hid (And.intro (show mid ≤ b by omega) (show mid - a' < b' - a' by omega))
                      clear hIH emm
                      go_wp2_with (go_at_call 36; (with_reducible refine KI.mono ?_); rintro e w7 ⟨d5, rfl, hP7, hS7, hA7⟩; have hRR := Lib.hid (hR.out d5 hP7 hS7); replace hA7 := Lib.hid hA7; clear hP7 hS7)
                      go_roundw
                      case rel => exact ⟨a', mid, l2, _, ap, d5, ha', m1, hrel4.out.1, hl2, rfl, rfl, rfl, rfl, rfl, hA7, Lib.hid hRR.out.1, Lib.hid hRR.out.2⟩
                      case measure => (have := hrel4.out.2; first | (simp [intOf]; done) | (simp [intOf]; omega))
                  · have hq1 := hq rfl
                    have hx := hF3.out.eq hq1.1 hpa hpb (by rw [hz3.out]; omega) hB3.out hq1.2
                    have K := parteq_any (a := a') (b := b') hA5 (by omega) hpa hpb hn
                    clear hA5 hF3 hB3 hq hq1 IH'
                    generalize Sort.partitionEqual Sort.ltInt d3 a' b' pv = R at *
                    obtain ⟨mid, d4⟩ := R
                    obtain ⟨m1, m2, hBn, hFn⟩ := hx
                    replace hBn := Lib.hid hBn
                    replace hFn := Lib.hid hFn
                    dsimp only at m1 m2 hBn hFn K
                    go_wp2_with (go_at_call 45; (with_reducible refine K.mono ?_); rintro e w6 ⟨rfl, hA6⟩; replace hA6 := Lib.hid hA6)
                    go_roundw
                    case rel => exact ⟨mid, b', l2, wb, wp, d4, by omega, m2, hb', hl2, rfl, rfl, rfl, rfl, rfl, hA6, hBn, hFn⟩
                    case measure => first | (simp [intOf]; done) | (simp [intOf]; omega)
theorem pdq_all {w0 : World} {g n c : Nat} (hn : n ≤ 4096) : ∀ m, Pdq w0 g n c m
  | 0 => fun _ _ _ _ _ h => absurd h (Nat.not_lt_zero _)
  | m + 1 => pdq_step m hn (pdq_all hn m)
end Go.Proofs.YtgpapbpkcggolaaDoor
