/- Sensor: the sort's less and insertion sort, walked at small numbers. -/
import Derived.Test.YtgpapbpkcggolaaDoorSrt0
import Derived.Test.YtgpapbpkcggolaaDoorMem4
import Derived.Test.YtgpapbpkcggolaaDoorProg
import Derived.WalkKit
import Derived.WalkLawsBesides
import Derived.WalkSpells
import Derived.Lib.Hide
import Derived.Handy
import Derived.Deep.QuietTactic
import Derived.BigQuiet
import Derived.Deep.Cut
import Derived.Deep.CutBlock
import Derived.Laws.Externs
import Derived.Laws.EntriesVeiled
import Derived.Laws.ResultCell
import Derived.Deep.RegionHeld3
import Derived.Deep.MidRow
namespace Go.Proofs.YtgpapbpkcggolaaDoor
open Go.RowKit Go.BigFrame

theorem nan8_any (x : Int) (w : World) : Calls Tryd.prog 54 #[.int .i8 x] w fun e w' => e = .returned (.bool false) ∧ w = w' := by
  have h : (x != x) = false := by simp
  go_enter Tryd.func54, Tryd.ntmps54
  go_wp2
  go_ret
  exact ⟨rfl, rfl⟩
theorem less_any (x y : Int) (w : World) : Calls Tryd.prog 44 #[.int .i8 x, .int .i8 y] w fun e w' => e = .returned (.bool (decide (x < y))) ∧ w = w' := by
  go_enter Tryd.func44, Tryd.ntmps44
  go_wp2_with (go_at_call 54; refine (nan8_any _ _).mono ?_; rintro e w' ⟨rfl, rfl⟩)
  go_ret
  exact ⟨rfl, rfl⟩
theorem ins_stop {a j : Nat} {d : Array Int} (h : ¬ (a < j ∧ d[j]! < d[j - 1]!)) : Sort.insInner Sort.ltInt a j d = d := by
  cases j with
  | zero => rfl
  | succ j =>
    rw [Sort.insInner, if_neg]
    simpa [Sort.ltInt] using h
theorem ins_go {a j : Nat} {d : Array Int} (h1 : a < j) (h2 : d[j]! < d[j - 1]!) : Sort.insInner Sort.ltInt a j d = Sort.insInner Sort.ltInt a (j - 1) (Sort.swp d j (j - 1)) := by
  cases j with
  | zero => omega
  | succ j =>
    rw [Sort.insInner, if_pos]
    · rfl
    · simp only [Nat.add_sub_cancel] at h2
      simpa [Sort.ltInt, h2] using h1
set_option maxHeartbeats 2000000 in
set_option maxRecDepth 100000 in
theorem ins_any {w0 w : World} {g n c a b : Nat} {d : Array Int} (h : Ar w0 w 35 g n c d) (hb : b ≤ n) (hab : a ≤ b) (hn : n ≤ 4096) :
    Calls Tryd.prog 38 #[.slice (some ⟨g, 0, none⟩) n c, .int .i64 a, .int .i64 b] w fun e w' => e = .returned (.tuple #[]) ∧ Ar w0 w' 35 g n c (Sort.insertionSort Sort.ltInt d a b) := by
  have h' := Lib.hid h
  clear h
  go_enter Tryd.func38, Tryd.ntmps38
  go_upto_region 1 with fail
  go_loopw [6, 7] (fun s6 _ wr => ∃ (i : Nat) (dk : Array Int), i ≤ b + 1 ∧ s6 = .int .i64 i ∧ Hid (Ar w0 wr 35 g n c dk) ∧ Hid (Sort.insOuter Sort.ltInt a b i dk = Sort.insertionSort Sort.ltInt d a b)) (fun s6 _ _ => b - (intOf s6).toNat)
  case atStart => exact ⟨a + 1, d, by omega, by go_num, h', Lib.hid rfl⟩
  case round =>
    obtain ⟨i, dk, hi, rfl, hA, hE⟩ := hrel
    obtain ⟨wk, rfl⟩ : ∃ x : World, x = wr := ⟨_, rfl⟩
    by_cases hib : i < b
    · have hE' : Hid (Sort.insOuter Sort.ltInt a b (i + 1) (Sort.insInner Sort.ltInt a i dk) = Sort.insertionSort Sort.ltInt d a b) := Lib.hid (by rw [← hE.out]; conv => rhs; rw [Sort.insOuter, if_pos hib])
      clear hE
      go_upto_region 4 with fail
      go_loopw [7] (fun s7 wr => ∃ (j : Nat) (dj : Array Int), j ≤ i ∧ s7 = .int .i64 j ∧ Hid (Ar w0 wr 35 g n c dj) ∧ Hid (Sort.insInner Sort.ltInt a j dj = Sort.insInner Sort.ltInt a i dk)) (fun s7 _ => (intOf s7).toNat)
      case atStart => exact ⟨i, dk, by omega, rfl, hA, Lib.hid rfl⟩
      case round =>
        clear hA h'
        obtain ⟨j, dj, hj, rfl, hA, hI⟩ := hrel
        obtain ⟨wo, rfl⟩ : ∃ x : World, x = wr := ⟨_, rfl⟩
        by_cases haj : a < j
        · obtain ⟨q, rfl⟩ : ∃ q, j = q + 1 := ⟨j - 1, by omega⟩
          have c0 := (hA.out.cell (k := q + 1) (by omega)).1
          have c1 := (hA.out.cell (k := q) (by omega)).1
          have f0 := (hA.out.cell (k := q + 1) (by omega)).2
          have f1 := (hA.out.cell (k := q) (by omega)).2
          have hsw := Lib.hid fun m => (hA.out.drewN m).swp (i := q + 1) (j := q) (by omega) (by omega)
          have hst := Lib.hid (ins_stop (a := a) (j := q + 1) (d := dj))
          have hgo := Lib.hid (ins_go (a := a) (j := q + 1) (d := dj) haj)
          simp only [Nat.add_sub_cancel] at hst hgo
          generalize dj[q + 1]! = x at *
          generalize dj[q]! = y at *
          have hq := Lib.hid (And.intro hj hib)
          have L := fun W => less_any x y W
          by_cases hxy : x < y
          · replace hgo := Lib.hid (hgo.out hxy)
            clear hst
            go_upto_region 4 with fail
            have g1 : (a : Int) < (q : Int) + 1 := by omega
            go_big_quiet ((go_at_call 44; (with_reducible exact quiet_same (L _))))
            go_upto_region 6 with fail
            go_region
            all_goals go_wp2
            go_roundw
            case rel => exact ⟨q, Sort.swp dj (q + 1) q, by have := hq.out; omega, by go_num, Lib.hid (hsw.out _), Lib.hid (by rw [← hI.out]; exact hgo.out.symm)⟩
            case measure => first | (simp [intOf]; done) | (simp [intOf]; omega)
          · replace hst := hst.out (fun q => hxy q.2)
            have hI' : Hid (dj = Sort.insInner Sort.ltInt a i dk) := Lib.hid (by rw [← hI.out]; exact hst.symm)
            clear hst hgo hsw hI
            go_upto_region 4 with fail
            have g1 : (a : Int) < (q : Int) + 1 := by omega
            go_big_quiet ((go_at_call 44; (with_reducible exact quiet_same (L _))))
            go_wp2
            go_roundw
            case rel => exact ⟨i + 1, dj, by omega, by go_num, Lib.hid (hA.out.drewN _), Lib.hid (by rw [hI'.out]; exact hE'.out)⟩
            case measure => first | (simp [intOf]; done) | (simp [intOf]; omega)
        · have hst := ins_stop (a := a) (j := j) (d := dj) (fun q => haj q.1)
          have hI' : Hid (dj = Sort.insInner Sort.ltInt a i dk) := Lib.hid (by rw [← hI.out]; exact hst.symm)
          clear hst hI
          go_upto_region 4 with fail
          have g1 : ¬ (a : Int) < (j : Int) := by omega
          go_big_quiet (fail)
          go_wp2
          go_roundw
          case rel => exact ⟨i + 1, dj, by omega, by go_num, Lib.hid (hA.out.drewN _), Lib.hid (by rw [hI'.out]; exact hE'.out)⟩
          case measure => first | (simp [intOf]; done) | (simp [intOf]; omega)
    · have hE' : dk = Sort.insertionSort Sort.ltInt d a b := by rw [← hE.out, Sort.insOuter, if_neg hib]
      clear hE h'
      subst hE'
      go_wp2
      go_end0
      exact ⟨rfl, hA.out⟩
end Go.Proofs.YtgpapbpkcggolaaDoor
