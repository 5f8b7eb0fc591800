/- Sensor: the sort's partitionEqual, walked at small numbers. -/
import Derived.Test.YtgpapbpkcggolaaDoorSrt1
namespace Go.Proofs.YtgpapbpkcggolaaDoor
open Go.RowKit Go.BigFrame

theorem up_stop {p : Int → Bool} {d : Array Int} {i j : Nat} (h : ¬ (i ≤ j ∧ p d[i]! = true)) : Sort.scanUp p d j i = i := by
  rw [Sort.scanUp, if_neg (by simpa using h)]
theorem up_go {p : Int → Bool} {d : Array Int} {i j : Nat} (h : i ≤ j) (h1 : p d[i]! = true) : Sort.scanUp p d j i = Sort.scanUp p d j (i + 1) := by
  rw [Sort.scanUp, if_pos (by simp [h, h1])]
theorem down_stop {p : Int → Bool} {d : Array Int} {i j : Nat} (h : ¬ (i ≤ j ∧ p d[j]! = true)) : Sort.scanDown p d i j = j := by
  cases j with
  | zero => rfl
  | succ j => rw [Sort.scanDown, if_neg (by simpa using h)]
theorem down_go {p : Int → Bool} {d : Array Int} {i j : Nat} (h0 : 1 ≤ i) (h : i ≤ j) (h1 : p d[j]! = true) : Sort.scanDown p d i j = Sort.scanDown p d i (j - 1) := by
  cases j with
  | zero => omega
  | succ j => rw [Sort.scanDown, if_pos (by simp [h, h1])]; rfl
set_option maxHeartbeats 4000000 in
set_option maxRecDepth 100000 in
theorem parteq_any {w0 w : World} {g n c a b p : Nat} {d : Array Int} (h : Ar w0 w 35 g n c d) (hb : b ≤ n) (hap : a ≤ p) (hpb : p < b) (hn : n ≤ 4096) :
    Calls Tryd.prog 45 #[.slice (some ⟨g, 0, none⟩) n c, .int .i64 a, .int .i64 b, .int .i64 p] w fun e w' => e = .returned (.int .i64 ((Sort.partitionEqual Sort.ltInt d a b p).1 : Nat)) ∧ Ar w0 w' 35 g n c (Sort.partitionEqual Sort.ltInt d a b p).2 := by
  obtain ⟨q, hq⟩ : ∃ q, q = b - 1 := ⟨_, rfl⟩
  have eq1 : (b : Int) - 1 = (q : Int) := by omega
  have hqn : q < n := by omega
  have han : a < n := by omega
  have hpn : p < n := by omega
  have haq : a ≤ q := by omega
  have hE0 : Hid (Sort.partitionEqual Sort.ltInt d a b p = Sort.partEqLoop Sort.ltInt a (a + 1) q (Sort.swp d a p)) := Lib.hid (by rw [hq]; rfl)
  replace hq := Lib.hid hq
  rw [hE0.out]
  clear hE0
  have cx := (h.cell (k := a) (by omega)).1
  have fx := (h.cell (k := a) (by omega)).2
  have cy := (h.cell (k := p) (by omega)).1
  have fy := (h.cell (k := p) (by omega)).2
  have hsw := Lib.hid (h.swpD (i := a) (j := p) (by omega) (by omega))
  clear h
  generalize Sort.swp d a p = d1 at *
  go_enter Tryd.func45, Tryd.ntmps45
  go_upto_region 1 with fail
  go_cut [] from 11 to 25 (fun wx => Ar w0 wx 35 g n c d1)
  case first =>
    by_cases hz : p = a
    · have hz2 := hz.symm
      subst hz2
      clear cy fy hz
      generalize d[a]! = vx at *
      go_region
      all_goals go_wp2
      all_goals go_meet
      all_goals (case rel => exact hsw.out)
    · have hz2 : a < p := by omega
      generalize d[a]! = vx at *
      generalize d[p]! = vy at *
      go_region
      all_goals go_wp2
      all_goals go_meet
      all_goals (case rel => exact hsw.out)
  case rest =>
    clear cx fx cy fy hsw
    have hA1 := Lib.hid hcut
    clear hcut
    go_upto_block 0 with fail
    go_wp2_with fail
    go_loopw [9, 10] (fun s9 s10 wr => ∃ (i j : Nat) (dk : Array Int), a < i ∧ i ≤ j + 1 ∧ j < b ∧ s9 = .int .i64 i ∧ s10 = .int .i64 j ∧ Hid (Ar w0 wr 35 g n c dk) ∧ Hid (Sort.partEqLoop Sort.ltInt a i j dk = Sort.partEqLoop Sort.ltInt a (a + 1) q d1)) (fun s9 s10 _ => (intOf s10 + 1 - intOf s9).toNat)
    case atStart => exact ⟨a + 1, q, d1, by omega, by omega, by have := hq.out; omega, by go_num, by first | rfl | go_num, hA1, Lib.hid rfl⟩
    case round =>
      clear hA1
      obtain ⟨i, j, dk, hai, hij, hjb, rfl, rfl, hA, hE⟩ := hrel
      obtain ⟨wk, rfl⟩ : ∃ x : World, x = wr := ⟨_, rfl⟩
      obtain ⟨I2, hI2⟩ : ∃ I2 : Nat, I2 = Sort.scanUp (fun x => !Sort.ltInt dk[a]! x) dk j i := ⟨_, rfl⟩
      have su := Sort.scanUp_spec (fun x => !Sort.ltInt dk[a]! x) dk j _ i rfl
      rw [← hI2] at su
      obtain ⟨J2, hJ2⟩ : ∃ J2 : Nat, J2 = Sort.scanDown (fun x => Sort.ltInt dk[a]! x) dk I2 j := ⟨_, rfl⟩
      have sd := Sort.scanDown_spec (fun x => Sort.ltInt dk[a]! x) dk I2 j
      rw [← hJ2] at sd
      have hL := Sort.partEqLoop_eq Sort.ltInt a i j dk
      rw [← hI2, ← hJ2] at hL
      replace hL := Lib.hid hL
      replace hI2 := Lib.hid hI2
      replace hJ2 := Lib.hid hJ2
      have s1 := su.1
      have s2 := su.2.1 hij
      have s3 := Lib.hid su.2.2.2
      have s4 := sd.1
      have s5 := sd.2.1 s2
      have s6 := Lib.hid sd.2.2.2
      clear su sd
      go_upto_block 2 with fail
      go_cut [9] from 29 to 45 (fun s9 wx => s9 = .int .i64 (I2 : Nat) ∧ Ar w0 wx 35 g n c dk)
      case first =>
        go_wp2_with fail
        go_loopw [9] (fun s9 wr => ∃ i2 : Nat, i ≤ i2 ∧ i2 ≤ j + 1 ∧ s9 = .int .i64 i2 ∧ Hid (Ar w0 wr 35 g n c dk) ∧ Hid (Sort.scanUp (fun x => !Sort.ltInt dk[a]! x) dk j i2 = Sort.scanUp (fun x => !Sort.ltInt dk[a]! x) dk j i)) (fun s9 _ => j + 1 - (intOf s9).toNat)
        case atStart => exact ⟨i, by omega, by omega, by first | rfl | go_num, hA, Lib.hid rfl⟩
        case round =>
          clear hA
          obtain ⟨i2, hi1, hi2, rfl, hA, hS⟩ := hrel
          obtain ⟨w1, rfl⟩ : ∃ x : World, x = wr := ⟨_, rfl⟩
          have ca := (hA.out.cell (k := a) (by omega)).1
          have L := fun (x y : Int) (W : World) => less_any x y W
          by_cases hij : i2 ≤ j
          · have ci := (hA.out.cell (k := i2) (by omega)).1
            have hin : i2 < n := by omega
            by_cases hp : dk[a]! < dk[i2]!
            · have hS' : Hid (i2 = I2) := Lib.hid (by rw [hI2.out, ← hS.out, up_stop (fun q => by have := q.2; simp [Sort.ltInt] at this; omega)])
              clear hS
              generalize dk[i2]! = vi at *
              generalize dk[a]! = va at *
              go_upto_region 3 with fail
              have g1 : (i2 : Int) ≤ (j : Int) := by omega
              go_big_quiet ((go_at_call 44; (with_reducible exact quiet_same (L _ _ _))))
              go_wp2
              go_meet
              case rel => exact ⟨by rw [hS'.out], hA.out.drewN _⟩
            · have hS' : Hid (Sort.scanUp (fun x => !Sort.ltInt dk[a]! x) dk j (i2 + 1) = Sort.scanUp (fun x => !Sort.ltInt dk[a]! x) dk j i) := Lib.hid (by rw [← hS.out, up_go hij (by simp [Sort.ltInt] <;> omega)])
              clear hS
              generalize dk[i2]! = vi at *
              generalize dk[a]! = va at *
              go_upto_region 3 with fail
              have g1 : (i2 : Int) ≤ (j : Int) := by omega
              go_big_quiet ((go_at_call 44; (with_reducible exact quiet_same (L _ _ _))))
              go_wp2
              go_roundw
              case rel => exact ⟨i2 + 1, by omega, by omega, by go_num, Lib.hid (hA.out.drewN _), hS'⟩
              case measure => first | (simp [intOf]; done) | (simp [intOf]; omega)
          · have hS' : Hid (i2 = I2) := Lib.hid (by rw [hI2.out, ← hS.out, up_stop (fun q => hij q.1)])
            clear hS ca L
            go_upto_region 3 with fail
            have g1 : ¬ (i2 : Int) ≤ (j : Int) := by omega
            go_big_quiet (fail)
            go_wp2
            go_meet
            case rel => exact ⟨by rw [hS'.out], hA.out.drewN _⟩
      case rest =>
        obtain ⟨rfl, hA2⟩ := hcut
        obtain ⟨wu, rfl⟩ : ∃ x : World, x = wc := ⟨_, rfl⟩
        clear hA
        have hA := Lib.hid hA2
        clear hA2
        go_upto_block 4 with fail
        go_cut [10] from 46 to 61 (fun s9 wx => s9 = .int .i64 (J2 : Nat) ∧ Ar w0 wx 35 g n c dk)
        case first =>
          go_wp2_with fail
          go_loopw [10] (fun s9 wr => ∃ j2 : Nat, j2 ≤ j ∧ I2 ≤ j2 + 1 ∧ s9 = .int .i64 j2 ∧ Hid (Ar w0 wr 35 g n c dk) ∧ Hid (Sort.scanDown (fun x => Sort.ltInt dk[a]! x) dk I2 j2 = Sort.scanDown (fun x => Sort.ltInt dk[a]! x) dk I2 j)) (fun s9 _ => (intOf s9).toNat)
          case atStart => exact ⟨j, by omega, by omega, by first | rfl | go_num, hA, Lib.hid rfl⟩
          case round =>
            clear hA
            obtain ⟨j2, hj1, hj2, rfl, hA, hS⟩ := hrel
            obtain ⟨w1, rfl⟩ : ∃ x : World, x = wr := ⟨_, rfl⟩
            have ca := (hA.out.cell (k := a) (by omega)).1
            have L := fun (x y : Int) (W : World) => less_any x y W
            by_cases hij : I2 ≤ j2
            · have ci := (hA.out.cell (k := j2) (by omega)).1
              have hjn : j2 < n := by omega
              by_cases hp : dk[a]! < dk[j2]!
              · have hS' : Hid (Sort.scanDown (fun x => Sort.ltInt dk[a]! x) dk I2 (j2 - 1) = Sort.scanDown (fun x => Sort.ltInt dk[a]! x) dk I2 j) := Lib.hid (by rw [← hS.out, down_go (by omega) hij (by simp [Sort.ltInt] <;> omega)])
                have hj1 : j2 - 1 ≤ j := by omega
                have hj3 : I2 ≤ (j2 - 1) + 1 := by omega
                have ej : (j2 : Int) - 1 = ((j2 - 1 : Nat) : Int) := by omega
                have hjm := Lib.hid (show j2 - 1 < j2 by omega)
                clear hS
                generalize dk[j2]! = vi at *
                generalize dk[a]! = va at *
                generalize j2 - 1 = j3 at *
                go_upto_region 5 with fail
                have g1 : (I2 : Int) ≤ (j2 : Int) := by omega
                go_big_quiet ((go_at_call 44; (with_reducible exact quiet_same (L _ _ _))))
                go_wp2
                go_roundw
                case rel => exact ⟨j3, hj1, hj3, by first | rfl | (rw [ej]) | go_num, Lib.hid (hA.out.drewN _), hS'⟩
                case measure => (have := hjm.out; first | (simp [intOf]; done) | (simp [intOf]; omega))
              · have hS' : Hid (j2 = J2) := Lib.hid (by rw [hJ2.out, ← hS.out, down_stop (fun q => by have := q.2; simp [Sort.ltInt] at this; omega)])
                clear hS
                generalize dk[j2]! = vi at *
                generalize dk[a]! = va at *
                go_upto_region 5 with fail
                have g1 : (I2 : Int) ≤ (j2 : Int) := by omega
                go_big_quiet ((go_at_call 44; (with_reducible exact quiet_same (L _ _ _))))
                go_wp2
                go_meet
                case rel => exact ⟨by rw [hS'.out], hA.out.drewN _⟩
            · have hS' : Hid (j2 = J2) := Lib.hid (by rw [hJ2.out, ← hS.out, down_stop (fun q => hij q.1)])
              clear hS ca L
              go_upto_region 5 with fail
              have g1 : ¬ (I2 : Int) ≤ (j2 : Int) := by omega
              go_big_quiet (fail)
              go_wp2
              go_meet
              case rel => exact ⟨by rw [hS'.out], hA.out.drewN _⟩
        case rest =>
          obtain ⟨rfl, hA2⟩ := hcut
          obtain ⟨wu, rfl⟩ : ∃ x : World, x = wc := ⟨_, rfl⟩
          clear hA
          have hA := Lib.hid hA2
          clear hA2
          by_cases hgt : J2 < I2
          · have hR : Hid (Sort.partEqLoop Sort.ltInt a (a + 1) q d1 = (I2, dk)) := Lib.hid (by rw [← hE.out, hL.out, if_pos hgt])
            go_wp2
            go_ret
            rw [hR.out]
            exact ⟨rfl, hA.out⟩
          · have hne : I2 < J2 := by
              have t1 := s3.out (by omega)
              have t2 := s6.out (by omega) (by omega)
              rcases Nat.lt_or_ge I2 J2 with e | e
              · exact e
              · have : I2 = J2 := by omega
                subst this
                rw [t2] at t1
                cases t1
            have hE' : Hid (Sort.partEqLoop Sort.ltInt a (I2 + 1) (J2 - 1) (Sort.swp dk I2 J2) = Sort.partEqLoop Sort.ltInt a (a + 1) q d1) := Lib.hid (by rw [← hE.out, hL.out, if_neg hgt])
            have cx := (hA.out.cell (k := I2) (by omega)).1
            have fx := (hA.out.cell (k := I2) (by omega)).2
            have cy := (hA.out.cell (k := J2) (by omega)).1
            have fy := (hA.out.cell (k := J2) (by omega)).2
            have hsw := Lib.hid (hA.out.swpD (i := I2) (j := J2) (by omega) (by omega))
            have ej : (J2 : Int) - 1 = ((J2 - 1 : Nat) : Int) := by omega
            have hx1 : I2 < n := by omega
            have hy1 : J2 < n := by omega
            have k1 : a < I2 + 1 := by omega
            have k2 : I2 + 1 ≤ (J2 - 1) + 1 := by omega
            have k3 : J2 - 1 < b := by omega
            have k4 := Lib.hid (show J2 - 1 + 1 - (I2 + 1) < j + 1 - i by omega)
            clear hE hL hI2 hJ2 s3 s6
            generalize J2 - 1 = J3 at *
            generalize dk[I2]! = vx at *
            generalize dk[J2]! = vy at *
            go_upto_region 8 with fail
            go_region
            all_goals go_wp2
            go_roundw
            case rel => exact ⟨I2 + 1, J3, _, k1, k2, k3, by go_num, by first | rfl | (rw [ej]) | go_num, hsw, hE'⟩
            case measure => (have := k4.out; first | (simp [intOf]; done) | (simp [intOf]; omega))
end Go.Proofs.YtgpapbpkcggolaaDoor
