/- Sensor: the sort's partition, walked at small numbers. -/
import Derived.Test.YtgpapbpkcggolaaDoorSrt5
namespace Go.Proofs.YtgpapbpkcggolaaDoor
open Go.RowKit Go.BigFrame

theorem part_eq (d : Array Int) (a b p I2 J2 q i : Nat) (dk : Array Int) (hd : dk = Sort.swp d a p) (hq : q = b - 1) (hi : i = a + 1) (h1 : I2 = Sort.scanUp (fun x => Sort.ltInt x dk[a]!) dk q i) (h2 : J2 = Sort.scanDown (fun x => !Sort.ltInt x dk[a]!) dk I2 q) :
    Sort.partition Sort.ltInt d a b p = if I2 > J2 then (J2, true, Sort.swp dk J2 a) else ((Sort.partLoop Sort.ltInt a (I2 + 1) (J2 - 1) (Sort.swp dk I2 J2)).1, false, Sort.swp (Sort.partLoop Sort.ltInt a (I2 + 1) (J2 - 1) (Sort.swp dk I2 J2)).2 (Sort.partLoop Sort.ltInt a (I2 + 1) (J2 - 1) (Sort.swp dk I2 J2)).1 a) := by
  subst hd hq hi h1 h2
  rfl
set_option maxHeartbeats 8000000 in
set_option maxRecDepth 100000 in
theorem part_any {w0 w : World} {g n c a b p : Nat} {d : Array Int} (h : Ar w0 w 35 g n c d) (hb : b ≤ n) (hap : a ≤ p) (hpb : p < b) (hab : a + 1 < b) (hn : n ≤ 4096) :
    Calls Tryd.prog 46 #[.slice (some ⟨g, 0, none⟩) n c, .int .i64 a, .int .i64 b, .int .i64 p] w fun e w' => e = .returned (.tuple #[.int .i64 ((Sort.partition Sort.ltInt d a b p).1 : Nat), .bool (Sort.partition Sort.ltInt d a b p).2.1]) ∧ Ar w0 w' 35 g n c (Sort.partition Sort.ltInt d a b p).2.2 := by
  obtain ⟨j, hq⟩ : ∃ q, q = b - 1 := ⟨_, rfl⟩
  obtain ⟨i, hi⟩ : ∃ q, q = a + 1 := ⟨_, rfl⟩
  have eq1 : (b : Int) - 1 = (j : Int) := by omega
  have ei1 : (a : Int) + 1 = (i : Int) := by omega
  have hjb : j < b := by omega
  have han : a < n := by omega
  have hpn : p < n := by omega
  have hai : a < i := by omega
  have hij : i ≤ j + 1 := by omega
  have cx := (h.cell (k := a) (by omega)).1
  have fx := (h.cell (k := a) (by omega)).2
  have cy := (h.cell (k := p) (by omega)).1
  have fy := (h.cell (k := p) (by omega)).2
  have hsw := Lib.hid (h.swpD (i := a) (j := p) (by omega) (by omega))
  obtain ⟨dk, hdk⟩ : ∃ dk, dk = Sort.swp d a p := ⟨_, rfl⟩
  rw [← hdk] at hsw
  obtain ⟨I2, hI2⟩ : ∃ I2 : Nat, I2 = Sort.scanUp (fun x => Sort.ltInt x dk[a]!) dk j i := ⟨_, rfl⟩
  have su := Sort.scanUp_spec (fun x => Sort.ltInt x dk[a]!) dk j _ i rfl
  rw [← hI2] at su
  obtain ⟨J2, hJ2⟩ : ∃ J2 : Nat, J2 = Sort.scanDown (fun x => !Sort.ltInt x dk[a]!) dk I2 j := ⟨_, rfl⟩
  have sd := Sort.scanDown_spec (fun x => !Sort.ltInt x dk[a]!) dk I2 j
  rw [← hJ2] at sd
  have hE0 := part_eq d a b p I2 J2 j i dk hdk hq hi hI2 hJ2
  rw [hE0]
  clear hE0 h
  replace hq := Lib.hid hq
  replace hi := Lib.hid hi
  replace hI2 := Lib.hid hI2
  replace hJ2 := Lib.hid hJ2
  have s1 := su.1
  have s2 := su.2.1 hij
  have s3 := Lib.hid su.2.2.2
  have s4 := sd.1
  have s5 := sd.2.1 s2
  have s6 := Lib.hid sd.2.2.2
  clear su sd hdk
  obtain ⟨Rr, hRr⟩ : ∃ R, R = (if I2 > J2 then (J2, true, Sort.swp dk J2 a) else ((Sort.partLoop Sort.ltInt a (I2 + 1) (J2 - 1) (Sort.swp dk I2 J2)).1, false, Sort.swp (Sort.partLoop Sort.ltInt a (I2 + 1) (J2 - 1) (Sort.swp dk I2 J2)).2 (Sort.partLoop Sort.ltInt a (I2 + 1) (J2 - 1) (Sort.swp dk I2 J2)).1 a)) := ⟨_, rfl⟩
  rw [← hRr]
  replace hRr := Lib.hid hRr
  go_enter Tryd.func46, Tryd.ntmps46
  go_upto_region 1 with fail
  go_cut [] from 12 to 25 (fun wx => Ar w0 wx 35 g n c dk)
  case first =>
    by_cases hz : p = a
    · have hz2 := hz.symm
      subst hz2
      clear cy fy hz
      generalize d[a]! = vx at *
      go_region
      all_goals go_wp2
      all_goals go_meet
      all_goals (case rel => exact hsw.out)
    · have hz2 : a < p := by omega
      generalize d[a]! = vx at *
      generalize d[p]! = vy at *
      go_region
      all_goals go_wp2
      all_goals go_meet
      all_goals (case rel => exact hsw.out)
  case rest =>
    clear cx fx cy fy hsw
    have hA := Lib.hid hcut
    clear hcut
    go_upto_block 0 with fail
    go_cut [10] from 30 to 44 (fun s9 wx => s9 = .int .i64 (I2 : Nat) ∧ Ar w0 wx 35 g n c dk)
    case first =>
      go_wp2_with fail
      go_loopw [10] (fun s9 wr => ∃ i2 : Nat, i ≤ i2 ∧ i2 ≤ j + 1 ∧ s9 = .int .i64 i2 ∧ Hid (Ar w0 wr 35 g n c dk) ∧ Hid (Sort.scanUp (fun x => Sort.ltInt x dk[a]!) dk j i2 = Sort.scanUp (fun x => Sort.ltInt x dk[a]!) dk j i)) (fun s9 _ => j + 1 - (intOf s9).toNat)
      case atStart => exact ⟨i, by omega, by omega, by first | rfl | go_num, hA, Lib.hid rfl⟩
      case round =>
        clear hA
        obtain ⟨i2, hi1, hi2, rfl, hA, hS⟩ := hrel
        obtain ⟨w1, rfl⟩ : ∃ x : World, x = wr := ⟨_, rfl⟩
        have ca := (hA.out.cell (k := a) (by omega)).1
        have L := fun (x y : Int) (W : World) => less_any x y W
        by_cases hij : i2 ≤ j
        · have ci := (hA.out.cell (k := i2) (by omega)).1
          have hin : i2 < n := by omega
          by_cases hp : dk[i2]! < dk[a]!
          · have hS' : Hid (Sort.scanUp (fun x => Sort.ltInt x dk[a]!) dk j (i2 + 1) = Sort.scanUp (fun x => Sort.ltInt x dk[a]!) dk j i) := Lib.hid (by rw [← hS.out, up_go hij (by simp [Sort.ltInt] <;> omega)])
            clear hS
            generalize dk[i2]! = vi at *
            generalize dk[a]! = va at *
            go_upto_region 3 with fail
            have g1 : (i2 : Int) ≤ (j : Int) := by omega
            go_big_quiet ((go_at_call 44; (with_reducible exact quiet_same (L _ _ _))))
            go_wp2
            go_roundw
            case rel => exact ⟨i2 + 1, by omega, by omega, by go_num, Lib.hid (hA.out.drewN _), hS'⟩
            case measure => first | (simp [intOf]; done) | (simp [intOf]; omega)
          · have hS' : Hid (i2 = I2) := Lib.hid (by rw [hI2.out, ← hS.out, up_stop (fun q => by have := q.2; simp [Sort.ltInt] at this; omega)])
            clear hS
            generalize dk[i2]! = vi at *
            generalize dk[a]! = va at *
            go_upto_region 3 with fail
            have g1 : (i2 : Int) ≤ (j : Int) := by omega
            go_big_quiet ((go_at_call 44; (with_reducible exact quiet_same (L _ _ _))))
            go_wp2
            go_meet
            case rel => exact ⟨by rw [hS'.out], hA.out.drewN _⟩
        · have hS' : Hid (i2 = I2) := Lib.hid (by rw [hI2.out, ← hS.out, up_stop (fun q => hij q.1)])
          clear hS ca L
          go_upto_region 3 with fail
          have g1 : ¬ (i2 : Int) ≤ (j : Int) := by omega
          go_big_quiet (fail)
          go_wp2
          go_meet
          case rel => exact ⟨by rw [hS'.out], hA.out.drewN _⟩
    case rest =>
      obtain ⟨rfl, hA2⟩ := hcut
      obtain ⟨wu, rfl⟩ : ∃ x : World, x = wc := ⟨_, rfl⟩
      clear hA
      have hA := Lib.hid hA2
      clear hA2
      go_upto_block 2 with fail
      go_cut [11] from 46 to 61 (fun s9 wx => s9 = .int .i64 (J2 : Nat) ∧ Ar w0 wx 35 g n c dk)
      case first =>
        go_wp2_with fail
        go_loopw [11] (fun s9 wr => ∃ j2 : Nat, j2 ≤ j ∧ I2 ≤ j2 + 1 ∧ s9 = .int .i64 j2 ∧ Hid (Ar w0 wr 35 g n c dk) ∧ Hid (Sort.scanDown (fun x => !Sort.ltInt x dk[a]!) dk I2 j2 = Sort.scanDown (fun x => !Sort.ltInt x dk[a]!) dk I2 j)) (fun s9 _ => (intOf s9).toNat)
        case atStart => exact ⟨j, by omega, by omega, by first | rfl | go_num, hA, Lib.hid rfl⟩
        case round =>
          clear hA
          obtain ⟨j2, hj1, hj2, rfl, hA, hS⟩ := hrel
          obtain ⟨w1, rfl⟩ : ∃ x : World, x = wr := ⟨_, rfl⟩
          have ca := (hA.out.cell (k := a) (by omega)).1
          have L := fun (x y : Int) (W : World) => less_any x y W
          by_cases hij : I2 ≤ j2
          · have ci := (hA.out.cell (k := j2) (by omega)).1
            have hjn : j2 < n := by omega
            by_cases hp : dk[j2]! < dk[a]!
            · have hS' : Hid (j2 = J2) := Lib.hid (by rw [hJ2.out, ← hS.out, down_stop (fun q => by have := q.2; simp [Sort.ltInt] at this; omega)])
              clear hS
              generalize dk[j2]! = vi at *
              generalize dk[a]! = va at *
              go_upto_region 5 with fail
              have g1 : (I2 : Int) ≤ (j2 : Int) := by omega
              go_big_quiet ((go_at_call 44; (with_reducible exact quiet_same (L _ _ _))))
              go_wp2
              go_meet
              case rel => exact ⟨by rw [hS'.out], hA.out.drewN _⟩
            · have hS' : Hid (Sort.scanDown (fun x => !Sort.ltInt x dk[a]!) dk I2 (j2 - 1) = Sort.scanDown (fun x => !Sort.ltInt x dk[a]!) dk I2 j) := Lib.hid (by rw [← hS.out, down_go (by omega) hij (by simp [Sort.ltInt] <;> omega)])
              have hj1 : j2 - 1 ≤ j := by omega
              have hj3 : I2 ≤ (j2 - 1) + 1 := by omega
              have ej : (j2 : Int) - 1 = ((j2 - 1 : Nat) : Int) := by omega
              have hjm := Lib.hid (show j2 - 1 < j2 by omega)
              clear hS
              generalize dk[j2]! = vi at *
              generalize dk[a]! = va at *
              generalize j2 - 1 = j3 at *
              go_upto_region 5 with fail
              have g1 : (I2 : Int) ≤ (j2 : Int) := by omega
              go_big_quiet ((go_at_call 44; (with_reducible exact quiet_same (L _ _ _))))
              go_wp2
              go_roundw
              case rel => exact ⟨j3, hj1, hj3, by first | rfl | (rw [ej]) | go_num, Lib.hid (hA.out.drewN _), hS'⟩
              case measure => (have := hjm.out; first | (simp [intOf]; done) | (simp [intOf]; omega))
          · have hS' : Hid (j2 = J2) := Lib.hid (by rw [hJ2.out, ← hS.out, down_stop (fun q => hij q.1)])
            clear hS ca L
            go_upto_region 5 with fail
            have g1 : ¬ (I2 : Int) ≤ (j2 : Int) := by omega
            go_big_quiet (fail)
            go_wp2
            go_meet
            case rel => exact ⟨by rw [hS'.out], hA.out.drewN _⟩
      case rest =>
        obtain ⟨rfl, hA2⟩ := hcut
        obtain ⟨wu, rfl⟩ : ∃ x : World, x = wc := ⟨_, rfl⟩
        clear hA
        have hA := Lib.hid hA2
        clear hA2
        by_cases hgt : J2 < I2
        · have hR : Hid (Rr = (J2, true, Sort.swp dk J2 a)) := Lib.hid (by rw [hRr.out, if_pos hgt])
          clear hRr
          have cx := (hA.out.cell (k := J2) (by omega)).1
          have fx := (hA.out.cell (k := J2) (by omega)).2
          have cy := (hA.out.cell (k := a) (by omega)).1
          have fy := (hA.out.cell (k := a) (by omega)).2
          have hsw := Lib.hid (hA.out.swpD (i := J2) (j := a) (by omega) (by omega))
          have hjn : J2 < n := by omega
          have hja : a ≤ J2 := by omega
          replace s3 := Lib.hid s3
          by_cases hz : J2 = a
          · rw [hz] at cx fx hsw hR ⊢
            clear cy fy
            clear hz
            generalize dk[a]! = vx at *
            go_upto_region 8 with fail
            go_region
            all_goals go_wp2
            all_goals go_ret2
            all_goals (rw [hR.out]; exact ⟨rfl, hsw.out⟩)
          · have hz2 : a < J2 := by omega
            generalize dk[a]! = vx at *
            generalize dk[J2]! = vy at *
            go_upto_region 8 with fail
            go_region
            all_goals go_wp2
            all_goals go_ret2
            all_goals (rw [hR.out]; exact ⟨rfl, hsw.out⟩)
        · have hne : I2 < J2 := by
            have t1 := s3.out (by omega)
            have t2 := s6.out (by omega) (by omega)
            rcases Nat.lt_or_ge I2 J2 with e | e
            · exact e
            · have : I2 = J2 := by omega
              subst this
              rw [t1] at t2
              cases t2
          have hR : Hid (Rr = ((Sort.partLoop Sort.ltInt a (I2 + 1) (J2 - 1) (Sort.swp dk I2 J2)).1, false, Sort.swp (Sort.partLoop Sort.ltInt a (I2 + 1) (J2 - 1) (Sort.swp dk I2 J2)).2 (Sort.partLoop Sort.ltInt a (I2 + 1) (J2 - 1) (Sort.swp dk I2 J2)).1 a)) := Lib.hid (by rw [hRr.out, if_neg hgt])
          have cx := (hA.out.cell (k := I2) (by omega)).1
          have fx := (hA.out.cell (k := I2) (by omega)).2
          have cy := (hA.out.cell (k := J2) (by omega)).1
          have fy := (hA.out.cell (k := J2) (by omega)).2
          have hsw := Lib.hid (hA.out.swpD (i := I2) (j := J2) (by omega) (by omega))
          have ej : (J2 : Int) - 1 = ((J2 - 1 : Nat) : Int) := by omega
          have ei : (I2 : Int) + 1 = ((I2 + 1 : Nat) : Int) := by omega
          have hx1 : I2 < n := by omega
          have hy1 : J2 < n := by omega
          have k1 : a < I2 + 1 := by omega
          have k2 : I2 + 1 ≤ (J2 - 1) + 1 := by omega
          have k3 : J2 - 1 < b := by omega
          have k5 : J2 - 1 ≤ 4096 := by omega
          have k6 : I2 + 1 ≤ 4097 := by omega
          clear hRr hI2 hJ2 s3 s6
          generalize Sort.swp dk I2 J2 = d1 at *
          generalize J2 - 1 = J3 at *
          generalize I2 + 1 = I3 at *
          generalize dk[I2]! = vx at *
          generalize dk[J2]! = vy at *
          clear hA
          go_upto_region 10 with fail
          go_cut [] from 81 to 94 (fun wx => Ar w0 wx 35 g n c d1)
          case first =>
            go_region
            all_goals go_wp2
            all_goals go_meet
            all_goals (case rel => exact hsw.out)
          case rest =>
            have hA1 := Lib.hid hcut
            obtain ⟨wv, rfl⟩ : ∃ x : World, x = wc := ⟨_, rfl⟩
            clear hcut cx fx cy fy hsw
            go_upto_block 4 with fail
            go_wp2_with fail
            go_loopw [10, 11] (fun s9 s10 wr => ∃ (i j : Nat) (dk : Array Int), a < i ∧ i ≤ j + 1 ∧ j < b ∧ s9 = .int .i64 i ∧ s10 = .int .i64 j ∧ Hid (Ar w0 wr 35 g n c dk) ∧ Hid (Sort.partLoop Sort.ltInt a i j dk = Sort.partLoop Sort.ltInt a I3 J3 d1)) (fun s9 s10 _ => (intOf s10 + 1 - intOf s9).toNat)
            case atStart => exact ⟨I3, J3, d1, k1, k2, k3, by first | rfl | (rw [ei]) | go_num, by first | rfl | (rw [ej]) | go_num, hA1, Lib.hid rfl⟩
            case round =>
              clear hA1
              clear k1 k2 k3 hjb hai hij s1 s2 s4 s5 hgt hne hx1 hy1 ej ei hq hi
              obtain ⟨i, j, dk, hai, hij, hjb, rfl, rfl, hA, hE⟩ := hrel
              obtain ⟨wk, rfl⟩ : ∃ x : World, x = wr := ⟨_, rfl⟩
              obtain ⟨I2, hI2⟩ : ∃ I2 : Nat, I2 = Sort.scanUp (fun x => Sort.ltInt x dk[a]!) dk j i := ⟨_, rfl⟩
              have su := Sort.scanUp_spec (fun x => Sort.ltInt x dk[a]!) dk j _ i rfl
              rw [← hI2] at su
              obtain ⟨J2, hJ2⟩ : ∃ J2 : Nat, J2 = Sort.scanDown (fun x => !Sort.ltInt x dk[a]!) dk I2 j := ⟨_, rfl⟩
              have sd := Sort.scanDown_spec (fun x => !Sort.ltInt x dk[a]!) dk I2 j
              rw [← hJ2] at sd
              have hL := Sort.partLoop_eq Sort.ltInt a i j dk
              rw [← hI2, ← hJ2] at hL
              replace hL := Lib.hid hL
              replace hI2 := Lib.hid hI2
              replace hJ2 := Lib.hid hJ2
              have s1 := su.1
              have s2 := su.2.1 hij
              have s3 := Lib.hid su.2.2.2
              have s4 := sd.1
              have s5 := sd.2.1 s2
              have s6 := Lib.hid sd.2.2.2
              clear su sd
              go_upto_block 6 with fail
              go_cut [10] from 99 to 113 (fun s9 wx => s9 = .int .i64 (I2 : Nat) ∧ Ar w0 wx 35 g n c dk)
              case first =>
                go_wp2_with fail
                go_loopw [10] (fun s9 wr => ∃ i2 : Nat, i ≤ i2 ∧ i2 ≤ j + 1 ∧ s9 = .int .i64 i2 ∧ Hid (Ar w0 wr 35 g n c dk) ∧ Hid (Sort.scanUp (fun x => Sort.ltInt x dk[a]!) dk j i2 = Sort.scanUp (fun x => Sort.ltInt x dk[a]!) dk j i)) (fun s9 _ => j + 1 - (intOf s9).toNat)
                case atStart => exact ⟨i, by omega, by omega, by first | rfl | go_num, hA, Lib.hid rfl⟩
                case round =>
                  clear hA
                  obtain ⟨i2, hi1, hi2, rfl, hA, hS⟩ := hrel
                  obtain ⟨w1, rfl⟩ : ∃ x : World, x = wr := ⟨_, rfl⟩
                  have ca := (hA.out.cell (k := a) (by omega)).1
                  have L := fun (x y : Int) (W : World) => less_any x y W
                  by_cases hij : i2 ≤ j
                  · have ci := (hA.out.cell (k := i2) (by omega)).1
                    have hin : i2 < n := by omega
                    by_cases hp : dk[i2]! < dk[a]!
                    · have hS' : Hid (Sort.scanUp (fun x => Sort.ltInt x dk[a]!) dk j (i2 + 1) = Sort.scanUp (fun x => Sort.ltInt x dk[a]!) dk j i) := Lib.hid (by rw [← hS.out, up_go hij (by simp [Sort.ltInt] <;> omega)])
                      clear hS
                      generalize dk[i2]! = vi at *
                      generalize dk[a]! = va at *
                      go_upto_region 13 with fail
                      have g1 : (i2 : Int) ≤ (j : Int) := by omega
                      go_big_quiet ((go_at_call 44; (with_reducible exact quiet_same (L _ _ _))))
                      go_wp2
                      go_roundw
                      case rel => exact ⟨i2 + 1, by omega, by omega, by go_num, Lib.hid (hA.out.drewN _), hS'⟩
                      case measure => first | (simp [intOf]; done) | (simp [intOf]; omega)
                    · have hS' : Hid (i2 = I2) := Lib.hid (by rw [hI2.out, ← hS.out, up_stop (fun q => by have := q.2; simp [Sort.ltInt] at this; omega)])
                      clear hS
                      generalize dk[i2]! = vi at *
                      generalize dk[a]! = va at *
                      go_upto_region 13 with fail
                      have g1 : (i2 : Int) ≤ (j : Int) := by omega
                      go_big_quiet ((go_at_call 44; (with_reducible exact quiet_same (L _ _ _))))
                      go_wp2
                      go_meet
                      case rel => exact ⟨by rw [hS'.out], hA.out.drewN _⟩
                  · have hS' : Hid (i2 = I2) := Lib.hid (by rw [hI2.out, ← hS.out, up_stop (fun q => hij q.1)])
                    clear hS ca L
                    go_upto_region 13 with fail
                    have g1 : ¬ (i2 : Int) ≤ (j : Int) := by omega
                    go_big_quiet (fail)
                    go_wp2
                    go_meet
                    case rel => exact ⟨by rw [hS'.out], hA.out.drewN _⟩
              case rest =>
                obtain ⟨rfl, hA2⟩ := hcut
                obtain ⟨wu, rfl⟩ : ∃ x : World, x = wc := ⟨_, rfl⟩
                clear hA
                have hA := Lib.hid hA2
                clear hA2
                go_upto_block 8 with fail
                go_cut [11] from 115 to 130 (fun s9 wx => s9 = .int .i64 (J2 : Nat) ∧ Ar w0 wx 35 g n c dk)
                case first =>
                  go_wp2_with fail
                  go_loopw [11] (fun s9 wr => ∃ j2 : Nat, j2 ≤ j ∧ I2 ≤ j2 + 1 ∧ s9 = .int .i64 j2 ∧ Hid (Ar w0 wr 35 g n c dk) ∧ Hid (Sort.scanDown (fun x => !Sort.ltInt x dk[a]!) dk I2 j2 = Sort.scanDown (fun x => !Sort.ltInt x dk[a]!) dk I2 j)) (fun s9 _ => (intOf s9).toNat)
                  case atStart => exact ⟨j, by omega, by omega, by first | rfl | go_num, hA, Lib.hid rfl⟩
                  case round =>
                    clear hA
                    obtain ⟨j2, hj1, hj2, rfl, hA, hS⟩ := hrel
                    obtain ⟨w1, rfl⟩ : ∃ x : World, x = wr := ⟨_, rfl⟩
                    have ca := (hA.out.cell (k := a) (by omega)).1
                    have L := fun (x y : Int) (W : World) => less_any x y W
                    by_cases hij : I2 ≤ j2
                    · have ci := (hA.out.cell (k := j2) (by omega)).1
                      have hjn : j2 < n := by omega
                      by_cases hp : dk[j2]! < dk[a]!
                      · have hS' : Hid (j2 = J2) := Lib.hid (by rw [hJ2.out, ← hS.out, down_stop (fun q => by have := q.2; simp [Sort.ltInt] at this; omega)])
                        clear hS
                        generalize dk[j2]! = vi at *
                        generalize dk[a]! = va at *
                        go_upto_region 15 with fail
                        have g1 : (I2 : Int) ≤ (j2 : Int) := by omega
                        go_big_quiet ((go_at_call 44; (with_reducible exact quiet_same (L _ _ _))))
                        go_wp2
                        go_meet
                        case rel => exact ⟨by rw [hS'.out], hA.out.drewN _⟩
                      · have hS' : Hid (Sort.scanDown (fun x => !Sort.ltInt x dk[a]!) dk I2 (j2 - 1) = Sort.scanDown (fun x => !Sort.ltInt x dk[a]!) dk I2 j) := Lib.hid (by rw [← hS.out, down_go (by omega) hij (by simp [Sort.ltInt] <;> omega)])
                        have hj1 : j2 - 1 ≤ j := by omega
                        have hj3 : I2 ≤ (j2 - 1) + 1 := by omega
                        have ej : (j2 : Int) - 1 = ((j2 - 1 : Nat) : Int) := by omega
                        have hjm := Lib.hid (show j2 - 1 < j2 by omega)
                        clear hS
                        generalize dk[j2]! = vi at *
                        generalize dk[a]! = va at *
                        generalize j2 - 1 = j3 at *
                        go_upto_region 15 with fail
                        have g1 : (I2 : Int) ≤ (j2 : Int) := by omega
                        go_big_quiet ((go_at_call 44; (with_reducible exact quiet_same (L _ _ _))))
                        go_wp2
                        go_roundw
                        case rel => exact ⟨j3, hj1, hj3, by first | rfl | (rw [ej]) | go_num, Lib.hid (hA.out.drewN _), hS'⟩
                        case measure => (have := hjm.out; first | (simp [intOf]; done) | (simp [intOf]; omega))
                    · have hS' : Hid (j2 = J2) := Lib.hid (by rw [hJ2.out, ← hS.out, down_stop (fun q => hij q.1)])
                      clear hS ca L
                      go_upto_region 15 with fail
                      have g1 : ¬ (I2 : Int) ≤ (j2 : Int) := by omega
                      go_big_quiet (fail)
                      go_wp2
                      go_meet
                      case rel => exact ⟨by rw [hS'.out], hA.out.drewN _⟩
                case rest =>
                  obtain ⟨rfl, hA2⟩ := hcut
                  obtain ⟨wu, rfl⟩ : ∃ x : World, x = wc := ⟨_, rfl⟩
                  clear hA
                  have hA := Lib.hid hA2
                  clear hA2
                  by_cases hgt : J2 < I2
                  · have hE2 : Sort.partLoop Sort.ltInt a I3 J3 d1 = (J2, dk) := by rw [← hE.out, hL.out, if_pos hgt]
                    rw [hE2] at hR
                    clear hE hL hE2
                    have cx := (hA.out.cell (k := J2) (by omega)).1
                    have fx := (hA.out.cell (k := J2) (by omega)).2
                    have cy := (hA.out.cell (k := a) (by omega)).1
                    have fy := (hA.out.cell (k := a) (by omega)).2
                    have hsw := Lib.hid (hA.out.swpD (i := J2) (j := a) (by omega) (by omega))
                    have hjn : J2 < n := by omega
                    have hja : a ≤ J2 := by omega
                    replace s3 := Lib.hid s3
                    by_cases hz : J2 = a
                    · rw [hz] at cx fx hsw hR ⊢
                      clear cy fy
                      clear hz
                      generalize dk[a]! = vx at *
                      go_upto_region 21 with fail
                      go_region
                      all_goals go_wp2
                      all_goals go_ret2
                      all_goals (rw [hR.out]; exact ⟨rfl, hsw.out⟩)
                    · have hz2 : a < J2 := by omega
                      generalize dk[a]! = vx at *
                      generalize dk[J2]! = vy at *
                      go_upto_region 21 with fail
                      go_region
                      all_goals go_wp2
                      all_goals go_ret2
                      all_goals (rw [hR.out]; exact ⟨rfl, hsw.out⟩)
                  · have hne : I2 < J2 := by
                      have t1 := s3.out (by omega)
                      have t2 := s6.out (by omega) (by omega)
                      rcases Nat.lt_or_ge I2 J2 with e | e
                      · exact e
                      · have : I2 = J2 := by omega
                        subst this
                        rw [t1] at t2
                        cases t2
                    have hE' : Hid (Sort.partLoop Sort.ltInt a (I2 + 1) (J2 - 1) (Sort.swp dk I2 J2) = Sort.partLoop Sort.ltInt a I3 J3 d1) := Lib.hid (by rw [← hE.out, hL.out, if_neg hgt])
                    have cx := (hA.out.cell (k := I2) (by omega)).1
                    have fx := (hA.out.cell (k := I2) (by omega)).2
                    have cy := (hA.out.cell (k := J2) (by omega)).1
                    have fy := (hA.out.cell (k := J2) (by omega)).2
                    have hsw := Lib.hid (hA.out.swpD (i := I2) (j := J2) (by omega) (by omega))
                    have ej : (J2 : Int) - 1 = ((J2 - 1 : Nat) : Int) := by omega
                    have hx1 : I2 < n := by omega
                    have hy1 : J2 < n := by omega
                    have k1 : a < I2 + 1 := by omega
                    have k2 : I2 + 1 ≤ (J2 - 1) + 1 := by omega
                    have k3 : J2 - 1 < b := by omega
                    have k4 := Lib.hid (show J2 - 1 + 1 - (I2 + 1) < j + 1 - i by omega)
                    clear hE hL hI2 hJ2 s3 s6
                    generalize J2 - 1 = J4 at *
                    generalize dk[I2]! = vx at *
                    generalize dk[J2]! = vy at *
                    go_upto_region 18 with fail
                    go_region
                    all_goals go_wp2
                    go_roundw
                    case rel => exact ⟨I2 + 1, J4, _, k1, k2, k3, by go_num, by first | rfl | (rw [ej]) | go_num, hsw, hE'⟩
                    case measure => (have := k4.out; first | (simp [intOf]; done) | (simp [intOf]; omega))
end Go.Proofs.YtgpapbpkcggolaaDoor
