/- Sensor: the sort's heap, walked at small numbers. -/
import Derived.Test.YtgpapbpkcggolaaDoorSrt1
namespace Go.Proofs.YtgpapbpkcggolaaDoor
open Go.RowKit Go.BigFrame

theorem sift_end {hi f r : Nat} {d : Array Int} (h : hi ≤ 2 * r + 1) : Sort.siftDown Sort.ltInt hi f r d = d := by
  rw [Sort.siftDown, dif_pos h]
theorem sift_right {hi f r : Nat} {d : Array Int} (h : 2 * r + 2 < hi) (h1 : d[f + (2 * r + 1)]! < d[f + (2 * r + 1) + 1]!) :
    Sort.siftDown Sort.ltInt hi f r d = if d[f + r]! < d[f + (2 * r + 2)]! then Sort.siftDown Sort.ltInt hi f (2 * r + 2) (Sort.swp d (f + r) (f + (2 * r + 2))) else d := by
  rw [Sort.siftDown, dif_neg (by omega), if_pos (by simp [Sort.ltInt, h1]; omega), dif_pos h]
  by_cases hx : d[f + r]! < d[f + (2 * r + 2)]! <;> simp [Sort.ltInt, hx]
theorem sift_left {hi f r : Nat} {d : Array Int} (h : 2 * r + 1 < hi) (h1 : ¬ (2 * r + 2 < hi ∧ d[f + (2 * r + 1)]! < d[f + (2 * r + 1) + 1]!)) :
    Sort.siftDown Sort.ltInt hi f r d = if d[f + r]! < d[f + (2 * r + 1)]! then Sort.siftDown Sort.ltInt hi f (2 * r + 1) (Sort.swp d (f + r) (f + (2 * r + 1))) else d := by
  rw [Sort.siftDown, dif_neg (by omega), if_neg (by simpa [Sort.ltInt] using h1)]
  by_cases hx : d[f + r]! < d[f + (2 * r + 1)]! <;> simp [Sort.ltInt, hx]
set_option maxHeartbeats 4000000 in
set_option maxRecDepth 100000 in
theorem sift_any {w0 w : World} {g n c lo hi f : Nat} {d : Array Int} (h : Ar w0 w 35 g n c d) (hb : f + hi ≤ n) (hl : lo ≤ 4096) (hn : n ≤ 4096) :
    Calls Tryd.prog 49 #[.slice (some ⟨g, 0, none⟩) n c, .int .i64 lo, .int .i64 hi, .int .i64 f] w fun e w' => e = .returned (.tuple #[]) ∧ Ar w0 w' 35 g n c (Sort.siftDown Sort.ltInt hi f lo d) := by
  have h' := Lib.hid h
  clear h
  go_enter Tryd.func49, Tryd.ntmps49
  go_upto_region 1 with fail
  go_loopw [8, 9] (fun s8 _ wr => ∃ (r : Nat) (dk : Array Int), r ≤ 4096 ∧ s8 = .int .i64 r ∧ Hid (Ar w0 wr 35 g n c dk) ∧ Hid (Sort.siftDown Sort.ltInt hi f r dk = Sort.siftDown Sort.ltInt hi f lo d)) (fun s8 _ _ => hi - (intOf s8).toNat)
  case atStart => exact ⟨lo, d, hl, rfl, h', Lib.hid rfl⟩
  case round =>
    clear h'
    obtain ⟨r, dk, hr, rfl, hA, hE⟩ := hrel
    obtain ⟨wk, rfl⟩ : ∃ x : World, x = wr := ⟨_, rfl⟩
    obtain ⟨ch, hch⟩ : ∃ ch : Nat, ch = 2 * r + 1 := ⟨_, rfl⟩
    have e1 : (2 : Int) * (r : Int) + 1 = (ch : Int) := by omega
    have hc1 : ch ≤ 8193 := by omega
    by_cases hhi : hi ≤ ch
    · have hE' : Hid (dk = Sort.siftDown Sort.ltInt hi f lo d) := Lib.hid (by rw [← hE.out, sift_end (by omega)])
      clear hE hch
      go_wp2
      go_end0
      exact ⟨rfl, by rw [← hE'.out]; exact hA.out⟩
    · obtain ⟨y, hy⟩ : ∃ y : Nat, y = f + ch := ⟨_, rfl⟩
      obtain ⟨x, hx⟩ : ∃ x : Nat, x = f + r := ⟨_, rfl⟩
      have e2 : (f : Int) + (ch : Int) = (y : Int) := by omega
      have e3 : (f : Int) + (r : Int) = (x : Int) := by omega
      have e4 : (f : Int) + ((ch : Int) + 1) = (y : Int) + 1 := by omega
      have hy1 : y < n := by omega
      have hx1 : x < n := by omega
      have cx := (hA.out.cell (k := x) (by omega)).1
      have fx := (hA.out.cell (k := x) (by omega)).2
      have cy := (hA.out.cell (k := y) (by omega)).1
      have L := fun (p q : Int) (W : World) => less_any p q W
      by_cases h2 : ch + 1 < hi
      · have cz := (hA.out.cell (k := y + 1) (by omega)).1
        by_cases hl2 : dk[y]! < dk[y + 1]!
        · have hR := sift_right (hi := hi) (f := f) (r := r) (d := dk) (by omega) (by rw [← hch, ← hy]; exact hl2)
          obtain ⟨ch1, hch1⟩ : ∃ k : Nat, k = ch + 1 := ⟨_, rfl⟩
          obtain ⟨y1, hy2⟩ : ∃ k : Nat, k = y + 1 := ⟨_, rfl⟩
          rw [show f + r = x from hx.symm, show f + (2 * r + 2) = y1 by omega, show 2 * r + 2 = ch1 by omega] at hR
          have ec1 := Lib.hid (show (ch : Int) + 1 = (ch1 : Int) by omega)
          have ec2 := Lib.hid (show (f : Int) + (ch1 : Int) = (y1 : Int) by omega)
          have hyn : y1 < n := by omega
          have hcn : ch1 < hi := by omega
          have hxy1 : x < y1 := by omega
          have hcc : ch1 ≤ 8193 := by omega
          replace hch1 := Lib.hid hch1
          replace hy2 := Lib.hid hy2
          obtain ⟨vy, hvy⟩ : ∃ v, dk[y]! = v := ⟨_, rfl⟩
          obtain ⟨vz, hvz⟩ : ∃ v, dk[y + 1]! = v := ⟨_, rfl⟩
          rw [hvy] at cy hl2
          rw [hvz] at cz hl2
          replace hvz := Lib.hid hvz
          clear hvy
          have hq := Lib.hid (And.intro hch (And.intro hy (And.intro hx hhi)))
          clear hch hy hx
          go_upto_region 3 with fail
          have g1 : (ch : Int) + 1 < (hi : Int) := by omega
          go_big_quiet ((go_at_call 44; (with_reducible exact quiet_same (L _ _ _))))
          clear hvz cy cz hl2
          go_upto_region 5 with fail
          rw [ec1.out]
          have ec3 := ec2.out
          clear e1 e2 e4
          obtain ⟨w1, hw1⟩ : ∃ x : World, x = wk.drewN nq := ⟨_, rfl⟩
          have hA1 : Hid (Ar w0 w1 35 g n c dk) := Lib.hid (by rw [hw1]; exact hA.out.drewN _)
          rw [← hw1]
          clear hw1 hA cx fx
          have hA := hA1
          have cx := (hA.out.cell (k := x) (by omega)).1
          have fx := (hA.out.cell (k := x) (by omega)).2
          have hqo := hq.out
          have c5 := (hA.out.cell (k := y1) (by omega)).1
          have f5 := (hA.out.cell (k := y1) (by omega)).2
          have hsw := Lib.hid fun m => (hA.out.drewN m).swp (i := x) (j := y1) (by omega) (by omega)
          have hgo := Lib.hid (hR)
          clear hqo
          generalize dk[y1]! = v5 at *
          generalize dk[x]! = vx at *
          by_cases hz : vx < v5
          · replace hgo := Lib.hid (hgo.out.trans (if_pos hz))
            go_big_quiet ((go_at_call 44; (with_reducible exact quiet_same (L _ _ _))))
            go_upto_region 6 with fail
            go_region
            all_goals go_wp2
            go_roundw
            case rel => exact ⟨ch1, Sort.swp dk x y1, by omega, by go_num, Lib.hid (hsw.out _), Lib.hid (by rw [← hE.out]; exact hgo.out.symm)⟩
            case measure => (have := hq.out; first | (simp [intOf]; done) | (simp [intOf]; omega))
          · replace hgo := Lib.hid (hgo.out.trans (if_neg hz))
            go_big_quiet ((go_at_call 44; (with_reducible exact quiet_same (L _ _ _))))
            go_wp2
            ((try simp only [Exit.inBlock, Exit.then]); refine bodyPost_ret (results_none rfl _ _ _) rfl ?_)
            exact ⟨rfl, by rw [← hE.out, hgo.out]; exact hA.out.drewN _⟩
        · have hR := sift_left (hi := hi) (f := f) (r := r) (d := dk) (by omega) (fun q => hl2 (by rw [← hch, ← hy] at q; exact q.2))
          rw [show f + r = x from hx.symm, ← hch, show f + ch = y from hy.symm] at hR
          obtain ⟨vy, hvy⟩ : ∃ v, dk[y]! = v := ⟨_, rfl⟩
          obtain ⟨vz, hvz⟩ : ∃ v, dk[y + 1]! = v := ⟨_, rfl⟩
          rw [hvy] at cy hl2
          rw [hvz] at cz hl2
          replace hvy := Lib.hid hvy
          clear hvz
          have hq := Lib.hid (And.intro hch (And.intro hy (And.intro hx hhi)))
          clear hch hy hx
          go_upto_region 3 with fail
          have g1 : (ch : Int) + 1 < (hi : Int) := by omega
          go_big_quiet ((go_at_call 44; (with_reducible exact quiet_same (L _ _ _))))
          clear hvy cy cz hl2
          go_upto_region 5 with fail
          obtain ⟨w1, hw1⟩ : ∃ x : World, x = wk.drewN nq := ⟨_, rfl⟩
          have hA1 : Hid (Ar w0 w1 35 g n c dk) := Lib.hid (by rw [hw1]; exact hA.out.drewN _)
          rw [← hw1]
          clear hw1 hA cx fx
          have hA := hA1
          have cx := (hA.out.cell (k := x) (by omega)).1
          have fx := (hA.out.cell (k := x) (by omega)).2
          have hqo := hq.out
          have c5 := (hA.out.cell (k := y) (by omega)).1
          have f5 := (hA.out.cell (k := y) (by omega)).2
          have hsw := Lib.hid fun m => (hA.out.drewN m).swp (i := x) (j := y) (by omega) (by omega)
          have hgo := Lib.hid (hR)
          clear hqo
          generalize dk[y]! = v5 at *
          generalize dk[x]! = vx at *
          by_cases hz : vx < v5
          · replace hgo := Lib.hid (hgo.out.trans (if_pos hz))
            go_big_quiet ((go_at_call 44; (with_reducible exact quiet_same (L _ _ _))))
            go_upto_region 6 with fail
            go_region
            all_goals go_wp2
            go_roundw
            case rel => exact ⟨ch, Sort.swp dk x (y), by have := hq.out; omega, by go_num, Lib.hid (hsw.out _), Lib.hid (by rw [← hE.out]; exact hgo.out.symm)⟩
            case measure => (have := hq.out; first | (simp [intOf]; done) | (simp [intOf]; omega))
          · replace hgo := Lib.hid (hgo.out.trans (if_neg hz))
            go_big_quiet ((go_at_call 44; (with_reducible exact quiet_same (L _ _ _))))
            go_wp2
            ((try simp only [Exit.inBlock, Exit.then]); refine bodyPost_ret (results_none rfl _ _ _) rfl ?_)
            exact ⟨rfl, by rw [← hE.out, hgo.out]; exact hA.out.drewN _⟩
      · have hR := sift_left (hi := hi) (f := f) (r := r) (d := dk) (by omega) (fun q => h2 (by omega))
        rw [show f + r = x from hx.symm, ← hch, show f + ch = y from hy.symm] at hR
        obtain ⟨vy, hvy⟩ : ∃ v, dk[y]! = v := ⟨_, rfl⟩
        clear cy hvy
        have hq := Lib.hid (And.intro hch (And.intro hy (And.intro hx hhi)))
        clear hch hy hx
        go_upto_region 3 with fail
        have g1 : ¬ (ch : Int) + 1 < (hi : Int) := by omega
        go_big_quiet (fail)
        go_upto_region 5 with fail
        obtain ⟨w1, hw1⟩ : ∃ x : World, x = wk.drewN nq := ⟨_, rfl⟩
        have hA1 : Hid (Ar w0 w1 35 g n c dk) := Lib.hid (by rw [hw1]; exact hA.out.drewN _)
        rw [← hw1]
        clear hw1 hA cx fx
        have hA := hA1
        have cx := (hA.out.cell (k := x) (by omega)).1
        have fx := (hA.out.cell (k := x) (by omega)).2
        have hqo := hq.out
        have c5 := (hA.out.cell (k := y) (by omega)).1
        have f5 := (hA.out.cell (k := y) (by omega)).2
        have hsw := Lib.hid fun m => (hA.out.drewN m).swp (i := x) (j := y) (by omega) (by omega)
        have hgo := Lib.hid (hR)
        clear hqo
        generalize dk[y]! = v5 at *
        generalize dk[x]! = vx at *
        by_cases hz : vx < v5
        · replace hgo := Lib.hid (hgo.out.trans (if_pos hz))
          go_big_quiet ((go_at_call 44; (with_reducible exact quiet_same (L _ _ _))))
          go_upto_region 6 with fail
          go_region
          all_goals go_wp2
          go_roundw
          case rel => exact ⟨ch, Sort.swp dk x (y), by have := hq.out; omega, by go_num, Lib.hid (hsw.out _), Lib.hid (by rw [← hE.out]; exact hgo.out.symm)⟩
          case measure => (have := hq.out; first | (simp [intOf]; done) | (simp [intOf]; omega))
        · replace hgo := Lib.hid (hgo.out.trans (if_neg hz))
          go_big_quiet ((go_at_call 44; (with_reducible exact quiet_same (L _ _ _))))
          go_wp2
          ((try simp only [Exit.inBlock, Exit.then]); refine bodyPost_ret (results_none rfl _ _ _) rfl ?_)
          exact ⟨rfl, by rw [← hE.out, hgo.out]; exact hA.out.drewN _⟩
theorem build_succ (hi f k : Nat) (d : Array Int) : Sort.heapBuild Sort.ltInt hi f (k + 1) d = Sort.heapBuild Sort.ltInt hi f k (Sort.siftDown Sort.ltInt hi f k d) := rfl
theorem pop_succ (f k : Nat) (d : Array Int) : Sort.heapPop Sort.ltInt f (k + 1) d = Sort.heapPop Sort.ltInt f k (Sort.siftDown Sort.ltInt k f 0 (Sort.swp d f (f + k))) := rfl
set_option maxHeartbeats 4000000 in
set_option maxRecDepth 100000 in
theorem heap_any {w0 w : World} {g n c a b : Nat} {d : Array Int} (h : Ar w0 w 35 g n c d) (hb : b ≤ n) (hab : a < b) (hn : n ≤ 4096) :
    Calls Tryd.prog 39 #[.slice (some ⟨g, 0, none⟩) n c, .int .i64 a, .int .i64 b] w fun e w' => e = .returned (.tuple #[]) ∧ Ar w0 w' 35 g n c (Sort.heapSort Sort.ltInt d a b) := by
  have h' := Lib.hid h
  clear h
  obtain ⟨l, hl⟩ : ∃ l : Nat, l = b - a := ⟨_, rfl⟩
  have el : (b : Int) - (a : Int) = (l : Int) := by omega
  have hE0 : Hid (Sort.heapSort Sort.ltInt d a b = Sort.heapPop Sort.ltInt a l (Sort.heapBuild Sort.ltInt l a ((l - 1) / 2 + 1) d)) := Lib.hid (by rw [hl]; rfl)
  obtain ⟨k0, hk0⟩ : ∃ k : Nat, k = (l - 1) / 2 := ⟨_, rfl⟩
  have ek : ((l : Int) - 1).tdiv 2 = (k0 : Int) := by
    rw [Int.tdiv_eq_ediv_of_nonneg (by omega)]; omega
  have hk1 : k0 ≤ 4096 := by omega
  have hl1 : l ≤ 4096 := by omega
  have hl2 : 1 ≤ l := by omega
  have hal : a + l ≤ n := by omega
  have hl3 : (1 : Int) ≤ (l : Int) := by omega
  replace hk0 := Lib.hid hk0
  replace hl := Lib.hid hl
  rw [hE0.out]
  rw [← hk0.out]
  clear hE0
  go_enter Tryd.func39, Tryd.ntmps39
  go_upto_region 4 with fail
  go_loopw [9] (fun s9 wr => ∃ (k : Nat) (dk : Array Int), k ≤ k0 + 1 ∧ s9 = .int .i64 ((k : Int) - 1) ∧ Hid (Ar w0 wr 35 g n c dk) ∧ Hid (Sort.heapBuild Sort.ltInt l a k dk = Sort.heapBuild Sort.ltInt l a (k0 + 1) d)) (fun s9 _ => (intOf s9 + 1).toNat)
  case atStart => exact ⟨k0 + 1, d, by omega, by go_num, h', Lib.hid rfl⟩
  case round =>
    clear h'
    obtain ⟨k, dk, hk, rfl, hA, hE⟩ := hrel
    obtain ⟨wk, rfl⟩ : ∃ x : World, x = wr := ⟨_, rfl⟩
    cases k with
    | succ q =>
      rw [show (((q + 1 : Nat) : Int) - 1) = (q : Int) by omega]
      have S := sift_any (lo := q) (hi := l) (f := a) hA.out hal (by omega) hn
      have hE' : Hid (Sort.heapBuild Sort.ltInt l a q (Sort.siftDown Sort.ltInt l a q dk) = Sort.heapBuild Sort.ltInt l a (k0 + 1) d) := Lib.hid (by rw [← hE.out, build_succ])
      clear hE hA ek
      go_wp2_with (go_at_call 49; (with_reducible refine S.mono ?_); rintro e w1 ⟨rfl, hA1⟩; replace hA1 := Lib.hid hA1)
      go_roundw
      case rel => exact ⟨q, _, by omega, by go_num, hA1, hE'⟩
      case measure => first | (simp [intOf]; done) | (simp [intOf]; omega)
    | zero =>
      have hD : Hid (dk = Sort.heapBuild Sort.ltInt l a (k0 + 1) d) := Lib.hid (by rw [← hE.out]; rfl)
      clear hE ek
      rw [show (((0 : Nat) : Int) - 1) = -1 from rfl]
      go_upto_region 8 with fail
      go_loopw [10] (fun s10 wr => ∃ (k : Nat) (dj : Array Int), k ≤ l ∧ s10 = .int .i64 ((k : Int) - 1) ∧ Hid (Ar w0 wr 35 g n c dj) ∧ Hid (Sort.heapPop Sort.ltInt a k dj = Sort.heapPop Sort.ltInt a l dk)) (fun s10 _ => (intOf s10 + 1).toNat)
      case atStart => exact ⟨l, dk, by omega, by go_num, hA, Lib.hid rfl⟩
      case round =>
        clear hA
        obtain ⟨k, dj, hk, rfl, hA, hE⟩ := hrel
        obtain ⟨wj, rfl⟩ : ∃ x : World, x = wr := ⟨_, rfl⟩
        cases k with
        | succ q =>
          rw [show (((q + 1 : Nat) : Int) - 1) = (q : Int) by omega]
          have hE' : Hid (Sort.heapPop Sort.ltInt a q (Sort.siftDown Sort.ltInt q a 0 (Sort.swp dj a (a + q))) = Sort.heapPop Sort.ltInt a l dk) := Lib.hid (by rw [← hE.out, pop_succ])
          obtain ⟨y, hy⟩ : ∃ y : Nat, y = a + q := ⟨_, rfl⟩
          have ey : (a : Int) + (q : Int) = (y : Int) := by omega
          have hyn : y < n := by omega
          have han : a < n := by omega
          have hq0 : q = 0 ↔ y = a := by omega
          have hqa : a + q ≤ n := by omega
          have cx := (hA.out.cell (k := a) (by omega)).1
          have fx := (hA.out.cell (k := a) (by omega)).2
          have cy := (hA.out.cell (k := y) (by omega)).1
          have fy := (hA.out.cell (k := y) (by omega)).2
          have hsw := Lib.hid (hA.out.swpD (i := a) (j := y) (by omega) (by omega))
          have hdd := Lib.hid (show y = a → dj[y]! = dj[a]! from fun e => by rw [e])
          rw [← hy] at hE'
          replace hqa := Lib.hid hqa
          clear hE
          by_cases hz : y = a
          · have hz2 := hz.symm
            subst hz2
            replace hq0 := Lib.hid hq0
            replace hy := Lib.hid hy
            clear hdd hz cy fy
            generalize dj[a]! = vx at *
            have S := (show Calls Tryd.prog 49 #[.slice (some ⟨g, 0, none⟩) n c, .int .i64 0, .int .i64 q, .int .i64 a] _ _ from sift_any (lo := 0) (hi := q) (f := a) hsw.out hqa.out (by omega) hn)
            clear hsw hA
            go_upto_region 10 with fail
            go_region
            all_goals go_wp2_with (go_at_call 49; (with_reducible refine S.mono ?_); rintro e w1 ⟨rfl, hA1⟩; replace hA1 := Lib.hid hA1)
            go_roundw
            case rel => exact ⟨q, _, by omega, by go_num, hA1, hE'⟩
            case measure => first | (simp [intOf]; done) | (simp [intOf]; omega)
          · have hz2 : a < y := by omega
            replace hq0 := Lib.hid hq0
            clear hdd
            replace hy := Lib.hid hy
            generalize dj[y]! = vy at *
            generalize dj[a]! = vx at *
            have S := (show Calls Tryd.prog 49 #[.slice (some ⟨g, 0, none⟩) n c, .int .i64 0, .int .i64 q, .int .i64 a] _ _ from sift_any (lo := 0) (hi := q) (f := a) hsw.out hqa.out (by omega) hn)
            clear hsw hA
            go_upto_region 10 with fail
            go_region
            all_goals go_wp2_with (go_at_call 49; (with_reducible refine S.mono ?_); rintro e w1 ⟨rfl, hA1⟩; replace hA1 := Lib.hid hA1)
            go_roundw
            case rel => exact ⟨q, _, by omega, by go_num, hA1, hE'⟩
            case measure => first | (simp [intOf]; done) | (simp [intOf]; omega)
        | zero =>
          have hD2 : Hid (dj = Sort.heapPop Sort.ltInt a l dk) := Lib.hid (by rw [← hE.out]; rfl)
          clear hE
          go_wp2
          go_end0
          exact ⟨rfl, by rw [← hD.out, ← hD2.out]; exact hA.out⟩
end Go.Proofs.YtgpapbpkcggolaaDoor
