/- Sensor: the sort's reverseRange, order2 and the medians, walked at small numbers. -/
import Derived.Test.YtgpapbpkcggolaaDoorSrt1
namespace Go.Proofs.YtgpapbpkcggolaaDoor
open Go.RowKit Go.BigFrame

theorem rev_go {i j : Nat} {d : Array Int} (h : i < j) : Sort.reverseLoop i j d = Sort.reverseLoop (i + 1) (j - 1) (Sort.swp d i j) := by
  rw [Sort.reverseLoop, if_pos h]
theorem rev_end {i j : Nat} {d : Array Int} (h : ¬ i < j) : Sort.reverseLoop i j d = d := by
  rw [Sort.reverseLoop, if_neg h]
set_option maxHeartbeats 4000000 in
set_option maxRecDepth 100000 in
theorem rev_any {w0 w : World} {g n c a b : Nat} {d : Array Int} (h : Ar w0 w 35 g n c d) (hb : b ≤ n) (hab : a < b) (hn : n ≤ 4096) :
    Calls Tryd.prog 42 #[.slice (some ⟨g, 0, none⟩) n c, .int .i64 a, .int .i64 b] w fun e w' => e = .returned (.tuple #[]) ∧ Ar w0 w' 35 g n c (Sort.reverseRange d a b) := by
  have h' := Lib.hid h
  clear h
  have eb : (b : Int) - 1 = ((b - 1 : Nat) : Int) := by omega
  obtain ⟨q, hq⟩ : ∃ q, q = b - 1 := ⟨_, rfl⟩
  have hE0 : Hid (Sort.reverseRange d a b = Sort.reverseLoop a q d) := Lib.hid (by rw [hq]; rfl)
  rw [← hq] at eb
  have hqn : q < n := by omega
  have han : a < n := by omega
  clear hq
  rw [hE0.out]
  clear hE0
  go_enter Tryd.func42, Tryd.ntmps42
  go_upto_region 2 with fail
  go_loopw [6, 7] (fun s6 s7 wr => ∃ (i j : Nat) (dk : Array Int), i ≤ n ∧ j < n ∧ s6 = .int .i64 i ∧ s7 = .int .i64 j ∧ Hid (Ar w0 wr 35 g n c dk) ∧ Hid (Sort.reverseLoop i j dk = Sort.reverseLoop a q d)) (fun _ s7 _ => (intOf s7).toNat)
  case atStart => exact ⟨a, q, d, by omega, hqn, rfl, by go_num, h', Lib.hid rfl⟩
  case round =>
    clear h'
    obtain ⟨i, j, dk, hi, hj, rfl, rfl, hA, hE⟩ := hrel
    obtain ⟨wk, rfl⟩ : ∃ x : World, x = wr := ⟨_, rfl⟩
    by_cases hij : i < j
    · have hE' : Hid (Sort.reverseLoop (i + 1) (j - 1) (Sort.swp dk i j) = Sort.reverseLoop a q d) := Lib.hid (by rw [← hE.out, rev_go hij])
      have ej : (j : Int) - 1 = ((j - 1 : Nat) : Int) := by omega
      have hin : i < n := by omega
      have cx := (hA.out.cell (k := i) (by omega)).1
      have fx := (hA.out.cell (k := i) (by omega)).2
      have cy := (hA.out.cell (k := j) (by omega)).1
      have fy := (hA.out.cell (k := j) (by omega)).2
      have hsw := Lib.hid (hA.out.swpD (i := i) (j := j) (by omega) (by omega))
      have hj1 : j - 1 < n := by omega
      have hj2 := Lib.hid (show j - 1 < j by omega)
      have hj3 : (1 : Int) ≤ (j : Int) := by omega
      generalize j - 1 = j1 at *
      generalize dk[i]! = vx at *
      generalize dk[j]! = vy at *
      clear hE
      go_upto_region 3 with fail
      go_region
      all_goals go_wp2
      go_roundw
      case rel => exact ⟨i + 1, j1, _, by omega, hj1, by go_num, by first | rfl | (rw [ej]) | go_num, Lib.hid hsw.out, hE'⟩
      case measure => (have := hj2.out; first | (simp [intOf]; done) | (simp [intOf]; omega))
    · have hE' : dk = Sort.reverseLoop a q d := by rw [← hE.out, rev_end hij]
      clear hE
      go_wp2
      go_end0
      exact ⟨rfl, by rw [← hE']; exact hA.out⟩
/-- a counter's box -/
structure Cnt (w : World) (B : Nat) (k : Int) : Prop where
  c : w.heap[B]? = some (.cells #[.int .i64 k] 3)
theorem Cnt.cell {w : World} {B : Nat} {k : Int} (h : Cnt w B k) : w.cell? ⟨B, 0, none⟩ = some (.int .i64 k) ∧ w.frozen? ⟨B, 0, none⟩ = false :=
  ⟨by rw [cell_of_row w B 0 _ 3 (0, 0) h.c]; rfl, frozen_row h.c 0⟩
theorem Cnt.drawn {w w' : World} {B : Nat} {k : Int} (h : Cnt w B k) (d : Drawn w w') : Cnt w' B k := ⟨by rw [d.heap]; exact h.c⟩
theorem Cnt.set {w : World} {B : Nat} {k : Int} (h : Cnt w B k) (j : Int) : Cnt (w.setCell ⟨B, 0, none⟩ (.int .i64 j)) B j := by
  refine ⟨?_⟩
  have := heap_set h.c 0 (.int .i64 j)
  simpa using this
set_option maxHeartbeats 4000000 in
set_option maxRecDepth 100000 in
theorem order2_any {w0 w : World} {g n c a b B : Nat} {k : Int} {d : Array Int} (h : Ar w0 w 35 g n c d) (ha : a < n) (hb : b < n) (hn : n ≤ 4096) (hB : Cnt w B k) (hBg : B ≠ g) (hB0 : w0.heap.size ≤ B) (hk : 0 ≤ k ∧ k ≤ 100) :
    Calls Tryd.prog 55 #[.slice (some ⟨g, 0, none⟩) n c, .int .i64 a, .int .i64 b, .pointer (some ⟨B, 0, none⟩)] w fun e w' =>
      ∃ (x y : Nat) (k' : Int), e = .returned (.tuple #[.int .i64 x, .int .i64 y]) ∧ ((x = a ∧ y = b) ∨ (x = b ∧ y = a)) ∧ (k ≤ k' ∧ k' ≤ k + 1) ∧ Cnt w' B k' ∧ Ar w0 w' 35 g n c d ∧ Below 0 w w' ∧ w'.heap.size = w.heap.size := by
  have c0 := (h.cell ha).1
  have c1 := (h.cell hb).1
  have L := fun (p q : Int) (W : World) => less_any p q W
  have hh := Lib.hid fun (W : World) (q : Drawn w W) => h.drawn q
  have hc := Lib.hid fun (W : World) (q : Drawn w W) => hB.drawn q
  generalize d[a]! = va at *
  generalize d[b]! = vb at *
  clear h hB
  have hk1 := hk.1
  have hk2 := hk.2
  by_cases hl : vb < va
  · go_enter Tryd.func55, Tryd.ntmps55
    go_upto_region 1 with fail
    go_big_quiet ((go_at_call 44; (with_reducible exact quiet_same (L _ _ _))))
    obtain ⟨w1, hw1⟩ : ∃ x : World, x = w.drewN nq := ⟨_, rfl⟩
    have d1 : Drawn w w1 := ⟨nq, hw1.symm⟩
    have x0 := (hc.out w1 d1).cell.1
    have x1 := (hc.out w1 d1).cell.2
    rw [← hw1]
    clear hw1 c0 c1 L
    go_wp2
    go_ret2
    exact ⟨b, a, k + 1, rfl, .inr ⟨rfl, rfl⟩, by omega, (hc.out w1 d1).set _, (hh.out w1 d1).keep ((Fr.refl _ _ _).set (fun q => absurd q (by simpa using hB0)) _) (Below.heap_setCell _ _ _ _ (fun e => hBg e.symm)), (d1.below 0).setCell (Nat.zero_le _) _, by rw [size_set, d1.heap]⟩
  · go_enter Tryd.func55, Tryd.ntmps55
    go_upto_region 1 with fail
    go_big_quiet ((go_at_call 44; (with_reducible exact quiet_same (L _ _ _))))
    go_wp2
    go_ret2
    exact ⟨a, b, rfl, .inl ⟨rfl, rfl⟩, k, by omega, hc.out _ ⟨_, rfl⟩, hh.out _ ⟨_, rfl⟩, (show Drawn w _ from ⟨_, rfl⟩).below 0, rfl⟩
set_option maxHeartbeats 4000000 in
set_option maxRecDepth 100000 in
theorem median_any {w0 w : World} {g n c a b e B : Nat} {k : Int} {d : Array Int} (h : Ar w0 w 35 g n c d) (ha : a < n) (hb : b < n) (he : e < n) (hn : n ≤ 4096) (hB : Cnt w B k) (hBg : B ≠ g) (hB0 : w0.heap.size ≤ B) (hk : 0 ≤ k ∧ k ≤ 90) :
    Calls Tryd.prog 53 #[.slice (some ⟨g, 0, none⟩) n c, .int .i64 a, .int .i64 b, .int .i64 e, .pointer (some ⟨B, 0, none⟩)] w fun r w' =>
      ∃ (x : Nat) (k' : Int), r = .returned (.int .i64 x) ∧ (x = a ∨ x = b ∨ x = e) ∧ (k ≤ k' ∧ k' ≤ k + 3) ∧ Cnt w' B k' ∧ Ar w0 w' 35 g n c d ∧ Below 0 w w' ∧ w'.heap.size = w.heap.size := by
  have O1 := order2_any h ha hb hn hB hBg hB0 (by omega)
  have hO : Hid (∀ (W : World) (j : Int) (p q : Nat), Ar w0 W 35 g n c d → Cnt W B j → 0 ≤ j ∧ j ≤ 100 → p < n → q < n → Calls Tryd.prog 55 #[.slice (some ⟨g, 0, none⟩) n c, .int .i64 p, .int .i64 q, .pointer (some ⟨B, 0, none⟩)] W fun e w' =>
      ∃ (x y : Nat) (k' : Int), e = .returned (.tuple #[.int .i64 x, .int .i64 y]) ∧ ((x = p ∧ y = q) ∨ (x = q ∧ y = p)) ∧ (j ≤ k' ∧ k' ≤ j + 1) ∧ Cnt w' B k' ∧ Ar w0 w' 35 g n c d ∧ Below 0 W w' ∧ w'.heap.size = W.heap.size) :=
    Lib.hid fun W j p q h1 h2 h3 h4 h5 => order2_any h1 h4 h5 hn h2 hBg hB0 h3
  clear h hB
  go_enter Tryd.func53, Tryd.ntmps53
  go_upto_region 2 with (go_at_call 55; (with_reducible refine O1.mono ?_); rintro e1 w1 ⟨x1, y1, k1, rfl, h1, j1, C1, A1, b1, s1⟩)
  have O2 := hO.out w1 k1 y1 e A1 C1 (by omega) (by omega) he
  replace h1 := Lib.hid h1
  replace s1 := Lib.hid s1
  clear C1 A1
  go_upto_region 3 with (go_at_call 55; (with_reducible refine O2.mono ?_); rintro e2 w2 ⟨x2, y2, k2, rfl, h2, j2, C2, A2, b2, s2⟩)
  have O3 := hO.out w2 k2 x1 x2 A2 C2 (by omega) (by have := h1.out; omega) (by have := h1.out; omega)
  replace h2 := Lib.hid h2
  replace s2 := Lib.hid s2
  clear C2 A2
  go_wp2_with (go_at_call 55; (with_reducible refine O3.mono ?_); rintro e3 w3 ⟨x3, y3, k3, rfl, h3, j3, C3, A3, b3, s3⟩; replace h3 := Lib.hid h3; replace s3 := Lib.hid s3)
  go_ret
  exact ⟨y3, k3, rfl, by have := h1.out; have := h2.out; have := h3.out; omega, by omega, C3, A3, (b1.trans b2).trans b3, by rw [s3.out, s2.out, s1.out]⟩
set_option maxRecDepth 100000 in
theorem madj_any {w0 w : World} {g n c a B : Nat} {k : Int} {d : Array Int} (h : Ar w0 w 35 g n c d) (ha : a + 1 < n) (ha1 : 1 ≤ a) (hn : n ≤ 4096) (hB : Cnt w B k) (hBg : B ≠ g) (hB0 : w0.heap.size ≤ B) (hk : 0 ≤ k ∧ k ≤ 90) :
    Calls Tryd.prog 52 #[.slice (some ⟨g, 0, none⟩) n c, .int .i64 a, .pointer (some ⟨B, 0, none⟩)] w fun r w' =>
      ∃ (x : Nat) (k' : Int), r = .returned (.int .i64 x) ∧ (a - 1 ≤ x ∧ x ≤ a + 1) ∧ (k ≤ k' ∧ k' ≤ k + 3) ∧ Cnt w' B k' ∧ Ar w0 w' 35 g n c d ∧ Below 0 w w' ∧ w'.heap.size = w.heap.size := by
  obtain ⟨q, rfl⟩ : ∃ q, a = q + 1 := ⟨a - 1, by omega⟩
  have M := median_any (a := q) (b := q + 1) (e := q + 1 + 1) h (by omega) (by omega) (by omega) hn hB hBg hB0 hk
  rw [show (((q + 1 + 1 : Nat) : Int)) = (q : Int) + 1 + 1 by omega, show (((q + 1 : Nat) : Int)) = (q : Int) + 1 by omega] at M
  have e1 : (q : Int) + 1 - 1 = (q : Int) := by omega
  clear h hB
  go_enter Tryd.func52, Tryd.ntmps52
  go_wp2_with (go_at_call 53; (with_reducible refine M.mono ?_); rintro e3 w3 ⟨x3, k3, rfl, h3, j3, C3, A3, b3, s3⟩; replace h3 := Lib.hid h3; replace s3 := Lib.hid s3)
  go_ret
  exact ⟨x3, k3, rfl, by have := h3.out; omega, j3, C3, A3, b3, s3.out⟩
set_option maxHeartbeats 4000000 in
set_option maxRecDepth 100000 in
theorem pivot_any {w0 w : World} {g n c a b : Nat} {d : Array Int} (h : Ar w0 w 35 g n c d) (hb : b ≤ n) (hab : a < b) (hn : n ≤ 4096) :
    Calls Tryd.prog 41 #[.slice (some ⟨g, 0, none⟩) n c, .int .i64 a, .int .i64 b] w fun r w' => ∃ (x : Nat) (t : Int), r = .returned (.tuple #[.int .i64 x, .int .i64 t]) ∧ (a ≤ x ∧ x < b) ∧ (0 ≤ t ∧ t ≤ 2) ∧ Ar w0 w' 35 g n c d := by
  obtain ⟨l, hl⟩ : ∃ l : Nat, l = b - a := ⟨_, rfl⟩
  have el : (b : Int) - (a : Int) = (l : Int) := by omega
  obtain ⟨m, hm⟩ : ∃ m : Nat, m = l / 4 := ⟨_, rfl⟩
  have em : (l : Int).tdiv 4 = (m : Int) := by rw [Int.tdiv_eq_ediv_of_nonneg (by omega)]; omega
  obtain ⟨i, hi⟩ : ∃ i : Nat, i = a + m := ⟨_, rfl⟩
  obtain ⟨j, hj⟩ : ∃ i : Nat, i = a + m * 2 := ⟨_, rfl⟩
  obtain ⟨k, hk⟩ : ∃ i : Nat, i = a + m * 3 := ⟨_, rfl⟩
  have ei : (a : Int) + (m : Int) = (i : Int) := by omega
  have ej : (a : Int) + (m : Int) * 2 = (j : Int) := by omega
  have ek : (a : Int) + (m : Int) * 3 = (k : Int) := by omega
  have bm : m ≤ 1024 := by omega
  have bi : i ≤ 8192 := by omega
  have bj : j ≤ 8192 := by omega
  have bk : k ≤ 8192 := by omega
  have bl : l ≤ 4096 := by omega
  have hq := Lib.hid (And.intro hl (And.intro hm (And.intro hi (And.intro hj hk))))
  clear hl hm hi hj hk
  have hgw := h.lt
  have hA0 : Ar w0 (w.alloc (.cells #[.int .i64 0] 3)) 35 g n c d := h.below (below_al (Below.refl _ _) _)
  have hC0 : Cnt (w.alloc (.cells #[.int .i64 0] 3)) w.heap.size 0 := ⟨heap_alloc_at _ _⟩
  have hBg : w.heap.size ≠ g := by omega
  have hB0 := h.f.size
  have hMd : Hid (∀ (W : World) (p : Int) (x y z : Nat), Ar w0 W 35 g n c d → Cnt W w.heap.size p → 0 ≤ p ∧ p ≤ 90 → x < n → y < n → z < n → Calls Tryd.prog 53 #[.slice (some ⟨g, 0, none⟩) n c, .int .i64 x, .int .i64 y, .int .i64 z, .pointer (some ⟨w.heap.size, 0, none⟩)] W fun r w' =>
      ∃ (u : Nat) (k' : Int), r = .returned (.int .i64 u) ∧ (u = x ∨ u = y ∨ u = z) ∧ (p ≤ k' ∧ k' ≤ p + 3) ∧ Cnt w' w.heap.size k' ∧ Ar w0 w' 35 g n c d ∧ Below 0 W w' ∧ w'.heap.size = W.heap.size) :=
    Lib.hid fun W p x y z h1 h2 h3 h4 h5 h6 => median_any h1 h4 h5 h6 hn h2 hBg hB0 h3
  have hMa : Hid (∀ (W : World) (p : Int) (x : Nat), Ar w0 W 35 g n c d → Cnt W w.heap.size p → 0 ≤ p ∧ p ≤ 90 → 1 ≤ x → x + 1 < n → Calls Tryd.prog 52 #[.slice (some ⟨g, 0, none⟩) n c, .int .i64 x, .pointer (some ⟨w.heap.size, 0, none⟩)] W fun r w' =>
      ∃ (u : Nat) (k' : Int), r = .returned (.int .i64 u) ∧ (x - 1 ≤ u ∧ u ≤ x + 1) ∧ (p ≤ k' ∧ k' ≤ p + 3) ∧ Cnt w' w.heap.size k' ∧ Ar w0 w' 35 g n c d ∧ Below 0 W w' ∧ w'.heap.size = W.heap.size) :=
    Lib.hid fun W p x h1 h2 h3 h4 h5 => madj_any h1 h5 h4 hn h2 hBg hB0 h3
  have hBg' := Lib.hid hBg
  have hB0' := Lib.hid hB0
  clear h hBg hB0 hgw
  by_cases h8 : 8 ≤ l
  · by_cases h50 : 50 ≤ l
    · have hq1 := hq.out
      have M1 := hMa.out _ 0 i hA0 hC0 (by omega) (by omega) (by omega)
      clear hA0 hC0 hq1
      go_enter Tryd.func41, Tryd.ntmps41
      go_upto_region 9 with (go_at_call 52; (with_reducible refine M1.mono ?_); rintro e1 w1 ⟨x1, k1, rfl, h1, j1, C1, A1, b1, s1⟩)
      have hq1 := hq.out
      have M2 := hMa.out w1 k1 j A1 C1 (by omega) (by omega) (by omega)
      replace s1 := Lib.hid s1
      clear C1 A1 hq1
      go_upto_region 10 with (go_at_call 52; (with_reducible refine M2.mono ?_); rintro e2 w2 ⟨x2, k2, rfl, h2, j2, C2, A2, b2, s2⟩)
      have hq1 := hq.out
      have M3 := hMa.out w2 k2 k A2 C2 (by omega) (by omega) (by omega)
      replace s2 := Lib.hid s2
      clear C2 A2 hq1
      go_upto_region 11 with (go_at_call 52; (with_reducible refine M3.mono ?_); rintro e3 w3 ⟨x3, k3, rfl, h3, j3, C3, A3, b3, s3⟩)
      have hq1 := hq.out
      have M4 := hMd.out w3 k3 x1 x2 x3 A3 C3 (by omega) (by omega) (by omega) (by omega)
      replace s3 := Lib.hid s3
      clear C3 A3 hq1
      go_upto_region 12 with (go_at_call 53; (with_reducible refine M4.mono ?_); rintro e4 w4 ⟨x4, k4, rfl, h4, j4, C4, A4, b4, s4⟩)
      have hx4 : a ≤ x4 ∧ x4 < b := by have hq1 := hq.out; omega
      have hk4 : 0 ≤ k4 := by omega
      obtain ⟨c4, f4⟩ := C4.cell
      replace A4 := Lib.hid A4
      replace s4 := Lib.hid s4
      clear hq h1 h2 h3 h4 j1 j2 j3 b1 b2 b3 b4 hMa hMd
      by_cases z0 : k4 = 0
      · subst z0
        go_wp2
        go_ret2
        exact ⟨x4, 1, rfl, hx4, by omega, A4.out⟩
      · have z0' : (k4 == 0) = false := by simpa using z0
        by_cases z12 : k4 = 12
        · subst z12
          go_wp2
          go_ret2
          exact ⟨x4, 2, rfl, hx4, by omega, A4.out⟩
        · have z12' : (k4 == 12) = false := by simpa using z12
          go_wp2
          go_ret2
          exact ⟨x4, 0, rfl, hx4, by omega, A4.out⟩
    · have hq1 := hq.out
      have M4 := hMd.out _ 0 i j k hA0 hC0 (by omega) (by omega) (by omega) (by omega)
      clear hA0 hC0 hq1
      go_enter Tryd.func41, Tryd.ntmps41
      go_upto_region 12 with (go_at_call 53; (with_reducible refine M4.mono ?_); rintro e4 w4 ⟨x4, k4, rfl, h4, j4, C4, A4, b4, s4⟩)
      have hx4 : a ≤ x4 ∧ x4 < b := by have hq1 := hq.out; omega
      have hk4 : 0 ≤ k4 := by omega
      obtain ⟨c4, f4⟩ := C4.cell
      replace A4 := Lib.hid A4
      replace s4 := Lib.hid s4
      clear hq h4 b4 hMa hMd
      by_cases z0 : k4 = 0
      · subst z0
        go_wp2
        go_ret2
        exact ⟨x4, 1, rfl, hx4, by omega, A4.out⟩
      · have z0' : (k4 == 0) = false := by simpa using z0
        by_cases z12 : k4 = 12
        · subst z12
          go_wp2
          go_ret2
          exact ⟨x4, 2, rfl, hx4, by omega, A4.out⟩
        · have z12' : (k4 == 12) = false := by simpa using z12
          go_wp2
          go_ret2
          exact ⟨x4, 0, rfl, hx4, by omega, A4.out⟩
  · have hx4 : a ≤ j ∧ j < b := by have hq1 := hq.out; omega
    replace hA0 := Lib.hid hA0
    obtain ⟨c4, f4⟩ := hC0.cell
    clear hq hMa hMd hC0
    go_enter Tryd.func41, Tryd.ntmps41
    go_wp2
    go_ret2
    exact ⟨j, 1, rfl, hx4, by omega, hA0.out⟩
end Go.Proofs.YtgpapbpkcggolaaDoor
