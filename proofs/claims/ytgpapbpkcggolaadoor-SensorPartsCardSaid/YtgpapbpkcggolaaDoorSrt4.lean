/- Sensor: the sort's breakPatterns, walked at small numbers. -/
import Derived.Test.YtgpapbpkcggolaaDoorSrt1
import Derived.Test.YtgpapbpkcggolaaDoorShf
import Derived.Sort.WalkA14
import Derived.Laws.Bits64b
namespace Go.Proofs.YtgpapbpkcggolaaDoor
open Go.RowKit Go.BigFrame

theorem npow_any (l : Nat) (h1 : 1 ≤ l) (h2 : l ≤ 4096) (w : World) : Calls Tryd.prog 50 #[.int .i64 l] w fun e w' => ∃ M : Nat, e = .returned (.int .u64 M) ∧ (1 ≤ M ∧ M ≤ 2 * l) ∧ w = w' := by
  have hB := Tryd.bits_Len l w (by omega) (by omega)
  rw [Int.toNat_natCast] at hB
  have hk : Lib.bitLen l = Sort.bitsLen l := bitLen_eq l (by omega)
  have hp := Sort.two_pow_bitsLen_le (n := l) (by omega)
  have hp1 := Nat.two_pow_pos (Sort.bitsLen l)
  rw [hk] at hB
  generalize Sort.bitsLen l = k at *
  have hk13 : k ≤ 13 := by
    rcases Nat.lt_or_ge 13 k with q | q
    · have := Nat.pow_le_pow_right (n := 2) (by decide) q
      omega
    · exact q
  clear hk
  go_enter Tryd.func50, Tryd.ntmps50
  go_wp2_with (go_at_call 37; refine hB.mono ?_; rintro e w' ⟨rfl, rfl⟩)
  go_ret
  refine ⟨2 ^ k, ?_, by omega, rfl⟩
  have e : IntKind.u64.wrap ((2 : Int) ^ k) = ((2 ^ k : Nat) : Int) := by
    have e2 : ((2 : Int) ^ k) = ((2 ^ k : Nat) : Int) := by push_cast; rfl
    rw [e2, IntKind.wrap_u64]
    generalize 2 ^ k = q at *
    omega
  show Ending.returned (Value.int IntKind.u64 (IntKind.u64.wrap (2 ^ k))) = _
  rw [e]
/-- the box of a number of 64 bits -/
structure U64 (w : World) (B : Nat) (r : Int) : Prop where
  c : w.heap[B]? = some (.cells #[.int .u64 r] 76)
theorem U64.cell {w : World} {B : Nat} {k : Int} (h : U64 w B k) : w.cell? ⟨B, 0, none⟩ = some (.int .u64 k) ∧ w.frozen? ⟨B, 0, none⟩ = false :=
  ⟨by rw [cell_of_row w B 0 _ 76 (0, 0) h.c]; rfl, frozen_row h.c 0⟩
theorem U64.keep {w w' : World} {B : Nat} {k : Int} (h : U64 w B k) (e : w'.heap[B]? = w.heap[B]?) : U64 w' B k := ⟨e.trans h.c⟩
theorem U64.set {w : World} {B : Nat} {k : Int} (h : U64 w B k) (j : Int) : U64 (w.setCell ⟨B, 0, none⟩ (.int .u64 j)) B j := by
  refine ⟨?_⟩
  have := heap_set h.c 0 (.int .u64 j)
  simpa using this
theorem bits_rng (x y : Int) : 0 ≤ bits .xor .u64 x y ∧ bits .xor .u64 x y ≤ 18446744073709551615 := by
  show 0 ≤ IntKind.u64.wrap _ ∧ IntKind.u64.wrap _ ≤ _
  rw [IntKind.wrap_u64]
  omega
set_option maxRecDepth 100000 in
theorem next64_any {w : World} {B : Nat} {r : Int} (hB : U64 w B r) : Calls Tryd.prog 51 #[.pointer (some ⟨B, 0, none⟩)] w fun e w' => ∃ q : Nat, e = .returned (.int .u64 q) ∧ q ≤ 18446744073709551615 ∧ U64 w' B q ∧ Fr w.heap.size (fun b => b = B) w w' ∧ w'.heap.size = w.heap.size := by
  obtain ⟨c0, f0⟩ := hB.cell
  go_enter Tryd.func51, Tryd.ntmps51
  go_upto_region 1 with fail
  go_region
  generalize bits BinOp.xor IntKind.u64 r (IntKind.u64.wrap (r * 8192)) = x1
  obtain ⟨w1, hw1⟩ : ∃ x : World, x = (w.setCell ⟨B, 0, none⟩ (.int .u64 x1)).drew := ⟨_, rfl⟩
  have hB1 : U64 w1 B x1 := by rw [hw1]; exact (hB.set x1).keep rfl
  have hF1 : Fr w.heap.size (fun b => b = B) w w1 := by rw [hw1]; exact ((Fr.refl _ (fun b => b = B) _).set (p := ⟨B, 0, none⟩) (fun _ => rfl) _).drewN 1
  have hs1 : Hid (w1.heap.size = w.heap.size) := Lib.hid (by rw [hw1]; exact size_set _ _ _)
  rw [← hw1]
  clear hw1 c0 f0 hB
  obtain ⟨c0, f0⟩ := hB1.cell
  go_upto_region 2 with fail
  go_region
  generalize bits BinOp.xor IntKind.u64 x1 (x1 / 128) = x2
  obtain ⟨w2, hw2⟩ : ∃ x : World, x = (w1.setCell ⟨B, 0, none⟩ (.int .u64 x2)).drew := ⟨_, rfl⟩
  have hB2 : U64 w2 B x2 := by rw [hw2]; exact (hB1.set x2).keep rfl
  have hF2 : Fr w.heap.size (fun b => b = B) w w2 := by rw [hw2]; exact (hF1.set (p := ⟨B, 0, none⟩) (fun _ => rfl) _).drewN 1
  have hs2 : Hid (w2.heap.size = w.heap.size) := Lib.hid (by rw [hw2, ← hs1.out]; exact size_set _ _ _)
  rw [← hw2]
  clear hw2 c0 f0 hB1 hF1 hs1
  obtain ⟨c0, f0⟩ := hB2.cell
  go_upto_region 3 with fail
  go_region
  obtain ⟨h0, h1⟩ := bits_rng x2 (IntKind.u64.wrap (x2 * 131072))
  generalize bits BinOp.xor IntKind.u64 x2 (IntKind.u64.wrap (x2 * 131072)) = x3 at *
  obtain ⟨w3, hw3⟩ : ∃ x : World, x = (w2.setCell ⟨B, 0, none⟩ (.int .u64 x3)).drew := ⟨_, rfl⟩
  have hB3 : U64 w3 B x3 := by rw [hw3]; exact (hB2.set x3).keep rfl
  have hF3 : Fr w.heap.size (fun b => b = B) w w3 := by rw [hw3]; exact (hF2.set (p := ⟨B, 0, none⟩) (fun _ => rfl) _).drewN 1
  have hs3 : Hid (w3.heap.size = w.heap.size) := Lib.hid (by rw [hw3, ← hs2.out]; exact size_set _ _ _)
  rw [← hw3]
  clear hw3 c0 f0 hB2 hF2 hs2
  obtain ⟨c0, f0⟩ := hB3.cell
  obtain ⟨q, rfl⟩ : ∃ q : Nat, x3 = (q : Int) := ⟨x3.toNat, by omega⟩
  have hq := Lib.hid (show q ≤ 18446744073709551615 by omega)
  clear h0 h1
  go_wp2
  go_ret
  exact ⟨q, rfl, hq.out, hB3, hF3, hs3.out⟩
set_option maxHeartbeats 4000000 in
set_option maxRecDepth 100000 in
theorem break_any {w0 w : World} {g n c a b : Nat} {d : Array Int} (h : Ar w0 w 35 g n c d) (hb : b ≤ n) (hab : a < b) (hn : n ≤ 4096) :
    Calls Tryd.prog 40 #[.slice (some ⟨g, 0, none⟩) n c, .int .i64 a, .int .i64 b] w fun e w' => ∃ d' : Array Int, e = .returned (.tuple #[]) ∧ Sort.PermIn a b d d' ∧ Ar w0 w' 35 g n c d' := by
  obtain ⟨l, hl⟩ : ∃ l : Nat, l = b - a := ⟨_, rfl⟩
  have el : (b : Int) - (a : Int) = (l : Int) := by omega
  have bl : l ≤ 4096 := by omega
  by_cases h8 : 8 ≤ l
  · obtain ⟨m, hm⟩ : ∃ m : Nat, m = l / 4 := ⟨_, rfl⟩
    have em : (l : Int).tdiv 4 = (m : Int) := by rw [Int.tdiv_eq_ediv_of_nonneg (by omega)]; omega
    obtain ⟨i, hi⟩ : ∃ i : Nat, i = a + m * 2 - 1 := ⟨_, rfl⟩
    have ei : (a : Int) + (m : Int) * 2 = (i : Int) + 1 := by omega
    have bm : m ≤ 1024 := by omega
    have bi : i ≤ 8192 := by omega
    have hq := Lib.hid (And.intro hl (And.intro hm hi))
    clear hl hm hi
    have hN := npow_any l (by omega) bl
    go_enter Tryd.func40, Tryd.ntmps40
    go_upto_region 5 with (go_at_call 50; (with_reducible refine (hN _).mono ?_); rintro e w1 ⟨M, rfl, ⟨M1, M2⟩, hw1⟩)
    have hgw := h.lt
    have hBg : Hid (w.heap.size ≠ g) := Lib.hid (by omega)
    have hB0 := Lib.hid h.f.size
    have hA0 : Hid (Ar w0 w1 35 g n c d) := Lib.hid (by rw [← hw1]; exact h.below (below_al (Below.refl _ _) _))
    have hU0 : Hid (U64 w1 w.heap.size (l : Int)) := Lib.hid ⟨by rw [← hw1]; exact heap_alloc_at _ _⟩
    clear hw1 hN h hgw
    obtain ⟨M', rfl⟩ : ∃ M' : Nat, M = M' + 1 := ⟨M - 1, by omega⟩
    rw [show ((M' + 1 : Nat) : Int) = (M' : Int) + 1 by omega]
    go_loopw [9, 10] (fun s9 _ wr => ∃ (p : Nat) (r : Int) (dk : Array Int), i ≤ p ∧ p ≤ i + 3 ∧ s9 = .int .i64 p ∧ Hid (Sort.PermIn a b d dk) ∧ Hid (Ar w0 wr 35 g n c dk) ∧ Hid (U64 wr w.heap.size r)) (fun s9 _ _ => i + 3 - (intOf s9).toNat)
    case atStart => exact ⟨i, l, d, by omega, by omega, by go_num, Lib.hid (Sort.permIn_refl _ _ _), hA0, hU0⟩
    case round =>
      clear hA0 hU0
      obtain ⟨p, r, dk, hp, hp3, rfl, hP, hA, hU⟩ := hrel
      obtain ⟨wk, rfl⟩ : ∃ x : World, x = wr := ⟨_, rfl⟩
      by_cases hpi : p ≤ i + 2
      · have N := next64_any hU.out
        have hA2 : Hid (∀ w' : World, Fr wk.heap.size (fun b => b = w.heap.size) wk w' → Ar w0 w' 35 g n c dk) := Lib.hid fun w' q => hA.out.keep (q.mono hA.out.f.size (fun b hb e => by have := hB0.out; omega)) (q.k g hA.out.lt (fun e => hBg.out e.symm))
        clear hA hU
        go_upto_region 8 with (go_at_call 51; (with_reducible refine N.mono ?_); rintro e w2 ⟨q, rfl, hq2, hU2, hF2, hs2⟩; have eAnd : bits .and .u64 (q : Int) (M' : Int) = ((q &&& M' : Nat) : Int) := (by exact bits_and_u64_nat q M' (by omega) (by omega)); have hOb : q &&& M' ≤ M' := Nat.and_le_right; generalize q &&& M' = O at *)
        replace hA2 := Lib.hid (hA2.out w2 hF2)
        replace hs2 := Lib.hid hs2
        have hO2 : O < 2 * l := by omega
        clear hF2 eAnd hOb
        have hqo := hq.out
        by_cases hOl : l ≤ O
        · obtain ⟨o, ho⟩ : ∃ o : Nat, o = O - l := ⟨_, rfl⟩
          have eo : (O : Int) - (l : Int) = (o : Int) := by omega
          obtain ⟨y, hy⟩ : ∃ y : Nat, y = a + o := ⟨_, rfl⟩
          have hol : o < l := by omega
          have ey : (a : Int) + (o : Int) = (y : Int) := by omega
          have hyn : y < n := by omega
          have hpn : p < n := by omega
          have hpab : a ≤ p ∧ p < b ∧ a ≤ y ∧ y < b := by omega
          have cx := (hA2.out.cell (k := p) (by omega)).1
          have fx := (hA2.out.cell (k := p) (by omega)).2
          have cy := (hA2.out.cell (k := y) (by omega)).1
          have fy := (hA2.out.cell (k := y) (by omega)).2
          have hsw := Lib.hid (hA2.out.swpD (i := p) (j := y) (by omega) (by omega))
          have hpm := Lib.hid (Sort.permIn_trans _ _ _ a b hP.out (Sort.swp_permIn dk a b p y hpab.1 hpab.2.1 hpab.2.2.1 hpab.2.2.2 (by rw [hA2.out.sz]; exact hb)))
          have hUs := Lib.hid ((hU2.keep (w' := ((w2.setCell ⟨g, p, none⟩ (.int .i8 dk[y]!)).setCell ⟨g, y, none⟩ (.int .i8 dk[p]!)).drew) (by
            show (((w2.setCell ⟨g, p, none⟩ (.int .i8 dk[y]!)).setCell ⟨g, y, none⟩ (.int .i8 dk[p]!))).heap[w.heap.size]? = _
            rw [Below.heap_setCell _ _ _ _ (fun e => hBg.out e), Below.heap_setCell _ _ _ _ (fun e => hBg.out e)])))
          clear hA2 hU2 hP hpab hqo
          replace ho := Lib.hid ho
          replace hy := Lib.hid hy
          by_cases hz : y = p
          · have hz2 := hz.symm
            subst hz2
            clear cy fy hz
            generalize dk[p]! = vx at *
            go_upto_region 10 with fail
            go_region
            all_goals go_wp2
            go_roundw
            case rel => exact ⟨p + 1, _, _, by omega, by omega, by go_num, hpm, hsw, hUs⟩
            case measure => first | (simp [intOf]; done) | (simp [intOf]; omega)
          · have hz3 : (p < y) ∨ (y < p) := by omega
            generalize dk[p]! = vx at *
            generalize dk[y]! = vy at *
            go_upto_region 10 with fail
            go_region
            all_goals go_wp2
            go_roundw
            case rel => exact ⟨p + 1, _, _, by omega, by omega, by go_num, hpm, hsw, hUs⟩
            case measure => first | (simp [intOf]; done) | (simp [intOf]; omega)
        · obtain ⟨y, hy⟩ : ∃ y : Nat, y = a + O := ⟨_, rfl⟩
          have hol : O < l := by omega
          have ey : (a : Int) + (O : Int) = (y : Int) := by omega
          have hyn : y < n := by omega
          have hpn : p < n := by omega
          have hpab : a ≤ p ∧ p < b ∧ a ≤ y ∧ y < b := by omega
          have cx := (hA2.out.cell (k := p) (by omega)).1
          have fx := (hA2.out.cell (k := p) (by omega)).2
          have cy := (hA2.out.cell (k := y) (by omega)).1
          have fy := (hA2.out.cell (k := y) (by omega)).2
          have hsw := Lib.hid (hA2.out.swpD (i := p) (j := y) (by omega) (by omega))
          have hpm := Lib.hid (Sort.permIn_trans _ _ _ a b hP.out (Sort.swp_permIn dk a b p y hpab.1 hpab.2.1 hpab.2.2.1 hpab.2.2.2 (by rw [hA2.out.sz]; exact hb)))
          have hUs := Lib.hid ((hU2.keep (w' := ((w2.setCell ⟨g, p, none⟩ (.int .i8 dk[y]!)).setCell ⟨g, y, none⟩ (.int .i8 dk[p]!)).drew) (by
            show (((w2.setCell ⟨g, p, none⟩ (.int .i8 dk[y]!)).setCell ⟨g, y, none⟩ (.int .i8 dk[p]!))).heap[w.heap.size]? = _
            rw [Below.heap_setCell _ _ _ _ (fun e => hBg.out e), Below.heap_setCell _ _ _ _ (fun e => hBg.out e)])))
          clear hA2 hU2 hP hpab hqo
          replace hy := Lib.hid hy
          by_cases hz : y = p
          · have hz2 := hz.symm
            subst hz2
            clear cy fy hz
            generalize dk[p]! = vx at *
            go_upto_region 10 with fail
            go_region
            all_goals go_wp2
            go_roundw
            case rel => exact ⟨p + 1, _, _, by omega, by omega, by go_num, hpm, hsw, hUs⟩
            case measure => first | (simp [intOf]; done) | (simp [intOf]; omega)
          · have hz3 : (p < y) ∨ (y < p) := by omega
            generalize dk[p]! = vx at *
            generalize dk[y]! = vy at *
            go_upto_region 10 with fail
            go_region
            all_goals go_wp2
            go_roundw
            case rel => exact ⟨p + 1, _, _, by omega, by omega, by go_num, hpm, hsw, hUs⟩
            case measure => first | (simp [intOf]; done) | (simp [intOf]; omega)
      · clear hU
        go_wp2
        go_end0
        exact ⟨dk, rfl, hP.out, hA.out⟩
  · have h' := Lib.hid h
    clear h hl
    go_enter Tryd.func40, Tryd.ntmps40
    go_wp2
    go_end0
    exact ⟨d, rfl, Sort.permIn_refl _ _ _, h'.out⟩
end Go.Proofs.YtgpapbpkcggolaaDoor
