/- Heat: what the statements ask at their end: the chapter's zone feels 60 degrees; walked. -/
import Derived.Test.YtdjdkhbagoideaaDoorStep4
namespace Go.Proofs.YtdjdkhbagoideaaDoor
open Go.RowKit Go.BigFrame flt Ieee

theorem tps_one {w : World} {g : Nat} {t : Tp} (h : w.heap[g]? = some (.cells #[.float .f64 t.a, .float .f64 t.b, .int .u8 t.k] 36)) : Tps w (some ⟨g, 0, none⟩) [t] := by
  refine ⟨by simp, fun r hr => ?_, fun _ => ⟨g, 0, rfl, trivial, heap_lt h, fun i r hr f u hu => ?_⟩⟩
  · simp only [List.map_cons, List.map_nil, List.mem_singleton] at hr
    subst hr; rfl
  · cases i with
    | zero =>
      simp only [List.map_cons, List.map_nil, List.getElem?_cons_zero, Option.some.injEq] at hr
      subst hr
      rw [Nat.zero_mul, Nat.zero_add]
      rw [cell_of_row _ _ f _ 36 (0, 0) h]
      simpa [tprow] using hu
    | succ i => simp at hr
def za : Zn := ⟨4602678819172646912, 4630826316843712512, 4602678819172646912, 4598175219545276416, 4636737291354636288, 10, [⟨4632233691727265792, 4617315517961601024, 1⟩]⟩
def sa1 : Hs := nxt za (hs0 1) 4633641066610819072 4607182418800017408
theorem za_ok : okZ za = true := by decide +kernel
theorem za1 : code (hs0 1) 4633641066610819072 4607182418800017408 = 0 ∧ (told za (hs0 1) 4633641066610819072 4607182418800017408).lv = 10 ∧ (told za (hs0 1) 4633641066610819072 4607182418800017408).ev = [(0, true)] := by decide +kernel
theorem za2 : code sa1 4629137466983448576 4607182418800017408 = 0 ∧ (told za sa1 4629137466983448576 4607182418800017408).d = 4631530004285489152 ∧ (told za sa1 4629137466983448576 4607182418800017408).lv = 9 ∧ (told za sa1 4629137466983448576 4607182418800017408).ev = [] ∧ (nxt za sa1 4629137466983448576 4607182418800017408).on = [true] := by decide +kernel
set_option maxHeartbeats 4000000 in
set_option maxRecDepth 100000 in
theorem awake_any (W : World) : Calls Tryd.prog 14 #[] W fun e w' => e = .returned (.bool true) ∧ Below W.heap.size W w' := by
  have hx := heap_alloc_at W (.cells #[.float .f64 4632233691727265792, .float .f64 4617315517961601024, .int .u8 1] 36)
  have hb := below_al (Below.refl W.heap.size W) (.cells #[.float .f64 4632233691727265792, .float .f64 4617315517961601024, .int .u8 1] 36)
  have KN := new_yes za (some ⟨W.heap.size, 0, none⟩) 1 1 _ (tps_one (t := ⟨4632233691727265792, 4617315517961601024, 1⟩) hx) rfl za_ok
  have hZ := okZ_zok za_ok
  have hok0 : Hok za (hs0 1) := hok0 za hZ
  simp only [zarr, za] at KN
  have e45 : (FloatKind.f64.format.order 4631530004285489152 4631530004285489152 == some .eq) = true := by decide +kernel
  go_enter Tryd.func14, Tryd.ntmps14
  go_upto_region 2 with (go_at_call 6; (with_reducible refine (KN).mono ?_); rintro e w1 ⟨g, v, vo, rfl, hW1, hb1⟩)
  have hb01 := hb.trans (hb1.mono hb.size)
  clear hx hb KN
  have hW1' : Wt w1 _ g za v vo (hs0 1) := hW1
  have hgl := heap_lt hW1.hb
  have hgl0 : W.heap.size ≤ g := Nat.le_trans (Nat.le_of_lt (Nat.lt_succ_self _)) (show W.heap.size + 1 ≤ g from (size_al W _) ▸ hW1.hB)
  have hog := fun b (e : vo.ownBlock = some b) => (hW1.og b e).1
  replace hog := Lib.hid hog
  obtain ⟨a1, a2, a3⟩ := za1
  obtain ⟨c1, c2, c3, c4, c5⟩ := za2
  have hok1 := nxt_ok hZ hok0 4633641066610819072 4607182418800017408
  have K1 := step_any hW1' hZ hok0 4633641066610819072 4607182418800017408
  rw [a1, a2, a3] at K1
  simp only [sarr] at K1
  have hs1 : nxt za (hs0 1) 4633641066610819072 4607182418800017408 = sa1 := rfl
  rw [hs1] at K1 hok1
  generalize (told za (hs0 1) 4633641066610819072 4607182418800017408).d = d1 at *
  generalize (told za (hs0 1) 4633641066610819072 4607182418800017408).br = br1 at *
  generalize (told za (hs0 1) 4633641066610819072 4607182418800017408).sh = sh1 at *
  clear hW1 hW1' a1 a2 a3 hs1 hok0 hb1
  have hglo := hgl0
  replace hglo := Lib.hid hglo
  go_upto_region 3 with (first
    | (go_at_call 5; (with_reducible refine (K1).mono ?_); rintro e w2 ⟨tv, rfl, ho1, hW2, hF2⟩; obtain ⟨gt, ct, rfl, ht1, ht2⟩ := own_form0 ho1 (by decide); rw [show ((([(0, true)] : List (Nat × Bool)).map erow).length) = 1 from rfl] at ho1 ⊢)
    | (refine wpList_store_row rfl 26 _ _ rfl w2.heap.size #[.float .f64 d1, .bool br1, .int .i64 10, .bool sh1, .slice (some ⟨gt, 0, none⟩) 1 ct] rfl rfl 26 _ (heap_alloc_at _ _) (by kernel_rfl) (by kernel_rfl) (by kernel_rfl) ?_))
  (try rw [setRow_alloc _ _ _ _ _ rfl])
  (try simp only [Act.put])
  have hvo1 : ∀ b, vo.ownBlock = some b → W.heap.size ≤ b := fun b e => by
    have h := (hW2.on.lt b e).1
    rw [size_al] at h
    omega
  have hb2 : Below W.heap.size W w2 := hb01.trans (hF2.below hb01.size (fun b e => by
    rcases e with e | e
    · subst e; exact hglo.out
    · exact hvo1 b e))
  have hxs := heap_alloc_at w2 (.cells #[.float .f64 d1, .bool br1, .int .i64 10, .bool sh1, .slice (some ⟨gt, 0, none⟩) 1 ct] 26)
  have hb3 := below_al hb2 (.cells #[.float .f64 d1, .bool br1, .int .i64 10, .bool sh1, .slice (some ⟨gt, 0, none⟩) 1 ct] 26)
  have hW3 := hW2.below (below_al (Below.refl _ _) (.cells #[.float .f64 d1, .bool br1, .int .i64 10, .bool sh1, .slice (some ⟨gt, 0, none⟩) 1 ct] 26))
  have ho3 := ho1.alloc (.cells #[.float .f64 d1, .bool br1, .int .i64 10, .bool sh1, .slice (some ⟨gt, 0, none⟩) 1 ct] 26)
  have hgw2 : g < w2.heap.size := heap_lt hW2.hb
  generalize w2.alloc (.cells #[.float .f64 d1, .bool br1, .int .i64 10, .bool sh1, .slice (some ⟨gt, 0, none⟩) 1 ct] 26) = w3 at *
  have K2 := step_any hW3 hZ hok1 4629137466983448576 4607182418800017408
  rw [c1, c2, c3, c4] at K2
  simp only [sarr] at K2
  generalize (told za sa1 4629137466983448576 4607182418800017408).br = br2 at *
  generalize (told za sa1 4629137466983448576 4607182418800017408).sh = sh2 at *
  obtain ⟨sa2, hsa2⟩ : ∃ x, nxt za sa1 4629137466983448576 4607182418800017408 = x := ⟨_, rfl⟩
  rw [hsa2] at K2 c5
  replace c5 := Lib.hid c5
  clear K1 hW2 hW3 hF2 ho1 hb2 c1 c2 c3 c4 hsa2 hok1
  go_upto_region 4 with (first
    | (go_at_call 5; (with_reducible refine (K2).mono ?_); rintro e w4 ⟨tv2, rfl, ho4, hW4, hF4⟩; obtain ⟨t2, c2, rfl, -⟩ := ho4.sl; rw [show ((([] : List (Nat × Bool)).map erow).length) = 0 from rfl] at ho4 ⊢)
    | (refine wpList_store_row rfl 26 _ _ rfl w4.heap.size #[.float .f64 4631530004285489152, .bool br2, .int .i64 9, .bool sh2, .slice t2 0 c2] rfl rfl 26 _ (heap_alloc_at _ _) (by kernel_rfl) (by kernel_rfl) (by kernel_rfl) ?_))
  (try rw [setRow_alloc _ _ _ _ _ rfl])
  (try simp only [Act.put])
  have hfree : ∀ b, g < b → ¬ (b = g ∨ vo.ownBlock = some b) := fun b h e => by
    rcases e with e | e
    · omega
    · have := hog.out b e; omega
  have hb4 : Below W.heap.size W w4 := hb3.trans (hF4.below hb3.size (fun b e => by
    rcases e with e | e
    · subst e; exact hglo.out
    · exact hvo1 b e))
  have hlt2 := heap_lt hxs
  have hxs4 := (hF4.k _ hlt2 (hfree _ hgw2)).trans hxs
  have ho5 := ho3.keep (w' := w4) (fun b e => hF4.k b (ho3.lt b e).2 (hfree b (by have := (ho3.lt b e).1; omega)))
  have hxs5 := heap_alloc (o := .cells #[.float .f64 4631530004285489152, .bool br2, .int .i64 9, .bool sh2, .slice t2 0 c2] 26) hxs4
  have ho6 := ho5.alloc (.cells #[.float .f64 4631530004285489152, .bool br2, .int .i64 9, .bool sh2, .slice t2 0 c2] 26)
  have hxt := heap_alloc_at w4 (.cells #[.float .f64 4631530004285489152, .bool br2, .int .i64 9, .bool sh2, .slice t2 0 c2] 26)
  have hW5 := hW4.below (below_al (Below.refl _ _) (.cells #[.float .f64 4631530004285489152, .bool br2, .int .i64 9, .bool sh2, .slice t2 0 c2] 26))
  have hb5 := below_al hb4 (.cells #[.float .f64 4631530004285489152, .bool br2, .int .i64 9, .bool sh2, .slice t2 0 c2] 26)
  generalize w4.alloc (.cells #[.float .f64 4631530004285489152, .bool br2, .int .i64 9, .bool sh2, .slice t2 0 c2] 26) = w5 at *
  have x2 : w5.cell? ⟨w2.heap.size, 2, none⟩ = some (.int .i64 10) := by rw [cell_of_row _ _ 2 _ 26 (0, 0) hxs5]; rfl
  have x4 : w5.cell? ⟨w2.heap.size, 4, none⟩ = some (.slice (some ⟨gt, 0, none⟩) 1 ct) := by rw [cell_of_row _ _ 4 _ 26 (0, 0) hxs5]; rfl
  have xg : w5.cell? ⟨gt, 1, none⟩ = some (.bool true) := (ho6.cells rfl (k := 0) (by decide) (r := [.int .i64 0, .bool true]) rfl (f := 1) (u := .bool true) rfl).1
  have t0 : w5.cell? ⟨w4.heap.size, 0, none⟩ = some (.float .f64 4631530004285489152) := by rw [cell_of_row _ _ 0 _ 26 (0, 0) hxt]; rfl
  have tt2 : w5.cell? ⟨w4.heap.size, 2, none⟩ = some (.int .i64 9) := by rw [cell_of_row _ _ 2 _ 26 (0, 0) hxt]; rfl
  have tt4 : w5.cell? ⟨w4.heap.size, 4, none⟩ = some (.slice t2 0 c2) := by rw [cell_of_row _ _ 4 _ 26 (0, 0) hxt]; rfl
  have KO := on_any hW5 (by rw [c5.out]; exact Nat.le_refl _) 0
  rw [c5.out] at KO
  simp only [Int.le_refl, if_true, Int.toNat_zero, List.getD_cons_zero] at KO
  replace hb5 := Lib.hid hb5
  clear K2 hW4 hW5 hF4 ho3 ho4 ho5 ho6 hxs hxs4 hxs5 hxt hb3 hb4 hb01 hfree
  go_wp2_with (go_at_call 12; (with_reducible refine (KO).mono ?_); rintro e w6 ⟨rfl, rfl⟩)
  go_ret
  exact ⟨rfl, hb5.out⟩
end Go.Proofs.YtdjdkhbagoideaaDoor
