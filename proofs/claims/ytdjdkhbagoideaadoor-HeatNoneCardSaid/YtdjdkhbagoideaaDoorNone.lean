/- HeatNone, walked. Printed by tools/gen_none.py. -/
import Derived.Test.YtdjdkhbagoideaaDoorNn1
import Derived.Test.YtdjdkhbagoideaaDoorAwk
namespace Go.Proofs.YtdjdkhbagoideaaDoor
open Go.RowKit Go.BigFrame flt Ieee

def zn : Zn := ⟨4607182418800017408, 0, 4696837146684686336, 4696837146684686336, 4696837146684686336, 100, [⟨13920209183539462144, 4696837146684686336, 1⟩]⟩
def zz : Zn := ⟨0, 0, 0, 0, 0, 0, []⟩
def z9 : Zn := ⟨4607182418800017408, 0, 4696837146684686336, 4696837146684686336, 4696837146684686336, 100, List.replicate 9 ⟨0, 0, 0⟩⟩
def sn1 : Hs := nxt zn (hs0 1) 4696837146684686336 4696837146684686336
def sn2 : Hs := nxt zn sn1 13920209183539462144 4696837146684686336
def lv2 : Int := (told zn sn1 13920209183539462144 4696837146684686336).lv
theorem zn_ok : okZ zn = true := by decide +kernel
theorem zz_no : okZ zz = false := by decide +kernel
theorem z9_no : okZ z9 = false := by decide +kernel
theorem nxt_bad {Z : Zn} {s : Hs} {x secs : Nat} (h : badArg x secs = true) : nxt Z s x secs = s := by
  unfold nxt; rw [h]; simp
theorem sn_1 : code (hs0 1) 4696837146684686336 4696837146684686336 = 0 ∧ (told zn (hs0 1) 4696837146684686336 4696837146684686336).lv = 100 := by decide +kernel
theorem sn_2 : code sn1 13920209183539462144 4696837146684686336 = 0 ∧ (lv2 = 100 ∨ lv2 = 0) := by decide +kernel
theorem sn_3 : code sn2 4696837155274620928 4607182418800017408 = 1 ∧ nxt zn sn2 4696837155274620928 4607182418800017408 = sn2 := ⟨by decide +kernel, nxt_bad (by decide +kernel)⟩
theorem sn_4 : code sn2 18442240474082181120 4607182418800017408 = 1 ∧ nxt zn sn2 18442240474082181120 4607182418800017408 = sn2 := ⟨by decide +kernel, nxt_bad (by decide +kernel)⟩
theorem sn_5 : code sn2 4607182418800017408 9221120237041090561 = 1 ∧ nxt zn sn2 4607182418800017408 9221120237041090561 = sn2 := ⟨by decide +kernel, nxt_bad (by decide +kernel)⟩
theorem rd_0 : reads 0 = 9221120237041090561 ∧ reads 625000 = 13854198353698488320 := by decide +kernel

theorem Has.below {w w' : World} (h : Has w) (d : Below w.heap.size w w') : Has w' := by
  obtain ⟨t, fr, h⟩ := h
  exact ⟨t, fr, (d.block 1 (heap_lt h)).trans h⟩
set_option maxHeartbeats 16000000 in
set_option maxRecDepth 100000 in
theorem none_walk (W : World) (hH : Has W) : Calls Tryd.prog 3 #[] W fun e w' => e = .returned (.bool true) ∧ Below W.heap.size W w' := by
  have KZ := fun (X : World) => new_no zz none 0 0 X (Sl.nil _ _ _ _) rfl zz_no
  have hZ := okZ_zok zn_ok
  have hok0 : Hok zn (hs0 1) := hok0 zn hZ
  have hok1 : Hok zn sn1 := nxt_ok hZ hok0 4696837146684686336 4696837146684686336
  have hok2 : Hok zn sn2 := nxt_ok hZ hok1 13920209183539462144 4696837146684686336
  have KNil := step_nil 4607182418800017408 4607182418800017408
  simp only [zarr, zz] at KZ
  simp only [sarr] at KNil
  go_enter Tryd.func3, Tryd.ntmps3
  go_upto_region 3 with (first
    | (go_at_call 5; (with_reducible refine (KNil _).mono ?_); rintro e w1 ⟨rfl, hb1⟩)
    | (refine wpList_store_row rfl 26 _ _ rfl w1.heap.size #[.float .f64 0, .bool false, .int .i64 0, .bool false, .slice none 0 0] rfl rfl 26 _ (heap_alloc_at _ _) (by kernel_rfl) (by kernel_rfl) (by kernel_rfl) ?_))
  (try rw [setRow_alloc _ _ _ _ _ rfl])
  (try simp only [Act.put])
  have h2 : Below W.heap.size W (w1.alloc (.cells #[.float .f64 0, .bool false, .int .i64 0, .bool false, .slice none 0 0] 26)) := below_al hb1 _
  generalize w1.alloc _ = w2 at *
  clear hb1
  go_upto_region 4 with (go_at_call 6; (with_reducible refine (KZ _).mono ?_); rintro e w3 ⟨rfl, hb3⟩)
  have h3 := h2.trans (hb3.mono h2.size)
  clear h2 hb3
  go_upto_region 5 with (refine wpList_store_row rfl 34 _ _ rfl (w3.heap.size + 1) #[.float .f64 4607182418800017408, .float .f64 0, .float .f64 4696837146684686336, .float .f64 4696837146684686336, .float .f64 4696837146684686336, .int .i64 100, .slice (some ⟨w3.heap.size, 0, none⟩) 1 1] rfl rfl 34 _ (heap_alloc_at' _ _ _ (by rw [size_al])) (by kernel_rfl) (by kernel_rfl) (by kernel_rfl) ?_)
  (try rw [setRow_alloc _ _ _ _ _ (by rw [size_al])])
  (try simp only [Act.put])
  have hx := heap_alloc (o := .cells #[.float .f64 4607182418800017408, .float .f64 0, .float .f64 4696837146684686336, .float .f64 4696837146684686336, .float .f64 4696837146684686336, .int .i64 100, .slice (some ⟨w3.heap.size, 0, none⟩) 1 1] 34) (heap_alloc_at w3 (.cells #[.float .f64 13920209183539462144, .float .f64 4696837146684686336, .int .u8 1] 36))
  have hy := heap_alloc_at' (w3.alloc (.cells #[.float .f64 13920209183539462144, .float .f64 4696837146684686336, .int .u8 1] 36)) (.cells #[.float .f64 4607182418800017408, .float .f64 0, .float .f64 4696837146684686336, .float .f64 4696837146684686336, .float .f64 4696837146684686336, .int .i64 100, .slice (some ⟨w3.heap.size, 0, none⟩) 1 1] 34) (w3.heap.size + 1) (by rw [size_al])
  have h4 : Below W.heap.size W ((w3.alloc (.cells #[.float .f64 13920209183539462144, .float .f64 4696837146684686336, .int .u8 1] 36)).alloc (.cells #[.float .f64 4607182418800017408, .float .f64 0, .float .f64 4696837146684686336, .float .f64 4696837146684686336, .float .f64 4696837146684686336, .int .i64 100, .slice (some ⟨w3.heap.size, 0, none⟩) 1 1] 34)) := below_al (below_al h3 _) _
  have h3s := h3.size
  generalize (w3.alloc _).alloc _ = w4 at *
  generalize w3.heap.size = P at *
  have KN := new_yes zn (some ⟨P, 0, none⟩) 1 1 w4 (tps_one (t := ⟨13920209183539462144, 4696837146684686336, 1⟩) hx) rfl zn_ok
  simp only [zarr, zn] at KN
  go_upto_region 6 with (first
    | (refine wpList_load_row rfl 34 _ rfl (P + 1) rfl 34 _ (0, 0) _ hy Tryd.underlying34 rfl (by kernel_rfl) ?_)
    | (go_at_call 6; (with_reducible refine (KN).mono ?_); rintro e w5 ⟨g, v, vo, rfl, hW, hb5⟩))
  have hP := heap_lt hy
  have hy5 := (hb5.block _ hP).trans hy
  have h5 := h4.trans (hb5.mono h4.size)
  have hW5 : Wt w5 w4.heap.size g zn v vo (hs0 1) := hW
  have h4s := h4.size
  clear hx hy KN hb5 hW h3 KZ KNil
  have hS : ∀ b, (b = g ∨ vo.ownBlock = some b) → w4.heap.size ≤ b ∧ b ≤ g := fun b e => by
    rcases e with e | e
    · have := hW5.hB; omega
    · have := hW5.on.lt b e; have := (hW5.og b e).1; omega
  have hg5 := heap_lt hW5.hb
  have hgP : w4.heap.size ≤ g := hW5.hB
  generalize w4.heap.size = B4 at *
  obtain ⟨c1, l1⟩ := sn_1
  obtain ⟨c2, l2⟩ := sn_2
  obtain ⟨c3, n3⟩ := sn_3
  obtain ⟨c4, n4⟩ := sn_4
  obtain ⟨c5, n5⟩ := sn_5
  have KInf := inf_any
  have KNan := nan_none

  have K := step_any hW5 hZ hok0 4696837146684686336 4696837146684686336
  rw [c1, l1, show nxt zn (hs0 1) 4696837146684686336 4696837146684686336 = sn1 from rfl] at K
  simp only [sarr] at K
  generalize (told zn (hs0 1) 4696837146684686336 4696837146684686336).d = d6 at K
  generalize (told zn (hs0 1) 4696837146684686336 4696837146684686336).br = b6 at K
  generalize (told zn (hs0 1) 4696837146684686336 4696837146684686336).sh = s6 at K
  generalize (told zn (hs0 1) 4696837146684686336 4696837146684686336).ev.map erow = e6 at K
  go_upto_region 7 with (first
    | (go_at_call 5; (with_reducible refine (K).mono ?_); rintro e wa ⟨tv, rfl, ho, hWa, hFa⟩; obtain ⟨tA6, tc6, rfl, -⟩ := ho.sl)
    | (refine wpList_store_row rfl 26 _ _ rfl wa.heap.size #[.float .f64 d6, .bool b6, .int .i64 100, .bool s6, .slice tA6 e6.length tc6] rfl rfl 26 _ (heap_alloc_at _ _) (by kernel_rfl) (by kernel_rfl) (by kernel_rfl) ?_))
  (try rw [setRow_alloc _ _ _ _ _ rfl])
  (try simp only [Act.put])
  have hba := below_al (Below.refl wa.heap.size wa) (.cells #[.float .f64 d6, .bool b6, .int .i64 100, .bool s6, .slice tA6 e6.length tc6] 26)
  have hW6 := hWa.below hba
  have h6 : Below W.heap.size W (wa.alloc (.cells #[.float .f64 d6, .bool b6, .int .i64 100, .bool s6, .slice tA6 e6.length tc6] 26)) := (h5.trans (hFa.below h5.size (fun b e => by have := (hS b e).1; omega))).trans (hba.mono (Nat.le_trans h5.size hFa.size))
  have hy6 := (hba.block _ (Nat.lt_of_lt_of_le (heap_lt hy5) hFa.size)).trans ((hFa.k _ (heap_lt hy5) (fun e => by have := (hS _ e).1; omega)).trans hy5)

  have p6 := heap_alloc_at wa (.cells #[.float .f64 d6, .bool b6, .int .i64 100, .bool s6, .slice tA6 e6.length tc6] 26)
  have q6 : g < wa.heap.size := Nat.lt_of_lt_of_le hg5 hFa.size

  have hg6 := heap_lt hW6.hb
  clear hWa hFa hba ho K hW5 h5 hy5 hg5
  generalize wa.alloc _ = w6 at *

  generalize wa.heap.size = P6 at *

  have K := step_any hW6 hZ hok1 13920209183539462144 4696837146684686336
  rw [c2, show (told zn sn1 13920209183539462144 4696837146684686336).lv = lv2 from rfl, show nxt zn sn1 13920209183539462144 4696837146684686336 = sn2 from rfl] at K
  simp only [sarr] at K
  generalize (told zn (sn1) 13920209183539462144 4696837146684686336).d = d7 at K
  generalize (told zn (sn1) 13920209183539462144 4696837146684686336).br = b7 at K
  generalize (told zn (sn1) 13920209183539462144 4696837146684686336).sh = s7 at K
  generalize (told zn (sn1) 13920209183539462144 4696837146684686336).ev.map erow = e7 at K
  go_upto_region 8 with (first
    | (go_at_call 5; (with_reducible refine (K).mono ?_); rintro e wa ⟨tv, rfl, ho, hWa, hFa⟩; obtain ⟨tA7, tc7, rfl, -⟩ := ho.sl)
    | (refine wpList_store_row rfl 26 _ _ rfl wa.heap.size #[.float .f64 d7, .bool b7, .int .i64 lv2, .bool s7, .slice tA7 e7.length tc7] rfl rfl 26 _ (heap_alloc_at _ _) (by kernel_rfl) (by kernel_rfl) (by kernel_rfl) ?_))
  (try rw [setRow_alloc _ _ _ _ _ rfl])
  (try simp only [Act.put])
  have hba := below_al (Below.refl wa.heap.size wa) (.cells #[.float .f64 d7, .bool b7, .int .i64 lv2, .bool s7, .slice tA7 e7.length tc7] 26)
  have hW7 := hWa.below hba
  have h7 : Below W.heap.size W (wa.alloc (.cells #[.float .f64 d7, .bool b7, .int .i64 lv2, .bool s7, .slice tA7 e7.length tc7] 26)) := (h6.trans (hFa.below h6.size (fun b e => by have := (hS b e).1; omega))).trans (hba.mono (Nat.le_trans h6.size hFa.size))
  have hy7 := (hba.block _ (Nat.lt_of_lt_of_le (heap_lt hy6) hFa.size)).trans ((hFa.k _ (heap_lt hy6) (fun e => by have := (hS _ e).1; omega)).trans hy6)

  have p67 := (hba.block _ (Nat.lt_of_lt_of_le (heap_lt p6) hFa.size)).trans ((hFa.k _ (heap_lt p6) (fun e => by have := (hS _ e).2; omega)).trans p6)
  clear p6
  have p6 := p67
  clear p67

  have p7 := heap_alloc_at wa (.cells #[.float .f64 d7, .bool b7, .int .i64 lv2, .bool s7, .slice tA7 e7.length tc7] 26)
  have q7 : g < wa.heap.size := Nat.lt_of_lt_of_le hg6 hFa.size

  have hg7 := heap_lt hW7.hb
  clear hWa hFa hba ho K hW6 h6 hy6 hg6
  generalize wa.alloc _ = w7 at *

  generalize wa.heap.size = P7 at *

  have K := step_any hW7 hZ hok2 4696837155274620928 4607182418800017408
  rw [c3, n3] at K
  simp only [sarr] at K
  generalize (told zn (sn2) 4696837155274620928 4607182418800017408).d = d8 at K
  generalize (told zn (sn2) 4696837155274620928 4607182418800017408).br = b8 at K
  generalize (told zn (sn2) 4696837155274620928 4607182418800017408).sh = s8 at K
  generalize (told zn (sn2) 4696837155274620928 4607182418800017408).lv = l8 at K
  generalize (told zn (sn2) 4696837155274620928 4607182418800017408).ev.map erow = e8 at K
  go_upto_region 9 with (first
    | (go_at_call 5; (with_reducible refine (K).mono ?_); rintro e wa ⟨tv, rfl, ho, hWa, hFa⟩; obtain ⟨tA8, tc8, rfl, -⟩ := ho.sl)
    | (refine wpList_store_row rfl 26 _ _ rfl wa.heap.size #[.float .f64 d8, .bool b8, .int .i64 l8, .bool s8, .slice tA8 e8.length tc8] rfl rfl 26 _ (heap_alloc_at _ _) (by kernel_rfl) (by kernel_rfl) (by kernel_rfl) ?_))
  (try rw [setRow_alloc _ _ _ _ _ rfl])
  (try simp only [Act.put])
  have hba := below_al (Below.refl wa.heap.size wa) (.cells #[.float .f64 d8, .bool b8, .int .i64 l8, .bool s8, .slice tA8 e8.length tc8] 26)
  have hW8 := hWa.below hba
  have h8 : Below W.heap.size W (wa.alloc (.cells #[.float .f64 d8, .bool b8, .int .i64 l8, .bool s8, .slice tA8 e8.length tc8] 26)) := (h7.trans (hFa.below h7.size (fun b e => by have := (hS b e).1; omega))).trans (hba.mono (Nat.le_trans h7.size hFa.size))
  have hy8 := (hba.block _ (Nat.lt_of_lt_of_le (heap_lt hy7) hFa.size)).trans ((hFa.k _ (heap_lt hy7) (fun e => by have := (hS _ e).1; omega)).trans hy7)

  have p68 := (hba.block _ (Nat.lt_of_lt_of_le (heap_lt p6) hFa.size)).trans ((hFa.k _ (heap_lt p6) (fun e => by have := (hS _ e).2; omega)).trans p6)
  clear p6
  have p6 := p68
  clear p68

  have p78 := (hba.block _ (Nat.lt_of_lt_of_le (heap_lt p7) hFa.size)).trans ((hFa.k _ (heap_lt p7) (fun e => by have := (hS _ e).2; omega)).trans p7)
  clear p7
  have p7 := p78
  clear p78

  have hg8 := heap_lt hW8.hb
  clear hWa hFa hba ho K hW7 h7 hy7 hg7
  generalize wa.alloc _ = w8 at *

  have K := step_any hW8 hZ hok2 18442240474082181120 4607182418800017408
  rw [c4, n4] at K
  simp only [sarr] at K
  generalize (told zn (sn2) 18442240474082181120 4607182418800017408).d = d9 at K
  generalize (told zn (sn2) 18442240474082181120 4607182418800017408).br = b9 at K
  generalize (told zn (sn2) 18442240474082181120 4607182418800017408).sh = s9 at K
  generalize (told zn (sn2) 18442240474082181120 4607182418800017408).lv = l9 at K
  generalize (told zn (sn2) 18442240474082181120 4607182418800017408).ev.map erow = e9 at K
  go_upto_region 10 with (first
    | (go_at_call 7; (with_reducible refine (KInf _).mono ?_); rintro e wq ⟨rfl, rfl⟩)
    | (go_at_call 5; (with_reducible refine (K).mono ?_); rintro e wa ⟨tv, rfl, ho, hWa, hFa⟩; obtain ⟨tA9, tc9, rfl, -⟩ := ho.sl)
    | (refine wpList_store_row rfl 26 _ _ rfl wa.heap.size #[.float .f64 d9, .bool b9, .int .i64 l9, .bool s9, .slice tA9 e9.length tc9] rfl rfl 26 _ (heap_alloc_at _ _) (by kernel_rfl) (by kernel_rfl) (by kernel_rfl) ?_))
  (try rw [setRow_alloc _ _ _ _ _ rfl])
  (try simp only [Act.put])
  have hba := below_al (Below.refl wa.heap.size wa) (.cells #[.float .f64 d9, .bool b9, .int .i64 l9, .bool s9, .slice tA9 e9.length tc9] 26)
  have hW9 := hWa.below hba
  have h9 : Below W.heap.size W (wa.alloc (.cells #[.float .f64 d9, .bool b9, .int .i64 l9, .bool s9, .slice tA9 e9.length tc9] 26)) := (h8.trans (hFa.below h8.size (fun b e => by have := (hS b e).1; omega))).trans (hba.mono (Nat.le_trans h8.size hFa.size))
  have hy9 := (hba.block _ (Nat.lt_of_lt_of_le (heap_lt hy8) hFa.size)).trans ((hFa.k _ (heap_lt hy8) (fun e => by have := (hS _ e).1; omega)).trans hy8)

  have p69 := (hba.block _ (Nat.lt_of_lt_of_le (heap_lt p6) hFa.size)).trans ((hFa.k _ (heap_lt p6) (fun e => by have := (hS _ e).2; omega)).trans p6)
  clear p6
  have p6 := p69
  clear p69

  have p79 := (hba.block _ (Nat.lt_of_lt_of_le (heap_lt p7) hFa.size)).trans ((hFa.k _ (heap_lt p7) (fun e => by have := (hS _ e).2; omega)).trans p7)
  clear p7
  have p7 := p79
  clear p79

  have hg9 := heap_lt hW9.hb
  clear hWa hFa hba ho K hW8 h8 hy8 hg8
  generalize wa.alloc _ = w9 at *

  have K := step_any hW9 hZ hok2 4607182418800017408 9221120237041090561
  rw [c5, n5] at K
  simp only [sarr] at K
  generalize (told zn (sn2) 4607182418800017408 9221120237041090561).d = d10 at K
  generalize (told zn (sn2) 4607182418800017408 9221120237041090561).br = b10 at K
  generalize (told zn (sn2) 4607182418800017408 9221120237041090561).sh = s10 at K
  generalize (told zn (sn2) 4607182418800017408 9221120237041090561).lv = l10 at K
  generalize (told zn (sn2) 4607182418800017408 9221120237041090561).ev.map erow = e10 at K
  go_upto_region 11 with (first
    | (go_at_call 8; (with_reducible refine (KNan _).mono ?_); rintro e wq ⟨rfl, rfl⟩)
    | (go_at_call 5; (with_reducible refine (K).mono ?_); rintro e wa ⟨tv, rfl, ho, hWa, hFa⟩; obtain ⟨tA10, tc10, rfl, -⟩ := ho.sl)
    | (refine wpList_store_row rfl 26 _ _ rfl wa.heap.size #[.float .f64 d10, .bool b10, .int .i64 l10, .bool s10, .slice tA10 e10.length tc10] rfl rfl 26 _ (heap_alloc_at _ _) (by kernel_rfl) (by kernel_rfl) (by kernel_rfl) ?_))
  (try rw [setRow_alloc _ _ _ _ _ rfl])
  (try simp only [Act.put])
  have hba := below_al (Below.refl wa.heap.size wa) (.cells #[.float .f64 d10, .bool b10, .int .i64 l10, .bool s10, .slice tA10 e10.length tc10] 26)
  have hW10 := hWa.below hba
  have h10 : Below W.heap.size W (wa.alloc (.cells #[.float .f64 d10, .bool b10, .int .i64 l10, .bool s10, .slice tA10 e10.length tc10] 26)) := (h9.trans (hFa.below h9.size (fun b e => by have := (hS b e).1; omega))).trans (hba.mono (Nat.le_trans h9.size hFa.size))
  have hy10 := (hba.block _ (Nat.lt_of_lt_of_le (heap_lt hy9) hFa.size)).trans ((hFa.k _ (heap_lt hy9) (fun e => by have := (hS _ e).1; omega)).trans hy9)

  have p610 := (hba.block _ (Nat.lt_of_lt_of_le (heap_lt p6) hFa.size)).trans ((hFa.k _ (heap_lt p6) (fun e => by have := (hS _ e).2; omega)).trans p6)
  clear p6
  have p6 := p610
  clear p610

  have p710 := (hba.block _ (Nat.lt_of_lt_of_le (heap_lt p7) hFa.size)).trans ((hFa.k _ (heap_lt p7) (fun e => by have := (hS _ e).2; omega)).trans p7)
  clear p7
  have p7 := p710
  clear p710

  have hg10 := heap_lt hW10.hb
  clear hWa hFa hba ho K hW9 h9 hy9 hg9
  generalize wa.alloc _ = w10 at *

  have MS : (Instr.makeSlice 32 (.int .i64 9) (.int .i64 9)).run Tryd.prog w10 = .ok (.slice (some ⟨w10.heap.size, 0, none⟩) 9 9) (w10.alloc (.cells (mk (.agg #[.float .f64 0, .float .f64 0, .int .u8 0]) 3 9) 36)) := made_of (n := 9) (z := .agg #[.float .f64 0, .float .f64 0, .int .u8 0]) (s := 3) (bytes := 24) Tryd.underlying32 (by kernel_rfl) (by decide) (by decide) w10
  clear KInf KNan hS c1 l1 c2 c3 n3 c4 n4 c5 n5 hok0 hok1 hok2 hW10 hZ
  have hm9 : Own (w10.alloc (.cells (mk (.agg #[.float .f64 0, .float .f64 0, .int .u8 0]) 3 9) 36)) w10.heap.size 36 3 (List.replicate 9 [.float .f64 0, .float .f64 0, .int .u8 0]) (.slice (some ⟨w10.heap.size, 0, none⟩) 9 9) :=
    own_made (z := #[.float .f64 0, .float .f64 0, .int .u8 0]) (heap_alloc_at _ _) (Nat.le_refl _) (by decide)
  have hba := below_al (Below.refl w10.heap.size w10) (.cells (mk (.agg #[.float .f64 0, .float .f64 0, .int .u8 0]) 3 9) 36)
  have hyl := heap_lt hy10
  have hya := (hba.block _ hyl).trans hy10
  have p6a := (hba.block _ (heap_lt p6)).trans p6
  have p7a := (hba.block _ (heap_lt p7)).trans p7
  have h10a := h10.trans (hba.mono h10.size)
  have yc : (w10.alloc (.cells (mk (.agg #[.float .f64 0, .float .f64 0, .int .u8 0]) 3 9) 36)).cell? ⟨P + 1, 6, none⟩ = some (.slice (some ⟨P, 0, none⟩) 1 1) := by rw [cell_of_row _ _ 6 _ 34 (0, 0) hya]; rfl
  have yf := frozen_row hya 6
  have hm := hm9.keep (w' := (w10.alloc (.cells (mk (.agg #[.float .f64 0, .float .f64 0, .int .u8 0]) 3 9) 36)).setCell ⟨P + 1, 6, none⟩ (.slice (some ⟨w10.heap.size, 0, none⟩) 9 9)) (fun b e => Below.heap_setCell _ _ _ b (fun q => by
    have h1 := (hm9.lt b e).1
    have h2 : b = P + 1 := q
    omega))
  have hyb := heap_set hya 6 (.slice (some ⟨w10.heap.size, 0, none⟩) 9 9)
  have p6b := heap_set_far p6a (p := ⟨P + 1, 6, none⟩) (show P6 ≠ P + 1 by omega) (.slice (some ⟨w10.heap.size, 0, none⟩) 9 9)
  have p7b := heap_set_far p7a (p := ⟨P + 1, 6, none⟩) (show P7 ≠ P + 1 by omega) (.slice (some ⟨w10.heap.size, 0, none⟩) 9 9)
  have h10b := h10a.setCell (p := ⟨P + 1, 6, none⟩) (show W.heap.size ≤ P + 1 by omega) (.slice (some ⟨w10.heap.size, 0, none⟩) 9 9)
  clear hm9 hba hya p6a p7a h10a p6 p7 h10 hy10
  go_upto_region 12 with fail
  rw [← World.setCell_alloc_past _ _ _ _ hyl]
  clear yc yf MS
  generalize hP9 : w10.heap.size = P9 at *
  clear hP9
  generalize (w10.alloc _).setCell _ _ = w11 at *
  have hT9 : Tps w11 (some ⟨P9, 0, none⟩) z9.tr := by
    obtain ⟨A, c, e, hs⟩ := hm.sl
    obtain rfl := (Value.slice.inj e).1
    exact hs.mono fun _ _ => trivial
  have KC := check_any z9 (some ⟨P9, 0, none⟩) 9 w11 hT9
  rw [z9_no] at KC
  simp only [zarr, z9, Bool.false_eq_true, if_false, List.length_replicate] at KC
  have hy11 : w11.heap[P + 1]? = some (.cells #[.float .f64 4607182418800017408, .float .f64 0, .float .f64 4696837146684686336, .float .f64 4696837146684686336, .float .f64 4696837146684686336, .int .i64 100, .slice (some ⟨P9, 0, none⟩) 9 9] 34) := hyb
  have KZ0 := next_zero
  have KB0 := next_big
  have KR0 : ∀ X, Has X → Calls Tryd.prog 11 #[.int .i64 0] X fun e w' => e = .returned (.float .f64 9221120237041090561) ∧ Drawn X w' := fun X h => by
    have := reading_any 0 X h
    rwa [rd_0.1] at this
  have KR1 : ∀ X, Has X → Calls Tryd.prog 11 #[.int .i64 625000] X fun e w' => e = .returned (.float .f64 13854198353698488320) ∧ Drawn X w' := fun X h => by
    have := reading_any 625000 X h
    rwa [rd_0.2] at this
  have KA := awake_any
  have KO := on_nil 0
  have KS := shut_nil
  clear hT9 hm hyb
  go_upto_region 16 with (first
    | (refine wpList_load_row rfl 34 _ rfl (P + 1) rfl 34 _ (0, 0) _ hy11 Tryd.underlying34 rfl (by kernel_rfl) ?_)
    | (go_at_call 9; (with_reducible refine (KC).mono ?_); rintro e w12 ⟨rfl, hb12⟩)
    | (go_at_call 10; (with_reducible refine (KZ0 _).mono ?_); rintro e w13 ⟨rfl, hb13⟩)
    | (go_at_call 10; (with_reducible refine (KB0 _).mono ?_); rintro e w14 ⟨rfl, hb14⟩; have h14 := (((Below.refl w11.heap.size w11).trans hb12).trans (hb13.mono hb12.size)).trans (hb14.mono (Nat.le_trans hb12.size hb13.size)); have hH14 := hH.below (h10b.trans (h14.mono h10b.size)))
    | (go_at_call 11; (with_reducible refine (KR0 _ hH14).mono ?_); rintro e w15 ⟨rfl, hd15⟩))
  have h15 : Below w11.heap.size w11 w15 := h14.trans (hd15.below _)
  have hW15 := h10b.trans (h15.mono h10b.size)
  have hH15 := hH.below hW15
  have p6c := (h15.block _ (heap_lt p6b)).trans p6b
  have p7c := (h15.block _ (heap_lt p7b)).trans p7b
  have x6 : w15.cell? ⟨P6, 2, none⟩ = some (.int .i64 100) := by rw [cell_of_row _ _ 2 _ 26 (0, 0) p6c]; rfl
  have x7 : w15.cell? ⟨P7, 2, none⟩ = some (.int .i64 lv2) := by rw [cell_of_row _ _ 2 _ 26 (0, 0) p7c]; rfl
  clear hb12 hb13 hb14 h14 hH14 hd15 h15 p6b p7b p6c p7c KZ0 KB0 KR0 KC hy11 h10b hH
  have f1 : (FloatKind.f64.format.order 4876203697187513988 4876203697187513988 != some .eq) = false := by decide +kernel
  have f2 : (FloatKind.f64.format.order 9221120237041090561 9221120237041090561 == some .eq) = false := by decide +kernel
  have f3 : (FloatKind.f64.format.order 13854198353698488320 13854198353698488320 == some .eq) = true := by decide +kernel
  generalize lv2 = q7 at *
  rcases l2 with rfl | rfl
  all_goals (go_wp2_with (first
    | (go_at_call 12; (with_reducible refine (KO _).mono ?_); rintro e wq ⟨rfl, rfl⟩)
    | (go_at_call 13; (with_reducible refine (KS _).mono ?_); rintro e wq ⟨rfl, rfl⟩)
    | (go_at_call 11; (with_reducible refine (KR1 _ hH15).mono ?_); rintro e w16 ⟨rfl, hd16⟩)
    | (go_at_call 14; (with_reducible refine (KA _).mono ?_); rintro e w17 ⟨rfl, hb17⟩)))
  all_goals go_ret
  all_goals (have h16 := hW15.trans (hd16.below _); exact ⟨rfl, h16.trans (hb17.mono h16.size)⟩)

end Go.Proofs.YtdjdkhbagoideaaDoor
