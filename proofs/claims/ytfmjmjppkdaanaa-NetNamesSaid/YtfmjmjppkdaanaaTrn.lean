/- NetTurned, walked. -/
import Derived.Test.YtfmjmjppkdaanaaSwp
namespace Go.Proofs.Ytfmjmjppkdaanaa
open Go.RowKit Go.BigFrame flt Ieee

theorem rem_in0 (t : Int) (n : Nat) (hn1 : 1 ≤ n) (hn2 : n ≤ 1000000) : ∃ k : Nat, (wrap64 (t.tmod n + n)).tmod n = k ∧ k < n := by
  have a1 := Int.tmod_lt_of_pos t (b := n) (by omega)
  have a2 := Int.lt_tmod_of_pos t (b := n) (by omega)
  have e1 : wrap64 (t.tmod n + n) = t.tmod n + n := by unfold wrap64; omega
  rw [e1]
  have hy : 0 ≤ t.tmod n + n := by omega
  generalize t.tmod n + n = y at *
  have b1 := Int.tmod_lt_of_pos y (b := n) (by omega)
  have b2 : 0 ≤ y.tmod n := Int.tmod_nonneg _ (by omega)
  exact ⟨(y.tmod n).toNat, by omega, by omega⟩
theorem sl_pair (S : Nat → Prop) (W : World) (g : Nat) (a b : Int) (t : TypeId) (h : W.heap[g]? = some (.cells #[.int .i64 a, .int .i64 b] t)) (hS : S g) : Sl S W (some ⟨g, 0, none⟩) 1 ([a, b].map irow) := by
  obtain ⟨h1, h2, h3⟩ := ints_pair W g a b t h
  refine ⟨h1, h2, fun hn => ?_⟩
  obtain ⟨b', o, e, _, r⟩ := h3 hn
  cases e
  exact ⟨g, 0, rfl, hS, r⟩
def ipair (a b : Int) : Obj := .cells #[.int .i64 a, .int .i64 b] 3
def krow (kd : Int) (g : Nat) : List Value := [.int .u8 kd, .float .f64 0, .slice (some ⟨g, 0, none⟩) 2 2]
theorem bld_two {wi w1 w3 : World} {B0 : Nat} {l : List Part} {g cap : Nat} {gs : List (Nat × Nat)} {v1 v2 : Value} (hP : Parted wi B0 l g cap gs) (hb1 : Below wi.heap.size wi w1)
    (ho1 : Own w1 wi.heap.size 47 3 ([] ++ List.zipWith pvrow l gs) v1) (kd a b : Int) (ho2 : Own w3 wi.heap.size 47 3 ([] ++ List.zipWith pvrow l gs ++ [krow kd w1.heap.size]) v2)
    (hg2 : ((w1.alloc (ipair a b)).alloc (.cells (krow kd w1.heap.size).toArray 47)).grownBy w3 v1.ownBlock) (hat2 : v2.ownBlock = v1.ownBlock ∨ v2.ownBlock = some ((w1.alloc (ipair a b)).alloc (.cells (krow kd w1.heap.size).toArray 47)).heap.size) :
    ∃ A c, v2 = .slice A (l.length + 1) c ∧ Pn w3 A (l ++ [⟨kd, 0, [a, b]⟩]) := by
  rw [List.nil_append] at ho1 ho2
  have hB : Bld w1 wi.heap.size l v1 (List.zipWith pvrow l gs) := ⟨ho1, hP.prts.into fun x hS hl => ⟨hb1.block x hl, fun e => by have := (ho1.lt x e).1; omega⟩⟩
  have hp : prt (fun x => w1.heap.size ≤ x) (w1.alloc (ipair a b)) ⟨kd, 0, [a, b]⟩ (krow kd w1.heap.size) := ⟨some ⟨w1.heap.size, 0, none⟩, 2, rfl, sl_pair _ _ _ _ _ 3 (heap_alloc_at _ _) (Nat.le_refl _), Nat.le_refl _⟩
  have h2 := hB.push (below_al (Below.refl _ _) _) hp (below_al (Below.refl _ _) _) ho2 hg2 hat2
  obtain ⟨A, c, e, hp⟩ := h2.pn
  exact ⟨A, c, by rw [e, List.length_append]; rfl, hp⟩
def r0row : List Value := [.int .u8 1, .float .f64 0, .slice none 0 0]
def six (g : Nat) : Obj := .cells #[.int .u8 1, .float .f64 0, .slice none 0 0, .int .u8 4, .float .f64 0, .slice (some ⟨g, 0, none⟩) 2 2] 47
theorem sl_six (W : World) (b g : Nat) (h : W.heap[b]? = some (six g)) : Sl (fun _ => True) W (some ⟨b, 0, none⟩) 3 [r0row, krow 4 g] := by
  refine ⟨by (show 2 ≤ 9223372036854775807); decide, fun r hr => ?_, fun _ => ⟨b, 0, rfl, trivial, heap_lt h, fun i r hr f u hu => ?_⟩⟩
  · simp only [List.mem_cons, List.not_mem_nil, or_false] at hr
    rcases hr with rfl | rfl <;> rfl
  · match i, hr with
    | 0, hr => cases hr; match f, hu with
      | 0, hu => cases hu; exact cell_of_row _ _ 0 _ 47 (0, 0) h
      | 1, hu => cases hu; exact cell_of_row _ _ 1 _ 47 (0, 0) h
      | 2, hu => cases hu; exact cell_of_row _ _ 2 _ 47 (0, 0) h
      | f + 3, hu => simp [r0row] at hu
    | 1, hr => cases hr; match f, hu with
      | 0, hu => cases hu; exact cell_of_row _ _ 3 _ 47 (0, 0) h
      | 1, hu => cases hu; exact cell_of_row _ _ 4 _ 47 (0, 0) h
      | 2, hu => cases hu; exact cell_of_row _ _ 5 _ 47 (0, 0) h
      | f + 3, hu => simp [krow] at hu
    | i + 2, hr => simp at hr
theorem one_six (g : Nat) : ∀ r ∈ [r0row, krow 4 g], ∀ u ∈ r, u.oneCell' = true := by
  intro r hr u hu
  simp only [List.mem_cons, List.not_mem_nil, or_false] at hr
  rcases hr with rfl | rfl
  · simp only [r0row, List.mem_cons, List.not_mem_nil, or_false] at hu
    rcases hu with rfl | rfl | rfl <;> rfl
  · simp only [krow, List.mem_cons, List.not_mem_nil, or_false] at hu
    rcases hu with rfl | rfl | rfl <;> rfl
theorem bld_three {wi w1 w3 : World} {B0 : Nat} {l : List Part} {g cap : Nat} {gs : List (Nat × Nat)} {v1 v2 : Value} (hP : Parted wi B0 l g cap gs) (hb1 : Below wi.heap.size wi w1)
    (ho1 : Own w1 wi.heap.size 47 3 ([] ++ List.zipWith pvrow l gs) v1) (a b : Int) (ho2 : Own w3 wi.heap.size 47 3 ([] ++ List.zipWith pvrow l gs ++ [r0row, krow 4 w1.heap.size]) v2)
    (hg2 : ((w1.alloc (ipair a b)).alloc (six w1.heap.size)).grownBy w3 v1.ownBlock) :
    ∃ A c, v2 = .slice A (l.length + 2) c ∧ Pn w3 A (l ++ [⟨1, 0, []⟩, ⟨4, 0, [a, b]⟩]) := by
  rw [List.nil_append] at ho1 ho2
  have hs1 := hb1.size
  have e1 : (List.zipWith pvrow l gs ++ [r0row, krow 4 w1.heap.size]) = (List.zipWith pvrow l gs ++ [r0row]) ++ [krow 4 w1.heap.size] := by rw [List.append_assoc]; rfl
  have e2 : l ++ [(⟨1, 0, []⟩ : Part), ⟨4, 0, [a, b]⟩] = (l ++ [⟨1, 0, []⟩]) ++ [⟨4, 0, [a, b]⟩] := by rw [List.append_assoc]; rfl
  rw [e1] at ho2
  have hA : Below w1.heap.size w1 (w1.alloc (ipair a b)) := below_al (Below.refl _ _) _
  have hz : Prts (fun _ => True) w3 l (List.zipWith pvrow l gs) := hP.prts.into fun x hS hl => ⟨by
    rw [← hb1.block x hl, ← (below_al hA (six w1.heap.size)).block x (by omega)]
    exact hg2.block x (by rw [size_al, size_al]; omega) (fun e => by have := (ho1.lt x e.symm).1; omega), trivial⟩
  have hp0 : prt (fun _ => True) w3 ⟨1, 0, []⟩ r0row := ⟨none, 0, rfl, Sl.nil _ _ _ _, Nat.le_refl _⟩
  have hp1 : prt (fun _ => True) w3 ⟨4, 0, [a, b]⟩ (krow 4 w1.heap.size) :=
    prt.into (S := fun x => x = w1.heap.size) (w := w1.alloc (ipair a b)) ⟨some ⟨w1.heap.size, 0, none⟩, 2, rfl, sl_pair _ _ _ _ _ 3 (heap_alloc_at _ _) rfl, Nat.le_refl _⟩ fun x hS hl => ⟨by
      subst hS
      rw [← Below.heap_alloc (w1.alloc (ipair a b)) (six w1.heap.size) _ hl]
      exact hg2.block _ (by rw [size_al]; omega) (fun e => by have := (ho1.lt _ e.symm).2; omega), trivial⟩
  obtain ⟨A, c, e, hp⟩ := pn_own ho2 ((hz.push hp0).push hp1)
  rw [← e2] at e hp
  exact ⟨A, c, by rw [e, List.length_append]; rfl, hp⟩
set_option maxHeartbeats 4000000 in
set_option maxRecDepth 100000 in
theorem turned_triv (l : List Part) (A : Option Addr) (c : Nat) (y a b : Int) (w : World) (h : Pcs w A l) (hL : Little l) (he : ¬ (Good l ∧ isRate (cls y.toNat) = true ∧ l.length ≤ 250)) :
    Calls Try.prog 6 #[.slice A l.length c, .int .u64 y, .int .i64 a, .int .i64 b] w fun e w' => e = .returned (.bool true) ∧ Below w.heap.size w w' := by
  have hP0 := Lib.hid (fun W (hW : Below w.heap.size w W) => parts_any l A c W (h.below hW) hL)
  have hf := fun W => from_run y W
  have K27 := fun A' c' W hp => rcheck_any l A' c' W hp
  have K28 := rrate_any y.toNat
  have hlen := h.1
  clear h
  have hcase : chk l = 290 ∨ (chk l = 0 ∧ isRate (cls y.toNat) = false) ∨ (chk l = 0 ∧ isRate (cls y.toNat) = true ∧ 250 < l.length) := by
    unfold chk
    by_cases hg : Good l
    · rw [if_pos hg]
      cases hr : isRate (cls y.toNat)
      · exact Or.inr (Or.inl ⟨rfl, rfl⟩)
      · refine Or.inr (Or.inr ⟨rfl, rfl, ?_⟩)
        rcases Nat.lt_or_ge 250 l.length with q | q
        · exact q
        · exact absurd ⟨hg, hr, q⟩ he
    · rw [if_neg hg]; exact Or.inl rfl
  clear he
  rcases hcase with h1 | ⟨h1, h2⟩ | ⟨h1, h2, h3⟩
  · rw [h1] at K27
    clear h1
    go_enter Try.func6, Try.ntmps6
    go_wp2_with (first
      | (go_at_call 23; (with_reducible refine (awake_any _).mono ?_); rintro e w1 ⟨rfl, hb⟩)
      | (go_at_call 20; (with_reducible refine (hP0.out _ hb).mono ?_); rintro e w1 ⟨g, cap, gs, rfl, hcap, hP, hb1⟩; replace hb := hb.trans (hb1.mono hb.size); clear hb1)
      | (go_at_call 27; (with_reducible refine (K27 _ _ _ hP.pn).mono ?_); rintro e w3 ⟨rfl, hb1⟩; replace hb := hb.trans (hb1.mono hb.size); clear hb1)
      | (go_at_call 28; (with_reducible refine (K28 _).mono ?_); rintro e w3 ⟨rfl, hd⟩; replace hb := hd.after hb; clear hd))
    go_ret
    exact ⟨rfl, hb⟩
  all_goals (
    rw [h1] at K27
    rw [h2] at K28
    clear h1 h2
    go_enter Try.func6, Try.ntmps6
    go_wp2_with (first
      | (go_at_call 23; (with_reducible refine (awake_any _).mono ?_); rintro e w1 ⟨rfl, hb⟩)
      | (go_at_call 20; (with_reducible refine (hP0.out _ hb).mono ?_); rintro e w1 ⟨g, cap, gs, rfl, hcap, hP, hb1⟩; replace hb := hb.trans (hb1.mono hb.size); clear hb1)
      | (go_at_call 27; (with_reducible refine (K27 _ _ _ hP.pn).mono ?_); rintro e w3 ⟨rfl, hb1⟩; replace hb := hb.trans (hb1.mono hb.size); clear hb1)
      | (go_at_call 28; (with_reducible refine (K28 _).mono ?_); rintro e w3 ⟨rfl, hd⟩; replace hb := hd.after hb; clear hd))
    go_ret
    exact ⟨rfl, hb⟩)
set_option maxHeartbeats 8000000 in
set_option maxRecDepth 100000 in
theorem turned_good (l : List Part) (A : Option Addr) (c : Nat) (y a b : Int) (w : World) (h : Pcs w A l) (hL : Little l) (hg : Good l) (hr : isRate (cls y.toNat) = true) (h250 : l.length ≤ 250) :
    Calls Try.prog 6 #[.slice A l.length c, .int .u64 y, .int .i64 a, .int .i64 b] w fun e w' => e = .returned (.bool true) ∧ Below w.heap.size w w' := by
  have hP0 := Lib.hid (fun W (hW : Below w.heap.size w W) => parts_any l A c W (h.below hW) hL)
  have hf := fun W => from_run y W
  have K27 := fun A' c' W hp => rcheck_any l A' c' W hp
  have hchk : chk l = 0 := if_pos hg
  rw [hchk] at K27
  have K28 := rrate_any y.toNat
  rw [hr] at K28
  have hlen := h.1
  have hl1 := hg.1
  have K25 : Hid (∀ (kd : Int), kd = 4 ∨ kd = 5 → ∀ (i j : Nat), i < l.length → j < l.length → ∀ A' c' W, Pn W A' (l ++ [⟨kd, 0, [(i : Int), (j : Int)]⟩]) → Calls Try.prog 25 #[.slice A' (l.length + 1) c', .float .f64 y.toNat] W fun e w' => ∃ r s, e = .returned (.tuple #[.complex .f64 r s, .int .i64 0]) ∧ (cls r, cls s) = imp (cls y.toNat) ⟨kd, 0, [(i : Int), (j : Int)]⟩ (zsn (cls y.toNat) l l.length) ∧ Below W.heap.size W w') := Lib.hid (fun kd hk i j hi hj A' c' W hp => by
    have q := z_good _ A' c' y.toNat W hp (good_push hg (by omega) (may_two hk hi hj)) hr
    have e := lastz_push (cls y.toNat) l ⟨kd, 0, [(i : Int), (j : Int)]⟩
    unfold lastz at e
    rw [e, List.length_append] at q
    exact q)
  have K25b : Hid (∀ (i : Nat), i < l.length → ∀ A' c' W, Pn W A' (l ++ [⟨1, 0, []⟩, ⟨4, 0, [(i : Int), (l.length : Int)]⟩]) → Calls Try.prog 25 #[.slice A' (l.length + 2) c', .float .f64 y.toNat] W fun e w' => ∃ r s, e = .returned (.tuple #[.complex .f64 r s, .int .i64 0]) ∧ (cls r, cls s) = addc (pickc (zsn (cls y.toNat) l l.length) i) (some 0, some 0) ∧ Below W.heap.size W w') := Lib.hid (fun i hi A' c' W hp => by
    have q := z_good _ A' c' y.toNat W hp (good_nought hg (by omega) hi) hr
    have e := lastz_nought (cls y.toNat) l i hi
    unfold lastz at e
    rw [e, List.length_append] at q
    exact q)
  have K24 := Lib.hid (fun A' c' W hp => eachk_good l A' c' y.toNat W hp hg hr)
  clear h hg hr hchk
  obtain ⟨i, hi, hil⟩ := rem_in0 a l.length hl1 (by omega)
  obtain ⟨j, hj, hjl⟩ := rem_in0 b l.length hl1 (by omega)
  have hnz : ((l.length : Int) == 0) = false := beq_eq_false_iff_ne.2 (by omega)
  have hnz2 : ¬ ((l.length : Int) = 0) := by omega
  go_enter Try.func6, Try.ntmps6
  go_upto_region 10 with (first
      | (go_at_call 23; (with_reducible refine (awake_any _).mono ?_); rintro e w1 ⟨rfl, hb⟩)
      | (go_at_call 20; (with_reducible refine (hP0.out _ hb).mono ?_); rintro e w1 ⟨g, cap, gs, rfl, hcap, hP, hb1⟩; replace hb := hb.trans (hb1.mono hb.size); clear hb1)
      | (go_at_call 27; (with_reducible refine (K27 _ _ _ hP.pn).mono ?_); rintro e w3 ⟨rfl, hb1⟩; replace hP := hP.below hb1; replace hb := hb.trans (hb1.mono hb.size); clear hb1)
      | (go_at_call 28; (with_reducible refine (K28 _).mono ?_); rintro e w3 ⟨rfl, hd⟩; replace hP := hP.below (hd.below _); replace hb := hd.after hb; clear hd))
  clear hi hj K27 K28 hP0
  obtain ⟨wo, rfl⟩ : ∃ x : World, x = w3 := ⟨_, rfl⟩
  have hzl := Lib.hid (zip_len hP.len)
  have hL1 := hL.1
  go_wp2
  go_loopw [12] (fun v wr => ∃ (k : Nat), 4 ≤ k ∧ k ≤ 6 ∧ v = .int .u8 k ∧ Below wo.heap.size wo wr) (fun v _ => 6 - (intOf v).toNat)
  case atStart => exact ⟨4, by omega, by omega, rfl, Below.refl _ _⟩
  case round =>
    obtain ⟨k, hk4, hk6, rfl, hd⟩ := hrel
    obtain ⟨wi, rfl⟩ : ∃ x : World, x = wr := ⟨_, rfl⟩
    have hPi := hP.below hd
    have hbi := hb.trans (hd.mono hb.size)
    clear hP hb
    have hsl := hPi.sl
    by_cases hk : k = 6
    · subst hk
      have hL24 := K24.out
      go_upto_region 21 with (first
        | (at_builtin; refine wpList_app_any el41 rfl _ _ rfl rfl ((ho1.alloc _).alloc _) (some ⟨w1.heap.size + 1, 0, none⟩) 2 2 rfl rfl (fun h => by cases h) (sl_six _ _ w1.heap.size (heap_alloc_at' _ _ _ (by rw [size_al]))) (one_six _) (by rw [List.nil_append, hzl.out]; simp; omega) (by have q1 := hb1.size; rw [size_al] at q1; rw [size_al, size_al]; omega) ?_; intro v2 w2 ho2 hb2 hs2 hg2 hat2; have hw1 : Below wi.heap.size wi w1 := ((Below.refl _ _).alloc (Nat.le_refl _) _).trans hb1; have hw2 : Below wi.heap.size wi w2 := ((hw1.alloc hw1.size _).alloc (by rw [size_al]; have := hw1.size; omega) _).trans hb2; obtain ⟨A2, c2, rfl, hp2⟩ := bld_three hPi hw1 ho1 i l.length ho2 hg2; replace hw2 := Lib.hid hw2; clear hs2 hg2 hat2 ho2 hb2 ho1 hb1 hs1 hg1 hat1 hw1)
        | (at_builtin; refine wpList_app_any el41 rfl _ _ rfl rfl (Own.lit (w := wi) (base := wi.heap.size) (e := 47) (size := 3) (xs := []) #[] 0 rfl rfl (by simp) (Nat.le_refl _) (by decide)) (some ⟨g, 0, none⟩) cap l.length hzl.out.symm rfl (fun h => by cases h) (Sl.alloc hsl _) (one_zip l gs) (by rw [hzl.out]; simp; omega) (by rw [size_al]; omega) ?_; intro v1 w1 ho1 hb1 hs1 hg1 hat1)
        | (go_at_call 25; (with_reducible refine (K25b.out i hil _ _ _ hp2).mono ?_); rintro e w4 ⟨r1, s1, rfl, hz1, hb4⟩; have hm4 := Lib.hid (hw2.out.trans (hb4.mono hw2.out.size)); replace hz1 := Lib.hid hz1; have hP4 := (hPi.below hm4.out).pn; clear hb4 hp2 hw2)
        | (go_at_call 24; (with_reducible refine (hL24 _ _ _ hP4).mono ?_); rintro e w5 ⟨v5, r5, rfl, e5, o5, hb5⟩))
      obtain ⟨A5, c5, rfl, hcs5⟩ := Cs.of_own o5
      have hr5 : r5.length = l.length := by rw [← List.length_map (f := clsc), e5, zsn_len]
      obtain ⟨b5, f5, r, q, rfl, hbl, c0, hc⟩ := hcs5.2 i (by rw [List.length_map, hr5]; exact hil)
      have hpk : (cls r, cls q) = pickc (zsn (cls y.toNat) l l.length) i := by
        rw [hc]
        unfold pickc
        rw [Int.toNat_natCast, List.getD_eq_getElem?_getD, ← e5, List.getElem?_eq_getElem (by rw [List.length_map, hr5]; exact hil)]
        rfl
      have hz := hz1.out
      rw [← hpk] at hz
      have hu : cls r1 = op2 .add (cls r) (some 0) := (Prod.mk.inj hz).1
      have hv : cls s1 = op2 .add (cls q) (some 0) := (Prod.mk.inj hz).2
      have hbl5 : Hid (Below w.heap.size w w5) := Lib.hid (hbi.trans ((hm4.out.trans (hb5.mono hm4.out.size)).mono hbi.size))
      rw [hr5]
      clear hz hz1 hpk hc hcs5 o5 e5 hb5 hL24
      replace hr5 := Lib.hid hr5
      cases hm : (cls r).isNone
      · have t1 := add_nought hu hm
        clear hu hm
        go_region
        all_goals go_wp2
        cases hn : (cls q).isNone
        · have t2 := add_nought hv hn
          clear hv hn
          go_region
          all_goals go_wp2
          all_goals go_ret
          all_goals exact ⟨rfl, hbl5.out.drew.drew⟩
        · obtain ⟨n1, t2⟩ := none_nought hv hn
          have n3 : (FloatKind.f64.format.order s1 s1 != some .eq) = true := (nan_test s1).trans n1
          have n4 : (FloatKind.f64.format.order q q != some .eq) = true := (nan_test q).trans hn
          clear hv hn n1
          go_region
          all_goals go_wp2
          all_goals go_ret
          all_goals exact ⟨rfl, hbl5.out.drew.drew⟩
      · obtain ⟨m1, t1⟩ := none_nought hu hm
        have m3 : (FloatKind.f64.format.order r1 r1 != some .eq) = true := (nan_test r1).trans m1
        have m4 : (FloatKind.f64.format.order r r != some .eq) = true := (nan_test r).trans hm
        clear hu hm m1
        go_region
        all_goals go_wp2
        cases hn : (cls q).isNone
        · have t2 := add_nought hv hn
          clear hv hn
          go_region
          all_goals go_wp2
          all_goals go_ret
          all_goals exact ⟨rfl, hbl5.out.drew.drew⟩
        · obtain ⟨n1, t2⟩ := none_nought hv hn
          have n3 : (FloatKind.f64.format.order s1 s1 != some .eq) = true := (nan_test s1).trans n1
          have n4 : (FloatKind.f64.format.order q q != some .eq) = true := (nan_test q).trans hn
          clear hv hn n1
          go_region
          all_goals go_wp2
          all_goals go_ret
          all_goals exact ⟨rfl, hbl5.out.drew.drew⟩
    have hk45 : (k : Int) = 4 ∨ (k : Int) = 5 := by omega
    have hle5 : k ≤ 5 := by omega
    go_upto_region 14 with (first
      | (at_builtin; refine wpList_push_at el41 rfl _ _ rfl rfl ((ho1.alloc _).alloc _) (krow k w1.heap.size) (w1.heap.size + 1) 47 rfl (heap_alloc_at' _ _ _ (by rw [size_al])) rfl (by simp [krow, Value.oneCell']) (by rw [List.nil_append, hzl.out]; omega) (by have q1 := hb1.size; rw [size_al] at q1; rw [size_al, size_al]; omega) ?_; intro v2 w2 ho2 hb2 hs2 hn2 hg2 hat2; have hw1 : Below wi.heap.size wi w1 := ((Below.refl _ _).alloc (Nat.le_refl _) _).trans hb1; have hw2 : Below wi.heap.size wi w2 := ((hw1.alloc hw1.size _).alloc (by rw [size_al]; have := hw1.size; omega) _).trans hb2; obtain ⟨A2, c2, rfl, hp2⟩ := bld_two hPi hw1 ho1 k i j ho2 hg2 hat2; replace hw2 := Lib.hid hw2; clear hs2 hn2 hg2 hat2 ho2 hb2 ho1 hb1 hs1 hg1 hat1 hw1)
      | (at_builtin; refine wpList_app_any el41 rfl _ _ rfl rfl (Own.lit (w := wi) (base := wi.heap.size) (e := 47) (size := 3) (xs := []) #[] 0 rfl rfl (by simp) (Nat.le_refl _) (by decide)) (some ⟨g, 0, none⟩) cap l.length hzl.out.symm rfl (fun h => by cases h) (Sl.alloc hsl _) (one_zip l gs) (by rw [hzl.out]; simp; omega) (by rw [size_al]; omega) ?_; intro v1 w1 ho1 hb1 hs1 hg1 hat1)
      | (go_at_call 25; (with_reducible refine (K25.out k hk45 i j hil hjl _ _ _ hp2).mono ?_); rintro e w4 ⟨r1, s1, rfl, hz1, hb4⟩; have hm4 := Lib.hid (hw2.out.trans (hb4.mono hw2.out.size)); replace hz1 := Lib.hid hz1; clear hb4 hp2 hw2))
    have hP4 := hPi.below hm4.out
    have hs4 := hP4.sl
    go_upto_region 15 with (first
      | (at_builtin; refine wpList_push_at el41 rfl _ _ rfl rfl ((ho1.alloc _).alloc _) (krow k w5.heap.size) (w5.heap.size + 1) 47 rfl (heap_alloc_at' _ _ _ (by rw [size_al])) rfl (by simp [krow, Value.oneCell']) (by rw [List.nil_append, hzl.out]; omega) (by have q1 := hb1.size; rw [size_al] at q1; rw [size_al, size_al]; omega) ?_; intro v2 w6 ho2 hb2 hs2 hn2 hg2 hat2; have hw1 : Below w4.heap.size w4 w5 := ((Below.refl _ _).alloc (Nat.le_refl _) _).trans hb1; have hw2 : Below w4.heap.size w4 w6 := ((hw1.alloc hw1.size _).alloc (by rw [size_al]; have := hw1.size; omega) _).trans hb2; obtain ⟨A2, c2, rfl, hp2⟩ := bld_two hP4 hw1 ho1 k j i ho2 hg2 hat2; replace hw2 := Lib.hid hw2; clear hs2 hn2 hg2 hat2 ho2 hb2 ho1 hb1 hs1 hg1 hat1 hw1)
      | (at_builtin; refine wpList_app_any el41 rfl _ _ rfl rfl (Own.lit (w := w4) (base := w4.heap.size) (e := 47) (size := 3) (xs := []) #[] 0 rfl rfl (by simp) (Nat.le_refl _) (by decide)) (some ⟨g, 0, none⟩) cap l.length hzl.out.symm rfl (fun h => by cases h) (Sl.alloc hs4 _) (one_zip l gs) (by rw [hzl.out]; simp; omega) (by rw [size_al]; omega) ?_; intro v1 w5 ho1 hb1 hs1 hg1 hat1)
      | (go_at_call 25; (with_reducible refine (K25.out k hk45 j i hjl hil _ _ _ hp2).mono ?_); rintro e w8 ⟨r2, s2, rfl, hz2, hb4⟩; have hm8 := Lib.hid (hw2.out.trans (hb4.mono hw2.out.size)); replace hz2 := Lib.hid hz2; clear hb4 hp2 hw2))
    have hz : (cls r1, cls s1) = (cls r2, cls s2) := by rw [hz1.out, hz2.out]; exact imp_swap _ hk45 _ _ _
    have K26 := alike_any r1 s1 r2 s2 (Prod.mk.inj hz).1 (Prod.mk.inj hz).2
    clear hz
    go_wp2_with (go_at_call 26; (with_reducible refine (K26 _).mono ?_); rintro e w9 ⟨rfl, rfl⟩)
    go_roundw
    case rel => exact ⟨k + 1, by omega, by omega, by go_num, hd.trans ((hm4.out.trans (hm8.out.mono hm4.out.size)).mono hd.size)⟩
    case measure => simp [intOf]; omega
theorem turned_walk (l : List Part) (A : Option Addr) (c : Nat) (y a b : Int) (w : World) (h : Pcs w A l) (hL : Little l) :
    Calls Try.prog 6 #[.slice A l.length c, .int .u64 y, .int .i64 a, .int .i64 b] w fun e w' => e = .returned (.bool true) ∧ Below w.heap.size w w' := by
  by_cases he : Good l ∧ isRate (cls y.toNat) = true ∧ l.length ≤ 250
  · exact turned_good l A c y a b w h hL he.1 he.2.1 he.2.2
  · exact turned_triv l A c y a b w h hL he
end Go.Proofs.Ytfmjmjppkdaanaa
