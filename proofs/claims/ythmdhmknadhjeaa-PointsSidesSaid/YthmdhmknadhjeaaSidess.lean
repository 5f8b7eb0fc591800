/- PointsSides, walked. -/
import Derived.Test.YthmdhmknadhjeaaSides
import Derived.Test.YthmdhmknadhjeaaChanges
namespace Go.Proofs.Ythmdhmknadhjeaa
open Go.RowKit Go.BigFrame

set_option maxHeartbeats 8000000 in
set_option maxRecDepth 100000 in
theorem sides_walk (l : List Pt) (A : Option Addr) (c : Nat) (r0 v0 : Int) (w : World) (h : Pts w A l) :
    Calls Try.prog 6 #[.slice A l.length c, .int .i64 r0, .int .i64 v0] w fun e w' => e = .returned (.bool true) ∧ Below w.heap.size w w' := by
  have hlen := h.le
  have htl := tame_len l
  obtain ⟨n, hn⟩ : ∃ n, n = (tame l).length := ⟨_, rfl⟩
  have hn1 : 1 ≤ n := by omega
  have hn2 : n ≤ 41 := by omega
  have hrN := tp_range l (n - 1)
  have hr00 := tp_range l 0
  -- the rate, the volts
  have m1 : bits .and .i64 r0 1048575 = r0 % 1048576 := and_mask r0 20 (by decide)
  have m2 : bits .and .i64 v0 1048575 = v0 % 1048576 := and_mask v0 20 (by decide)
  have z1 := Int.emod_nonneg r0 (show (1048576 : Int) ≠ 0 by decide)
  have z2 := Int.emod_lt_of_pos r0 (show (0 : Int) < 1048576 by decide)
  have z3 := Int.emod_nonneg v0 (show (1048576 : Int) ≠ 0 by decide)
  have z4 := Int.emod_lt_of_pos v0 (show (0 : Int) < 1048576 by decide)
  generalize r0 % 1048576 = r1 at *
  generalize v0 % 1048576 = v1 at *
  have zn1 : (tp l (n - 1)).1 + 2 ≠ 0 := by omega
  have zn2 : (tp l (n - 1)).2 + 2 ≠ 0 := by omega
  have z5 := Int.emod_nonneg r1 zn1
  have z6 := Int.emod_lt_of_pos r1 (show 0 < (tp l (n - 1)).1 + 2 by omega)
  have z7 := Int.emod_nonneg v1 zn2
  have z8 := Int.emod_lt_of_pos v1 (show 0 < (tp l (n - 1)).2 + 2 by omega)
  have F := fun r A c w h => for_any (tame l) A c r w h
  have U := fun v A c w h => under_any (tame l) A c v w h
  have T := fun r A c w h => between_any (tame l) A c r w h (tame_small l)
  rw [← hn] at F U T
  have TM := tame_any l A c
  rw [← hn] at TM
  have hat := Lib.hid (tame_at l)
  obtain ⟨r, hr⟩ : ∃ r, r1 % ((tp l (n - 1)).1 + 2) = r := ⟨_, rfl⟩
  obtain ⟨v, hvv⟩ : ∃ v, v1 % ((tp l (n - 1)).2 + 2) = v := ⟨_, rfl⟩
  rw [hr] at z5 z6
  rw [hvv] at z7 z8
  have F := F r
  have U := U v
  have T0 := fun k => T (tp l k).1
  have T1 := T r
  have T2 := T (r + 1)
  have f1 : ∃ a b, forp (tame l) r = (a, b) ∧ ((b = 0 ∧ ∃ f : Nat, a = f ∧ fst 0 (tame l) r = f ∧ f < (tame l).length ∧ ∀ k, k < (tame l).length → (f ≤ k ↔ r ≤ (tp l k).1)) ∨ (b = 6 ∧ fst 0 (tame l) r < 0 ∧ ∀ k, k < (tame l).length → (tp l k).1 < r)) := by
    rcases for_tame l r with ⟨f, q1, q2, q3, q4⟩ | ⟨q1, q2, q3⟩
    · exact ⟨_, _, q3, Or.inl ⟨rfl, f, rfl, q2, q1, q4⟩⟩
    · exact ⟨_, _, q2, Or.inr ⟨rfl, q1, q3⟩⟩
  have u1 : ∃ a b, und (tame l) v = (a, b) ∧ ((b = 0 ∧ ∃ u : Nat, a = u ∧ ∀ k, k < (tame l).length → (k ≤ u ↔ (tp l k).2 ≤ v)) ∨ (b = 6 ∧ ∀ k, k < (tame l).length → v < (tp l k).2)) := by
    rcases und_tame l v with ⟨f, q1, q2, q3⟩ | ⟨q1, q2⟩
    · exact ⟨_, _, q2, Or.inl ⟨rfl, f, rfl, q3⟩⟩
    · exact ⟨_, _, q1, Or.inr ⟨rfl, q2⟩⟩
  have b1 := btw_tame l r
  have b2 := btw_tame l (r + 1)
  have bm := btw_mono l r
  obtain ⟨fv, ev, e1, f1⟩ := f1
  obtain ⟨uv, gv, e2, u1⟩ := u1
  obtain ⟨av, hv, e3⟩ : ∃ a b, btw (tame l) r = (a, b) := ⟨_, _, rfl⟩
  obtain ⟨bv, jv, e4⟩ : ∃ a b, btw (tame l) (r + 1) = (a, b) := ⟨_, _, rfl⟩
  rw [e1] at F
  rw [e2] at U
  rw [e3] at T1 b1 bm
  rw [e4] at T2 b2 bm
  simp only at F U T1 T2 b1 b2 bm
  have T0 := fun k A c w (hk : k < (tame l).length) h => by
    have := T0 k A c w h
    rw [btw_at l hk] at this
    exact this
  clear T e1 e2 e3 e4
  rw [← hn] at f1 u1 b1 b2 T0
  replace f1 := Lib.hid f1
  replace u1 := Lib.hid u1
  replace b1 := Lib.hid b1
  replace b2 := Lib.hid b2
  replace bm := Lib.hid bm
  replace hn := Lib.hid hn
  clear htl
  go_enter Try.func6, Try.ntmps6
  go_wp2_with (first
    | (go_at_call 22; refine (works_any _).mono ?_; rintro e w1 ⟨rfl, hb1⟩)
    | (go_at_call 23; refine (TM _ (h.below hb1)).mono ?_; rintro e w2 ⟨At, ct, rfl, ht, hb2⟩; obtain ⟨At', ct', et, htp⟩ := ht.pts; rw [← hn.out] at et; simp only [Value.slice.injEq, true_and] at et; obtain ⟨rfl, rfl⟩ := et; obtain ⟨bt, ot, rfl, hbt, d1, d2⟩ := htp.at_ (k := n - 1) (by rw [← hn.out]; omega); rw [hat.out] at d1 d2; have hidx : IntKind.i64.wrap ((n : Int) - 1) = ((n - 1 : Nat) : Int) := (by rw [i64_in _ (by omega)]; omega); have hil : n - 1 < n := (by omega)))
  have htp2 : Pts (w2.alloc (.cells #[.int .i64 (tp l (n - 1)).1, .int .i64 (tp l (n - 1)).2] 36)) (some ⟨bt, ot, none⟩) (tame l) := htp.alloc _
  go_wp2_with fail
  refine (F _ _ _ htp2).mono ?_
  rintro e w3 ⟨rfl, hb3⟩
  go_wp2_with fail
  refine (U _ _ _ (htp2.below hb3)).mono ?_
  rintro e w4 ⟨rfl, hb4⟩
  have hbox4 : w4.heap[w2.heap.size]? = some (.cells #[.int .i64 (tp l (n - 1)).1, .int .i64 (tp l (n - 1)).2] 36) :=
    (hb4.block _ (by have := hb3.size; rw [size_al] at this; omega)).trans ((hb3.block _ (by rw [size_al]; omega)).trans (heap_alloc_at _ _))
  have htp4 := (htp2.below hb3).below hb4
  have hg4 : Below w.heap.size w w4 := by
    have h1 := hb1.size
    have h2 := hb2.size
    have h3 := hb3.size
    rw [size_al] at h3
    exact (((hb1.trans (hb2.mono h1)).trans ((Below.refl _ _).alloc (by omega) _)).trans (hb3.mono (by rw [size_al]; omega))).trans (hb4.mono (by omega))
  have hfin : Hid (∀ wr, Below w4.heap.size w4 wr → Pts wr (some ⟨bt, ot, none⟩) (tame l) ∧ wr.heap[w2.heap.size]? = some (.cells #[.int .i64 (tp l (n - 1)).1, .int .i64 (tp l (n - 1)).2] 36)) :=
    Lib.hid fun wr hb => ⟨htp4.below hb, (hb.block _ (heap_lt hbox4)).trans hbox4⟩
  clear htp htp2 ht hb1 hb2 hb3 hb4 d1 d2 htp4 hbox4 F U TM m1 m2
  go_wp2
  go_loopw [13] (fun m wr => ∃ k : Nat, k ≤ n ∧ m = .int .i64 k ∧ Below w4.heap.size w4 wr) (fun m _ => n - (intOf m).toNat)
  case atStart => exact ⟨0, by omega, rfl, Below.refl _ _⟩
  case round =>
    obtain ⟨k, hk, rfl, hgk⟩ := hrel
    obtain ⟨htk, hbk⟩ := hfin.out wr hgk
    by_cases hkl : k = n
    · subst hkl
      have b1' := b1.out
      have b2' := b2.out
      have f1' := f1.out
      have bm' := bm.out
      have hB : jv = 0 ∨ jv = 6 := by
        rcases b2' with ⟨q, _⟩ | ⟨q, _⟩
        · exact Or.inl q
        · exact Or.inr q
      have T1' := T1 (some ⟨bt, ot, none⟩) ct
      have T2' := T2 (some ⟨bt, ot, none⟩) ct
      clear b2' T1 T2 T0 hk
      obtain ⟨b0', o0', e0, hb0, c01, c02⟩ := htk.at_ (k := 0) (by rw [← hn.out]; omega)
      cases e0
      rw [hat.out] at c01 c02
      simp only [Nat.zero_mul, Nat.add_zero] at c01 c02
      obtain ⟨cb1, cb2⟩ := cell_two hbk
      have hkn : 0 < k := by omega
      have hbl := heap_lt hbk
      rcases b1' with ⟨rfl, q1, q2, f, q3, q4, q5, q6⟩ | ⟨rfl, q1⟩
      · rcases f1' with ⟨rfl, f', rfl, q7, q8, _⟩ | ⟨_, q7, _⟩
        case inr => omega
        obtain rfl : f' = f := by omega
        obtain ⟨b6', o6', e6, hb6, c61, c62⟩ := htk.at_ (k := f') (by rw [← hn.out]; omega)
        cases e6
        rw [hat.out] at c61 c62
        have hbm : jv = 0 → av ≤ bv := fun e => bm' rfl e
        replace hbm := Lib.hid hbm
        have tr1 := tp_range l f'
        clear q3 q7 b1 b2 f1 u1 bm bm'
        by_cases hf0 : f' = 0
        · subst hf0
          clear q6 c61 c62
          rcases hB with rfl | rfl
          · have hm := hbm.out rfl
            go_wp2_with (first
              | (go_at_call 26; (with_reducible refine (T1' _ htk).mono ?_); rintro e w5 ⟨rfl, hb5⟩; have htk5 := htk.below hb5)
              | (go_at_call 26; (with_reducible refine (T2' _ htk5).mono ?_); rintro e w6 ⟨rfl, hb7⟩; have hbb := hb5.trans (hb7.mono hb5.size); have x1 := (hbb.cell (p := ⟨bt, ot, none⟩) hb0).trans c01; have x2 := (hbb.cell (p := ⟨bt, ot + 1, none⟩) hb0).trans c02; have x3 := (hbb.cell (p := ⟨w2.heap.size, 0, none⟩) hbl).trans cb1; have x4 := (hbb.cell (p := ⟨w2.heap.size, 1, none⟩) hbl).trans cb2))
            go_ret
            exact ⟨rfl, hg4.trans ((hgk.trans (hbb.mono hgk.size)).mono hg4.size)⟩
          · go_wp2_with (first
              | (go_at_call 26; (with_reducible refine (T1' _ htk).mono ?_); rintro e w5 ⟨rfl, hb5⟩; have htk5 := htk.below hb5)
              | (go_at_call 26; (with_reducible refine (T2' _ htk5).mono ?_); rintro e w6 ⟨rfl, hb7⟩; have hbb := hb5.trans (hb7.mono hb5.size); have x1 := (hbb.cell (p := ⟨bt, ot, none⟩) hb0).trans c01; have x2 := (hbb.cell (p := ⟨bt, ot + 1, none⟩) hb0).trans c02; have x3 := (hbb.cell (p := ⟨w2.heap.size, 0, none⟩) hbl).trans cb1; have x4 := (hbb.cell (p := ⟨w2.heap.size, 1, none⟩) hbl).trans cb2))
            go_ret
            exact ⟨rfl, hg4.trans ((hgk.trans (hbb.mono hgk.size)).mono hg4.size)⟩
        · have q9 := q6 (by omega)
          have hf1 : 0 < f' := by omega
          obtain ⟨b8', o8', e8, hb8, c81, c82⟩ := htk.at_ (k := f' - 1) (by rw [← hn.out]; omega)
          cases e8
          rw [hat.out] at c81 c82
          have hj1 : IntKind.i64.wrap ((f' : Int) - 1) = ((f' - 1 : Nat) : Int) := by rw [i64_in _ (by omega)]; omega
          have hj2 : f' - 1 < k := by omega
          clear q6
          generalize f' - 1 = g at *
          rcases hB with rfl | rfl
          · have hm := hbm.out rfl
            go_wp2_with (first
              | (go_at_call 26; (with_reducible refine (T1' _ htk).mono ?_); rintro e w5 ⟨rfl, hb5⟩; have htk5 := htk.below hb5)
              | (go_at_call 26; (with_reducible refine (T2' _ htk5).mono ?_); rintro e w6 ⟨rfl, hb7⟩; have hbb := hb5.trans (hb7.mono hb5.size); have x1 := (hbb.cell (p := ⟨bt, ot, none⟩) hb0).trans c01; have x2 := (hbb.cell (p := ⟨bt, ot + f' * 2 + 1, none⟩) hb0).trans c62; have x3 := (hbb.cell (p := ⟨w2.heap.size, 0, none⟩) hbl).trans cb1; have x4 := (hbb.cell (p := ⟨bt, ot + g * 2 + 1, none⟩) hb0).trans c82))
            go_ret
            exact ⟨rfl, hg4.trans ((hgk.trans (hbb.mono hgk.size)).mono hg4.size)⟩
          · go_wp2_with (first
              | (go_at_call 26; (with_reducible refine (T1' _ htk).mono ?_); rintro e w5 ⟨rfl, hb5⟩; have htk5 := htk.below hb5)
              | (go_at_call 26; (with_reducible refine (T2' _ htk5).mono ?_); rintro e w6 ⟨rfl, hb7⟩; have hbb := hb5.trans (hb7.mono hb5.size); have x1 := (hbb.cell (p := ⟨bt, ot, none⟩) hb0).trans c01; have x2 := (hbb.cell (p := ⟨bt, ot + f' * 2 + 1, none⟩) hb0).trans c62; have x3 := (hbb.cell (p := ⟨w2.heap.size, 0, none⟩) hbl).trans cb1; have x4 := (hbb.cell (p := ⟨bt, ot + g * 2 + 1, none⟩) hb0).trans c82))
            go_ret
            exact ⟨rfl, hg4.trans ((hgk.trans (hbb.mono hgk.size)).mono hg4.size)⟩
      · clear b1 b2 f1 u1 bm bm' f1' hB
        by_cases hA : (tp l 0).1 ≤ r
        · have hA2 : ¬ r ≤ (tp l (k - 1)).1 := fun q => q1 ⟨hA, q⟩
          clear q1
          go_wp2_with (first
            | (go_at_call 26; (with_reducible refine (T1' _ htk).mono ?_); rintro e w5 ⟨rfl, hb5⟩; have htk5 := htk.below hb5)
            | (go_at_call 26; (with_reducible refine (T2' _ htk5).mono ?_); rintro e w6 ⟨rfl, hb7⟩; have hbb := hb5.trans (hb7.mono hb5.size); have x1 := (hbb.cell (p := ⟨bt, ot, none⟩) hb0).trans c01; have x3 := (hbb.cell (p := ⟨w2.heap.size, 0, none⟩) hbl).trans cb1))
          go_ret
          exact ⟨rfl, hg4.trans ((hgk.trans (hbb.mono hgk.size)).mono hg4.size)⟩
        · clear q1
          go_wp2_with (first
            | (go_at_call 26; (with_reducible refine (T1' _ htk).mono ?_); rintro e w5 ⟨rfl, hb5⟩; have htk5 := htk.below hb5)
            | (go_at_call 26; (with_reducible refine (T2' _ htk5).mono ?_); rintro e w6 ⟨rfl, hb7⟩; have hbb := hb5.trans (hb7.mono hb5.size); have x1 := (hbb.cell (p := ⟨bt, ot, none⟩) hb0).trans c01; have x3 := (hbb.cell (p := ⟨w2.heap.size, 0, none⟩) hbl).trans cb1))
          go_ret
          exact ⟨rfl, hg4.trans ((hgk.trans (hbb.mono hgk.size)).mono hg4.size)⟩
    have hkl : k < n := by omega
    obtain ⟨b2', o2', e2, hb2, c1, c2⟩ := htk.at_ (k := k) (by rw [← hn.out]; exact hkl)
    cases e2
    rw [hat.out] at c1 c2
    have hE : (ev = 0 ∧ fv ≤ k ∧ r ≤ (tp l k).1) ∨ (ev = 0 ∧ ¬ fv ≤ k ∧ ¬ r ≤ (tp l k).1) ∨ (ev = 6 ∧ ¬ r ≤ (tp l k).1) := by
      rcases f1.out with ⟨q1, f, q2, _, q3, q4⟩ | ⟨q1, _, q2⟩
      · have := q4 k hkl; omega
      · have := q2 k hkl; omega
    have hG : (gv = 0 ∧ (k : Int) ≤ uv ∧ (tp l k).2 ≤ v) ∨ (gv = 0 ∧ ¬ (k : Int) ≤ uv ∧ ¬ (tp l k).2 ≤ v) ∨ (gv = 6 ∧ ¬ (tp l k).2 ≤ v) := by
      rcases u1.out with ⟨q1, f, q2, q4⟩ | ⟨q1, q2⟩
      · have := q4 k hkl; omega
      · have := q2 k hkl; omega
    have T0k := T0 k (some ⟨bt, ot, none⟩) ct wr hkl htk
    generalize (tp l k).1 = q1 at *
    generalize (tp l k).2 = q2 at *
    rcases hE with ⟨rfl, e1, e2⟩ | ⟨rfl, e1, e2⟩ | ⟨rfl, e2⟩ <;> rcases hG with ⟨rfl, e3, e4⟩ | ⟨rfl, e3, e4⟩ | ⟨rfl, e4⟩
    all_goals
      go_wp2_with (go_at_call 26; refine T0k.mono ?_; rintro e w5 ⟨rfl, hb5⟩; have c2' := (hb5.cell (p := ⟨bt, ot + k * 2 + 1, none⟩) hb2).trans c2)
      go_roundw
    all_goals first
      | exact ⟨k + 1, by omega, by go_num, hgk.trans (hb5.mono hgk.size)⟩
      | (simp [intOf]; omega)
end Go.Proofs.Ythmdhmknadhjeaa
