/- Rails: the program's Meet, walked; given. -/
import Derived.Test.YtbbjnhajmckjoaaMeet2
import Derived.Deep.CutBlock
namespace Go.Proofs.Ytbbjnhajmckjoaa
open Go.RowKit Go.BigFrame

theorem elt51 : Elt Try.prog 51 58 2 16 := Elt.of (z := .agg #[.int .i64 0, .int .i64 0]) Try.underlying51 (by kernel_rfl) rfl (by decide) (by decide)
theorem elt46 : Elt Try.prog 46 57 2 16 := Elt.of (z := .agg #[.int .i64 0, .int .i64 0]) Try.underlying46 (by kernel_rfl) rfl (by decide) (by decide)
set_option maxHeartbeats 4000000 in
set_option maxRecDepth 100000 in
theorem given_any (l : List Pt) (A : Option Addr) (c : Nat) (w : World) (h : Pts w A l) (hr : l.length * 16 ≤ 140737488351232) :
    Calls Try.prog 20 #[.slice A l.length c] w fun e w' => ∃ v, e = .returned v ∧ Own w' w.heap.size 58 2 (l.map prow) v ∧ Below w.heap.size w w' := by
  have hlen := h.le
  go_enter Try.func20, Try.ntmps20
  go_wp2
  go_loopw [3, 4] (fun v i wr => ∃ k : Nat, k ≤ l.length ∧ i = .int .i64 k ∧ Own wr w.heap.size 58 2 ((l.take k).map prow) v ∧ Below w.heap.size w wr) (fun _ i _ => l.length - (intOf i).toNat)
  case atStart => exact ⟨0, by omega, rfl, Own.nil _ _ _ _, Below.refl _ _⟩
  case round =>
    obtain ⟨k, hk, rfl, hown, hg⟩ := hrel
    by_cases hkl : k = l.length
    · subst hkl
      go_wp2
      go_ret
      rw [List.take_length] at hown
      exact ⟨_, rfl, hown, hg⟩
    have hkl : k < l.length := by omega
    obtain ⟨b, o, rfl, hb, c1, c2⟩ := (h.below hg).at_ hkl
    have hp : Hid (prow l[k] = [.int .i64 l[k].1, .int .i64 l[k].2]) := Lib.hid rfl
    have ht := Lib.hid (take_push l hkl)
    generalize prow l[k] = pr at *
    generalize l[k].1 = q1, l[k].2 = q2 at *
    have hB := hg.size
    have hlk : Hid (((l.take k).map prow).length = k) := Lib.hid (by simp; omega)
    go_wp2_with (at_builtin; refine wpList_push elt51 rfl _ _ rfl rfl (hown.alloc _) [.int .i64 q1, .int .i64 q2] wr.heap.size 58 rfl (heap_alloc_at _ _) rfl (by simp [Value.oneCell']) (by rw [hlk.out]; omega) (by rw [size_al]; omega) ?_; intro v' w1 ho' hb' hs' _ _)
    go_roundw
    case rel =>
      refine ⟨k + 1, by omega, by go_num, ?_, (below_al hg _).trans hb'⟩
      rw [← ht.out, hp.out]
      exact ho'
    case measure => simp [intOf]; omega

set_option maxHeartbeats 4000000 in
set_option maxRecDepth 100000 in
theorem meet_any (lo hi st : Int) (ws : List Pt) (A : Option Addr) (c : Nat) (w : World) (h : Pts w A ws) :
    Calls Try.prog 21 #[.agg #[.int .i64 lo, .int .i64 hi, .int .i64 st], .slice A ws.length c] w fun e w' => e = .returned (.tuple #[.int .i64 (meet lo hi st ws).1, .int .i64 (meet lo hi st ws).2]) ∧ Below w.heap.size w w' := by
  have K := fun W => rungs_any lo hi st W
  have hl9 := rn_le lo hi st
  have hlen := h.le
  by_cases hN : rn lo hi st = 0
  · have e0 := Lib.hid (meet_no (ws := ws) hN)
    rw [hN] at K
    go_enter Try.func21, Try.ntmps21
    go_wp2_with (go_at_call 49; (with_reducible refine (K _).mono ?_); rintro e w1 ⟨rfl, hb⟩)
    go_ret2
    exact ⟨ret_ii e0.out, (below_al (Below.refl _ _) _).trans (hb.mono (by rw [size_al]; omega))⟩
  have hN1 : ((rn lo hi st : Int) == 0) = false := by simpa using (by omega : (rn lo hi st : Int) ≠ 0)
  by_cases hL : 4096 < ws.length
  · have e0 := Lib.hid (meet_long hN hL)
    generalize rn lo hi st = N at *
    replace hN := Lib.hid hN
    go_enter Try.func21, Try.ntmps21
    go_wp2_with (go_at_call 49; (with_reducible refine (K _).mono ?_); rintro e w1 ⟨rfl, hb⟩)
    go_ret2
    exact ⟨ret_ii e0.out, (below_al (Below.refl _ _) _).trans (hb.mono (by rw [size_al]; omega))⟩
  have hbad := Lib.hid (fun i => meet_bad (i := i) hN hL)
  have hgo := Lib.hid (mt_meet hN hL)
  have hmt := fun L H W => mt_any lo hi st L H (rn_at (i := 0) (by omega)).1 W
  generalize meet lo hi st ws = M at *
  generalize rn lo hi st = N at *
  replace hN := Lib.hid hN
  go_enter Try.func21, Try.ntmps21
  go_wp2_with (go_at_call 49; (with_reducible refine (K _).mono ?_); rintro e w1 ⟨rfl, hb⟩)
  have hs1 := hb.size
  rw [size_al] at hs1
  have r1 : w1.heap[w.heap.size]? = some (.cells #[.int .i64 lo, .int .i64 hi, .int .i64 st] 49) := (hb.block _ (by rw [size_al]; omega)).trans (heap_alloc_at _ _)
  have hg1 : Below w.heap.size w w1 := (below_al (Below.refl _ _) _).trans (hb.mono (by rw [size_al]; omega))
  have h1 := h.below hg1
  clear K hb h
  go_loopw [6, 7, 20] (fun x y i wr => ∃ k : Nat, k ≤ ws.length ∧ i = .int .i64 k ∧ x = .int .i64 (mlo ws k) ∧ y = .int .i64 (mhi ws k) ∧ (∀ j (hj : j < ws.length), j < k → ws[j].1 ≤ ws[j].2) ∧ Below w1.heap.size w1 wr) (fun _ _ i _ => ws.length - (intOf i).toNat)
  case atStart => exact ⟨0, by omega, rfl, rfl, rfl, fun j _ hj => absurd hj (by omega), Below.refl _ _⟩
  case round =>
    obtain ⟨k, hk, rfl, rfl, rfl, hno, hd⟩ := hrel
    replace hno := Lib.hid hno
    have hp := h1.below hd
    have hsz := hd.size
    by_cases hkl : k = ws.length
    · subst hkl
      have hgo := Lib.hid (hgo.out fun i hi => hno.out i hi hi)
      have hG := hg1.trans (hd.mono (by omega))
      have hmt1 := hmt (mlo ws ws.length) (mhi ws ws.length)
      generalize mt lo hi st (mlo ws ws.length) (mhi ws ws.length) = R at *
      obtain ⟨R1, R2⟩ := R
      have c0 : wr.cell? ⟨w.heap.size, 0, none⟩ = some (.int .i64 lo) := (hd.cell (p := ⟨w.heap.size, 0, none⟩) (by show w.heap.size < w1.heap.size; omega)).trans (cell_of_row _ _ 0 _ 49 (0, 0) r1)
      have c1 : wr.cell? ⟨w.heap.size, 1, none⟩ = some (.int .i64 hi) := (hd.cell (p := ⟨w.heap.size, 1, none⟩) (by show w.heap.size < w1.heap.size; omega)).trans (cell_of_row _ _ 1 _ 49 (0, 0) r1)
      have c2 : wr.cell? ⟨w.heap.size, 2, none⟩ = some (.int .i64 st) := (hd.cell (p := ⟨w.heap.size, 2, none⟩) (by show w.heap.size < w1.heap.size; omega)).trans (cell_of_row _ _ 2 _ 49 (0, 0) r1)
      clear hbad hmt hp
      cases R2 with
      | true =>
        have e0 := Lib.hid (hgo.out.trans (if_pos rfl))
        go_wp2_with (go_at_call 51; (with_reducible refine (hmt1 _).mono ?_); rintro e w2 ⟨rfl, hb2⟩)
        go_ret2
        exact ⟨ret_ii e0.out, hG.trans (hb2.mono (by have := hG.size; omega))⟩
      | false =>
        have e0 := Lib.hid (hgo.out.trans (if_neg (by simp)))
        go_wp2_with (go_at_call 51; (with_reducible refine (hmt1 _).mono ?_); rintro e w2 ⟨rfl, hb2⟩)
        go_ret2
        exact ⟨ret_ii e0.out, hG.trans (hb2.mono (by have := hG.size; omega))⟩
    have hkl : k < ws.length := by omega
    obtain ⟨b, o, rfl, hbl, c1, c2⟩ := Pts.at_ hp hkl
    have hb1 := Lib.hid (hbad.out k hkl)
    have hno2 := Lib.hid (fun (hq : ws[k].1 ≤ ws[k].2) j (hj : j < ws.length) (hj2 : j < k + 1) => if e : j = k then by subst e; exact hq else hno.out j hj (by omega))
    have hm1 : Hid (mlo ws (k + 1) = max (mlo ws k) ws[k].1) := Lib.hid (by simp only [mlo, show ws.getD k (0, 0) = ws[k] by simp [List.getD, hkl]])
    have hm2 : Hid (mhi ws (k + 1) = min (mhi ws k) ws[k].2) := Lib.hid (by simp only [mhi, show ws.getD k (0, 0) = ws[k] by simp [List.getD, hkl]])
    generalize ws[k].1 = x at *
    generalize ws[k].2 = y at *
    generalize mlo ws k = L at *
    generalize mhi ws k = H at *
    by_cases hxy : y < x
    · have e0 := Lib.hid (hb1.out hxy)
      go_wp2
      go_ret2
      exact ⟨ret_ii e0.out, hg1.trans ((below_al hd _).mono (by omega))⟩
    have hA := below_al hd (.cells #[.int .i64 x, .int .i64 y] 58)
    go_upto_block 1 with fail
    go_cut [6, 7, 9] from 22 to 37 (fun p q z wx => p = .int .i64 (max L x) ∧ q = .int .i64 (min H y) ∧ Drawn (wr.alloc (.cells #[.int .i64 x, .int .i64 y] 58)) wx)
    case first =>
      clear hbad hgo hmt hno hno2 hm1 hm2 hb1 h1 hp r1 hA
      generalize ws.length = n at *
      go_upto_region 11 with fail
      generalize hw2 : wr.alloc (.cells #[.int .i64 x, .int .i64 y] 58) = w2 at *
      have d0 : w2.cell? ⟨wr.heap.size, 0, none⟩ = some (.int .i64 x) := by rw [← hw2]; exact cell_of_row _ _ 0 _ 58 (0, 0) (heap_alloc_at _ _)
      have d1 : w2.cell? ⟨wr.heap.size, 1, none⟩ = some (.int .i64 y) := by rw [← hw2]; exact cell_of_row _ _ 1 _ 58 (0, 0) (heap_alloc_at _ _)
      clear hw2 c1 c2 hd
      rcases Int.lt_trichotomy L x with q | q | q
      · have e1 : Hid (max L x = x) := Lib.hid (by omega)
        rcases Int.lt_trichotomy H y with r | r | r
        · have e2 : Hid (min H y = H) := Lib.hid (by omega)
          go_region
          all_goals (go_wp2; go_meet; case rel => exact ⟨by rw [e1.out], by rw [e2.out], _, rfl⟩)
        · have e2 : Hid (min H y = H) := Lib.hid (by omega)
          obtain rfl := r
          go_region
          all_goals (go_wp2; go_meet; case rel => exact ⟨by rw [e1.out], by rw [e2.out], _, rfl⟩)
        · have e2 : Hid (min H y = y) := Lib.hid (by omega)
          go_region
          all_goals (go_wp2; go_meet; case rel => exact ⟨by rw [e1.out], by rw [e2.out], _, rfl⟩)
      · have e1 : Hid (max L x = L) := Lib.hid (by omega)
        obtain rfl := q
        rcases Int.lt_trichotomy H y with r | r | r
        · have e2 : Hid (min H y = H) := Lib.hid (by omega)
          go_region
          all_goals (go_wp2; go_meet; case rel => exact ⟨by rw [e1.out], by rw [e2.out], _, rfl⟩)
        · have e2 : Hid (min H y = H) := Lib.hid (by omega)
          obtain rfl := r
          go_region
          all_goals (go_wp2; go_meet; case rel => exact ⟨by rw [e1.out], by rw [e2.out], _, rfl⟩)
        · have e2 : Hid (min H y = y) := Lib.hid (by omega)
          go_region
          all_goals (go_wp2; go_meet; case rel => exact ⟨by rw [e1.out], by rw [e2.out], _, rfl⟩)
      · have e1 : Hid (max L x = L) := Lib.hid (by omega)
        rcases Int.lt_trichotomy H y with r | r | r
        · have e2 : Hid (min H y = H) := Lib.hid (by omega)
          go_region
          all_goals (go_wp2; go_meet; case rel => exact ⟨by rw [e1.out], by rw [e2.out], _, rfl⟩)
        · have e2 : Hid (min H y = H) := Lib.hid (by omega)
          obtain rfl := r
          go_region
          all_goals (go_wp2; go_meet; case rel => exact ⟨by rw [e1.out], by rw [e2.out], _, rfl⟩)
        · have e2 : Hid (min H y = y) := Lib.hid (by omega)
          go_region
          all_goals (go_wp2; go_meet; case rel => exact ⟨by rw [e1.out], by rw [e2.out], _, rfl⟩)
    case rest =>
      obtain ⟨rfl, rfl, hdx⟩ := hcut
      have hx1 := hdx.after hA
      have hno3 := Lib.hid (hno2.out (by omega))
      clear hbad hgo hmt hno hno2 hb1 h1 hp r1 hA hdx
      go_wp2
      go_roundw
      case rel => exact ⟨k + 1, by omega, by go_num, by rw [hm1.out], by rw [hm2.out], hno3.out, hx1⟩
      case measure => simp [intOf]; omega
end Go.Proofs.Ytbbjnhajmckjoaa
