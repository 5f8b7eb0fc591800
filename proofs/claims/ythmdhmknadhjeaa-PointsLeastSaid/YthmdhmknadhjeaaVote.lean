/- Points: Vote. -/
import Derived.Test.YthmdhmknadhjeaaLists
namespace Go.Proofs.Ythmdhmknadhjeaa
open Go.RowKit Go.BigFrame

/-- tables in memory: a slice of slices -/
def Tabs (w : World) (A : Option Addr) (tt : List (List Pt)) : Prop :=
  tt.length ≤ 9223372036854775807 ∧ ∀ k (_ : k < tt.length), ∃ b o Ak ck, A = some ⟨b, o, none⟩ ∧ b < w.heap.size ∧ w.cell? ⟨b, o + k, none⟩ = some (.slice Ak tt[k].length ck) ∧ Pts w Ak tt[k]
theorem Tabs.below {w w' : World} {A : Option Addr} {tt : List (List Pt)} (h : Tabs w A tt) (d : Below w.heap.size w w') : Tabs w' A tt :=
  ⟨h.1, fun k hk => by
    obtain ⟨b, o, Ak, ck, e, hb, hc, hp⟩ := h.2 k hk
    exact ⟨b, o, Ak, ck, e, Nat.lt_of_lt_of_le hb d.size, (d.cell (p := ⟨b, o + k, none⟩) hb).trans hc, hp.below d⟩⟩
theorem Ints.below {w w' : World} {A : Option Addr} {l : List Int} (h : Ints w A l) (d : Below w.heap.size w w') : Ints w' A l := Sl.below' h d

def votef : Int → List Int → List (List Pt) → List Int → Option (Int × List Int)
  | v, ps, t :: tt, r :: rs => if fst 0 t r < 0 then none else votef (max v (pt2 t (fst 0 t r))) (ps ++ [fst 0 t r]) tt rs
  | v, ps, _, _ => some (v, ps)
where pt2 (t : List Pt) (i : Int) : Int := (t.getD i.toNat (0, 0)).2
def allTab (tt : List (List Pt)) : Bool := tt.all fun t => tab t
def voteOut : Option (Int × List Int) → Int × List Int × Int
  | none => (0, [], 6)
  | some (v, ps) => (v, ps, 0)
def vote (tt : List (List Pt)) (rs : List Int) : Int × List Int × Int :=
  if 64 < tt.length ∨ rs.length ≠ tt.length then (0, [], 1)
  else if allTab tt = false then (0, [], 280)
  else voteOut (votef 0 [] tt rs)
theorem votef_step {v : Int} {ps : List Int} {tt : List (List Pt)} {rs : List Int} {k : Nat} (h1 : k < tt.length) (h2 : k < rs.length) :
    votef v ps (tt.drop k) (rs.drop k) = if fst 0 tt[k] rs[k] < 0 then none else votef (max v (votef.pt2 tt[k] (fst 0 tt[k] rs[k]))) (ps ++ [fst 0 tt[k] rs[k]]) (tt.drop (k + 1)) (rs.drop (k + 1)) := by
  rw [List.drop_eq_getElem_cons h1, List.drop_eq_getElem_cons h2]; rfl
theorem votef_end {v : Int} {ps : List Int} {tt : List (List Pt)} {rs : List Int} {k : Nat} (h1 : tt.length ≤ k) : votef v ps (tt.drop k) (rs.drop k) = some (v, ps) := by
  rw [List.drop_eq_nil_of_le h1]; cases List.drop k rs <;> rfl
theorem elt28 : Elt Try.prog 28 3 1 8 := Elt.of (z := .int .i64 0) Try.underlying28 (by kernel_rfl) rfl (by decide) (by decide)

theorem fin_vote {tt : List (List Pt)} {rs : List Int} {x n : Int} {v : Value} {ps : List Int} (h : vote tt rs = (x, ps, n)) : Ending.returned (.tuple #[.int .i64 x, v, .int .i64 n]) = .returned (.tuple #[.int .i64 (vote tt rs).1, v, .int .i64 (vote tt rs).2.2]) := by rw [h]
theorem own_vote {tt : List (List Pt)} {rs : List Int} {x n : Int} {v : Value} {ps : List Int} {w : World} {B : Nat} (h : vote tt rs = (x, ps, n)) (ho : Own w B 3 1 (ps.map irow) v) : Own w B 3 1 ((vote tt rs).2.1.map irow) v := by rw [h]; exact ho

set_option maxHeartbeats 4000000 in
set_option maxRecDepth 100000 in
theorem vote_any (tt : List (List Pt)) (rs : List Int) (A R : Option Addr) (c d : Nat) (w : World) (ht : Tabs w A tt) (hr : Ints w R rs) :
    Calls Try.prog 13 #[.slice A tt.length c, .slice R rs.length d] w fun e w' => ∃ v, e = .returned (.tuple #[.int .i64 (vote tt rs).1, v, .int .i64 (vote tt rs).2.2]) ∧ Own w' w.heap.size 3 1 ((vote tt rs).2.1.map irow) v ∧ Below w.heap.size w w' := by
  have hlt := ht.1
  have hlr := hr.le
  by_cases h64 : 64 < tt.length
  case pos =>
    have e := Lib.hid (show vote tt rs = (0, [], 1) by unfold vote; rw [if_pos (Or.inl h64)])
    go_enter Try.func13, Try.ntmps13
    go_wp2
    go_ret3
    exact ⟨_, fin_vote e.out, own_vote e.out (Own.nil _ _ _ _), Below.refl _ _⟩
  by_cases hne : rs.length = tt.length
  case neg =>
    have e := Lib.hid (show vote tt rs = (0, [], 1) by unfold vote; rw [if_pos (Or.inr hne)])
    have hb : ((rs.length : Int) != (tt.length : Int)) = true := by simp; omega
    go_enter Try.func13, Try.ntmps13
    go_wp2
    go_ret3
    exact ⟨_, fin_vote e.out, own_vote e.out (Own.nil _ _ _ _), Below.refl _ _⟩
  go_enter Try.func13, Try.ntmps13
  go_wp2
  go_loopw [4, 5, 26] (fun x p v wr => ∃ k : Nat, k ≤ tt.length ∧ v = .int .i64 k ∧ x = .int .i64 0 ∧ p = .slice none 0 0 ∧ Below w.heap.size w wr ∧ ∀ j (_ : j < k) (h2 : j < tt.length), tab tt[j] = true) (fun _ _ v _ => tt.length - (intOf v).toNat)
  case atStart => exact ⟨0, by omega, rfl, rfl, rfl, Below.refl _ _, fun j h _ => absurd h (by omega)⟩
  case round =>
    obtain ⟨k, hk, rfl, rfl, rfl, hg, hall⟩ := hrel
    have hallH := Lib.hid hall
    clear hall
    by_cases hkl : k = tt.length
    · subst hkl
      have hat : allTab tt = true := List.all_eq_true.2 fun t ht => by
        obtain ⟨j, hj, rfl⟩ := List.getElem_of_mem ht
        exact hallH.out j hj hj
      have hres := Lib.hid (show vote tt rs = voteOut (votef 0 [] tt rs) by
        unfold vote; rw [if_neg (by omega), if_neg (by rw [hat]; decide)])
      clear hat hallH
      go_wp2
      go_loopw [4, 5, 38] (fun x p v wr => ∃ (k : Nat) (z : Int) (ps : List Int), k ≤ tt.length ∧ v = .int .i64 k ∧ x = .int .i64 z ∧ Own wr w.heap.size 3 1 (ps.map irow) p ∧ ps.length = k ∧ Below w.heap.size w wr ∧ votef 0 [] tt rs = votef z ps (tt.drop k) (rs.drop k)) (fun _ _ v _ => tt.length - (intOf v).toNat)
      case atStart => exact ⟨0, 0, [], by omega, rfl, rfl, Own.nil _ _ _ _, rfl, hg, rfl⟩
      case round =>
        clear hg
        obtain ⟨k, z, ps, hk, rfl, rfl, hO, hps, hg, hv⟩ := hrel
        by_cases hkl : k = tt.length
        · subst hkl
          have e := Lib.hid (hres.out.trans (by rw [hv, votef_end (Nat.le_refl _)]))
          clear hres hv
          go_wp2
          go_ret3
          exact ⟨_, fin_vote e.out, own_vote e.out hO, hg⟩
        have hkl : k < tt.length := by omega
        obtain ⟨b, o, Ak, ck, rfl, hb, hc, hp⟩ := (ht.below hg).2 k hkl
        obtain ⟨b2, o2, rfl, hb2, hc2⟩ := (hr.below hg).at_ (k := k) (by omega)
        have F := first_any tt[k] Ak ck (rs[k]'(by omega)) _ hp
        rw [votef_step hkl (by omega)] at hv
        have hfr := fst_range tt[k] (rs[k]'(by omega)) 0
        by_cases hneg : fst 0 tt[k] (rs[k]'(by omega)) < 0
        · have e := Lib.hid (hres.out.trans (by rw [hv, if_pos hneg]))
          rw [decide_eq_false (by omega)] at F
          clear hres hv hfr
          generalize fst 0 tt[k] (rs[k]'(by omega)) = x at *
          go_wp2_with (go_at_call 42; refine F.mono ?_; rintro e w2 ⟨rfl, hb3⟩)
          go_ret3
          exact ⟨_, fin_vote e.out, own_vote e.out (Own.nil _ _ _ _), hg.trans (hb3.mono hg.size)⟩
        · rw [if_neg hneg] at hv
          obtain ⟨j, hj, _, hjl⟩ : ∃ j : Nat, fst 0 tt[k] (rs[k]'(by omega)) = j ∧ 0 ≤ j ∧ j < 0 + tt[k].length := by
            rcases hfr with q | q
            · omega
            · exact q
          rw [hj] at hv F
          rw [decide_eq_true (by omega), Int.max_eq_right (by omega)] at F
          have hj2 : j < tt[k].length := by omega
          have hV := Lib.hid (show votef.pt2 tt[k] (j : Int) = tt[k][j].2 by unfold votef.pt2; simp [List.getD, hj2])
          rw [hV.out] at hv
          clear hres hfr hneg hj
          obtain ⟨b3, o3, rfl, _, _, _⟩ := hp.at_ hj2
          have hsz := hg.size
          have below_al' : ∀ {w2 : World} (o : Obj), w.heap.size ≤ w2.heap.size → Below w.heap.size w2 (w2.alloc o) := fun o h => (Below.refl _ _).alloc h o
          rcases Int.lt_trichotomy z tt[k][j].2 with q | q | q
          · rw [Int.max_eq_right (by omega)] at hv
            have hvH := Lib.hid hv
            clear hv
            go_wp2_with (first
              | (go_at_call 42; refine F.mono ?_; rintro e w2 ⟨rfl, hb3⟩; obtain ⟨b4, o4, e4, _, d1, d2⟩ := Pts.at_ (hp.below hb3) hj2; cases e4; have hO2 := hO.below hb3; have hs2 := hb3.size)
              | (at_builtin; refine wpList_push elt28 rfl _ _ rfl rfl (hO2.alloc _) [.int .i64 j] w2.heap.size 3 rfl (heap_alloc_at _ _) rfl (by simp [Value.oneCell']) (by rw [List.length_map, hps]; omega) (by rw [size_al]; omega) ?_; intro v' w3 ho' hb' hs' _ _))
            go_roundw
            case rel => exact ⟨k + 1, _, ps ++ [(j : Int)], by omega, by go_num, rfl, by rw [List.map_append]; exact ho', by rw [List.length_append, hps]; rfl, (hg.trans (hb3.mono hsz)).trans ((below_al' _ (by omega)).trans hb'), hvH.out⟩
            case measure => simp [intOf]; omega
          · rw [← q, Int.max_eq_right (by omega)] at hv
            have hvH := Lib.hid hv
            clear hv
            go_wp2_with (first
              | (go_at_call 42; refine F.mono ?_; rintro e w2 ⟨rfl, hb3⟩; obtain ⟨b4, o4, e4, _, d1, d2⟩ := Pts.at_ (hp.below hb3) hj2; cases e4; have hO2 := hO.below hb3; have hs2 := hb3.size)
              | (at_builtin; refine wpList_push elt28 rfl _ _ rfl rfl (hO2.alloc _) [.int .i64 j] w2.heap.size 3 rfl (heap_alloc_at _ _) rfl (by simp [Value.oneCell']) (by rw [List.length_map, hps]; omega) (by rw [size_al]; omega) ?_; intro v' w3 ho' hb' hs' _ _))
            go_roundw
            case rel => exact ⟨k + 1, _, ps ++ [(j : Int)], by omega, by go_num, rfl, by rw [List.map_append]; exact ho', by rw [List.length_append, hps]; rfl, (hg.trans (hb3.mono hsz)).trans ((below_al' _ (by omega)).trans hb'), by rw [← q]; exact hvH.out⟩
            case measure => simp [intOf]; omega
          · rw [Int.max_eq_left (by omega)] at hv
            have hvH := Lib.hid hv
            clear hv
            go_wp2_with (first
              | (go_at_call 42; refine F.mono ?_; rintro e w2 ⟨rfl, hb3⟩; obtain ⟨b4, o4, e4, _, d1, d2⟩ := Pts.at_ (hp.below hb3) hj2; cases e4; have hO2 := hO.below hb3; have hs2 := hb3.size)
              | (at_builtin; refine wpList_push elt28 rfl _ _ rfl rfl (hO2.alloc _) [.int .i64 j] w2.heap.size 3 rfl (heap_alloc_at _ _) rfl (by simp [Value.oneCell']) (by rw [List.length_map, hps]; omega) (by rw [size_al]; omega) ?_; intro v' w3 ho' hb' hs' _ _))
            go_roundw
            case rel => exact ⟨k + 1, _, ps ++ [(j : Int)], by omega, by go_num, rfl, by rw [List.map_append]; exact ho', by rw [List.length_append, hps]; rfl, (hg.trans (hb3.mono hsz)).trans ((below_al' _ (by omega)).trans hb'), hvH.out⟩
            case measure => simp [intOf]; omega
    have hkl : k < tt.length := by omega
    obtain ⟨b, o, Ak, ck, rfl, hb, hc, hp⟩ := (ht.below hg).2 k hkl
    have B := bad_any _ _ ck _ hp
    by_cases hT : (check tt[k]).2 = 0
    · rw [hT] at B
      have hn := Lib.hid (show ∀ j (_ : j < k + 1) (h2 : j < tt.length), tab tt[j] = true from fun j h1 h2 => by
        rcases Nat.lt_or_ge j k with q | q
        · exact hallH.out j q h2
        · obtain rfl : j = k := by omega
          exact decide_eq_true hT)
      clear hallH hT
      go_wp2_with (go_at_call 41; refine B.mono ?_; rintro e w2 ⟨rfl, hb2⟩)
      go_roundw
      case rel => exact ⟨k + 1, by omega, by go_num, rfl, rfl, hg.trans (hb2.mono hg.size), hn.out⟩
      case measure => simp [intOf]; omega
    · have h280 : (check tt[k]).2 = 280 := (check_two tt[k]).resolve_right fun e => hT (by rw [e])
      rw [h280] at B
      have hat : allTab tt = false := by
        unfold allTab
        rw [List.all_eq_false]
        exact ⟨tt[k], List.getElem_mem hkl, by unfold tab; simp [hT]⟩
      have e := Lib.hid (show vote tt rs = (0, [], 280) by unfold vote; rw [if_neg (by omega), if_pos hat])
      clear hallH hT hat
      go_wp2_with (go_at_call 41; refine B.mono ?_; rintro e w2 ⟨rfl, hb2⟩)
      go_ret3
      exact ⟨_, fin_vote e.out, own_vote e.out (Own.nil _ _ _ _), hg.trans (hb2.mono hg.size)⟩
end Go.Proofs.Ythmdhmknadhjeaa
