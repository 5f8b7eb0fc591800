/- Points: the reference's Vote. -/
import Derived.Test.YthmdhmknadhjeaaVote
namespace Go.Proofs.Ythmdhmknadhjeaa
open Go.RowKit Go.BigFrame

set_option maxHeartbeats 4000000 in
set_option maxRecDepth 100000 in
theorem rvote_any (tt : List (List Pt)) (rs : List Int) (A R : Option Addr) (c d : Nat) (w : World) (ht : Tabs w A tt) (hr : Ints w R rs) :
    Calls Try.prog 14 #[.slice A tt.length c, .slice R rs.length d] w fun e w' => ∃ v, e = .returned (.tuple #[.int .i64 (vote tt rs).1, v, .int .i64 (vote tt rs).2.2]) ∧ Own w' w.heap.size 3 1 ((vote tt rs).2.1.map irow) v ∧ Below w.heap.size w w' := by
  have hlt := ht.1
  have hlr := hr.le
  by_cases h64 : 64 < tt.length
  case pos =>
    have e := Lib.hid (show vote tt rs = (0, [], 1) by unfold vote; rw [if_pos (Or.inl h64)])
    go_enter Try.func14, Try.ntmps14
    go_wp2
    go_ret3
    exact ⟨_, fin_vote e.out, own_vote e.out (Own.nil _ _ _ _), Below.refl _ _⟩
  by_cases hne : rs.length = tt.length
  case neg =>
    have e := Lib.hid (show vote tt rs = (0, [], 1) by unfold vote; rw [if_pos (Or.inr hne)])
    have hb : ((rs.length : Int) != (tt.length : Int)) = true := by simp; omega
    go_enter Try.func14, Try.ntmps14
    go_wp2
    go_ret3
    exact ⟨_, fin_vote e.out, own_vote e.out (Own.nil _ _ _ _), Below.refl _ _⟩
  go_enter Try.func14, Try.ntmps14
  go_wp2
  go_loopw [7] (fun v wr => ∃ k : Nat, k ≤ tt.length ∧ v = .int .i64 k ∧ Below w.heap.size w wr ∧ ∀ j (_ : j < k) (h2 : j < tt.length), tab tt[j] = true) (fun v _ => tt.length - (intOf v).toNat)
  case atStart => exact ⟨0, by omega, rfl, Below.refl _ _, fun j h _ => absurd h (by omega)⟩
  case round =>
    obtain ⟨k, hk, rfl, hg, hall⟩ := hrel
    have hallH := Lib.hid hall
    clear hall
    by_cases hkl : k = tt.length
    · subst hkl
      have hat : allTab tt = true := List.all_eq_true.2 fun t ht => by
        obtain ⟨j, hj, rfl⟩ := List.getElem_of_mem ht
        exact hallH.out j hj hj
      have hres := Lib.hid (show vote tt rs = voteOut (votef 0 [] tt rs) by
        unfold vote; rw [if_neg (by omega), if_neg (by rw [hat]; decide)])
      clear hat hallH
      go_wp2
      go_loopw [8, 9, 10] (fun x p v wr => ∃ (k : Nat) (z : Int) (ps : List Int), k ≤ tt.length ∧ v = .int .i64 k ∧ x = .int .i64 z ∧ Own wr w.heap.size 3 1 (ps.map irow) p ∧ ps.length = k ∧ Below w.heap.size w wr ∧ votef 0 [] tt rs = votef z ps (tt.drop k) (rs.drop k)) (fun _ _ v _ => tt.length - (intOf v).toNat)
      case atStart => exact ⟨0, 0, [], by omega, rfl, rfl, Own.nil _ _ _ _, rfl, hg, rfl⟩
      case round =>
        clear hg
        obtain ⟨k, z, ps, hk, rfl, rfl, hO, hps, hg, hv⟩ := hrel
        by_cases hkl : k = tt.length
        · subst hkl
          have e := Lib.hid (hres.out.trans (by rw [hv, votef_end (Nat.le_refl _)]))
          clear hres hv
          go_wp2
          go_ret3
          exact ⟨_, fin_vote e.out, own_vote e.out hO, hg⟩
        have hkl : k < tt.length := by omega
        obtain ⟨b, o, Ak, ck, rfl, hb, hc, hp⟩ := (ht.below hg).2 k hkl
        obtain ⟨b2, o2, rfl, hb2, hc2⟩ := (hr.below hg).at_ (k := k) (by omega)
        have F := fun n => rfirst_any tt[k] Ak ck (rs[k]'(by omega)) (wr.drewN n) (Sl.drawn hp ⟨n, rfl⟩)
        rw [votef_step hkl (by omega)] at hv
        have hfr := fst_range tt[k] (rs[k]'(by omega)) 0
        by_cases hneg : fst 0 tt[k] (rs[k]'(by omega)) < 0
        · have e := Lib.hid (hres.out.trans (by rw [hv, if_pos hneg]))
          clear hres hv hfr
          generalize fst 0 tt[k] (rs[k]'(by omega)) = x at *
          go_wp2
          go_big_quiet ((go_at_call 44; exact quiet_same (F _)))
          go_wp2
          go_ret3
          exact ⟨_, fin_vote e.out, own_vote e.out (Own.nil _ _ _ _), below_drewN' hg _⟩
        · rw [if_neg hneg] at hv
          obtain ⟨j, hj, _, hjl⟩ : ∃ j : Nat, fst 0 tt[k] (rs[k]'(by omega)) = j ∧ 0 ≤ j ∧ j < 0 + tt[k].length := by
            rcases hfr with q | q
            · omega
            · exact q
          rw [hj] at hv F
          have hj2 : j < tt[k].length := by omega
          have hV := Lib.hid (show votef.pt2 tt[k] (j : Int) = tt[k][j].2 by unfold votef.pt2; simp [List.getD, hj2])
          rw [hV.out] at hv
          clear hres hfr hneg hj
          obtain ⟨b3, o3, rfl, _, d1, d2⟩ := hp.at_ hj2
          have hsz := hg.size
          have below_al' : ∀ {w2 : World} (o : Obj), w.heap.size ≤ w2.heap.size → Below w.heap.size w2 (w2.alloc o) := fun o h => (Below.refl _ _).alloc h o
          rcases Int.lt_trichotomy z tt[k][j].2 with q | q | q
          · rw [Int.max_eq_right (by omega)] at hv
            have hvH := Lib.hid hv
            clear hv
            go_wp2
            go_big_quiet ((go_at_call 44; exact quiet_same (F _)))
            go_wp2_with (at_builtin; refine wpList_push elt28 rfl _ _ rfl rfl ((Own.drawn hO ⟨nq, rfl⟩).alloc _) [.int .i64 j] wr.heap.size 3 rfl (heap_alloc_at' _ _ _ rfl) rfl (by simp [Value.oneCell']) (by rw [List.length_map, hps]; omega) (by rw [size_al, size_drewN]; omega) ?_; intro v' w3 ho' hb' hs' _ _)
            go_roundw
            case rel => exact ⟨k + 1, _, ps ++ [(j : Int)], by omega, by go_num, rfl, by rw [List.map_append]; exact ho', by rw [List.length_append, hps]; rfl, (below_drewN' hg nq).trans ((below_al' _ (by rw [size_drewN]; exact hsz)).trans hb'), hvH.out⟩
            case measure => simp [intOf]; omega
          · rw [← q, Int.max_eq_right (by omega)] at hv
            have hvH := Lib.hid hv
            clear hv
            go_wp2
            go_big_quiet ((go_at_call 44; exact quiet_same (F _)))
            go_wp2_with (at_builtin; refine wpList_push elt28 rfl _ _ rfl rfl ((Own.drawn hO ⟨nq, rfl⟩).alloc _) [.int .i64 j] wr.heap.size 3 rfl (heap_alloc_at' _ _ _ rfl) rfl (by simp [Value.oneCell']) (by rw [List.length_map, hps]; omega) (by rw [size_al, size_drewN]; omega) ?_; intro v' w3 ho' hb' hs' _ _)
            go_roundw
            case rel => exact ⟨k + 1, _, ps ++ [(j : Int)], by omega, by go_num, rfl, by rw [List.map_append]; exact ho', by rw [List.length_append, hps]; rfl, (below_drewN' hg nq).trans ((below_al' _ (by rw [size_drewN]; exact hsz)).trans hb'), by rw [← q]; exact hvH.out⟩
            case measure => simp [intOf]; omega
          · rw [Int.max_eq_left (by omega)] at hv
            have hvH := Lib.hid hv
            clear hv
            go_wp2
            go_big_quiet ((go_at_call 44; exact quiet_same (F _)))
            go_wp2_with (at_builtin; refine wpList_push elt28 rfl _ _ rfl rfl ((Own.drawn hO ⟨nq, rfl⟩).alloc _) [.int .i64 j] wr.heap.size 3 rfl (heap_alloc_at' _ _ _ rfl) rfl (by simp [Value.oneCell']) (by rw [List.length_map, hps]; omega) (by rw [size_al, size_drewN]; omega) ?_; intro v' w3 ho' hb' hs' _ _)
            go_roundw
            case rel => exact ⟨k + 1, _, ps ++ [(j : Int)], by omega, by go_num, rfl, by rw [List.map_append]; exact ho', by rw [List.length_append, hps]; rfl, (below_drewN' hg nq).trans ((below_al' _ (by rw [size_drewN]; exact hsz)).trans hb'), hvH.out⟩
            case measure => simp [intOf]; omega
    have hkl : k < tt.length := by omega
    obtain ⟨b, o, Ak, ck, rfl, hb, hc, hp⟩ := (ht.below hg).2 k hkl
    have B := may_any _ _ ck _ hp
    by_cases hT : (check tt[k]).2 = 0
    · rw [show tab tt[k] = true from decide_eq_true hT] at B
      have hn := Lib.hid (show ∀ j (_ : j < k + 1) (h2 : j < tt.length), tab tt[j] = true from fun j h1 h2 => by
        rcases Nat.lt_or_ge j k with q | q
        · exact hallH.out j q h2
        · obtain rfl : j = k := by omega
          exact decide_eq_true hT)
      clear hallH hT
      go_wp2_with (go_at_call 43; refine B.mono ?_; rintro e w2 ⟨rfl, hb2⟩)
      go_roundw
      case rel => exact ⟨k + 1, by omega, by go_num, hg.trans (hb2.mono hg.size), hn.out⟩
      case measure => simp [intOf]; omega
    · rw [show tab tt[k] = false from decide_eq_false hT] at B
      have hat : allTab tt = false := by
        unfold allTab
        rw [List.all_eq_false]
        exact ⟨tt[k], List.getElem_mem hkl, by unfold tab; simp [hT]⟩
      have e := Lib.hid (show vote tt rs = (0, [], 280) by unfold vote; rw [if_neg (by omega), if_pos hat])
      clear hallH hT hat
      go_wp2_with (go_at_call 43; refine B.mono ?_; rintro e w2 ⟨rfl, hb2⟩)
      go_ret3
      exact ⟨_, fin_vote e.out, own_vote e.out (Own.nil _ _ _ _), hg.trans (hb2.mono hg.size)⟩
end Go.Proofs.Ythmdhmknadhjeaa
