/- Idle: Race refuses. -/
import Derived.Test.YtgnhddnhcfmipaaRc2
namespace Go.Proofs.Ytgnhddnhcfmipaa
open Go.RowKit Go.BigFrame

def nope (W : World) (e : Ending) (w' : World) : Prop := e = .returned (.tuple #[.slice none 0 0, .agg zv.arr, .int .i64 1]) ∧ Below W.heap.size W w'
theorem zv_row : zv.arr = #[.int .i64 0, .bool false, .int .i64 0, .int .i64 0] := rfl
theorem nope_of {W w : World} {H : Nat} (hH : H = W.heap.size) (hb : Below H W w) : Below W.heap.size W (w.setRow H #[.int .i64 0, .bool false, .int .i64 0, .int .i64 0]) := by
  have := below_setRow hb (Nat.le_refl H) #[.int .i64 0, .bool false, .int .i64 0, .int .i64 0]
  exact this.mono (Nat.le_of_eq hH.symm)
set_option maxHeartbeats 8000000 in
set_option maxRecDepth 100000 in
theorem race_no (D : Int) (cs : List (Int × Int)) (n ns : Nat) (A B : Option Addr) (a b : Nat) (W : World) (h1 : Cls W A cs) (hn : cs.length = n) (hr : ¬ okr D cs) :
    Calls Try.prog 20 #[.int .i64 D, .slice A n a, .slice B ns b] W (nope W) := by
  have hcd := Lib.hid (fun (k : Nat) (hk : k < cs.length) (W' : World) (hd : Below W.heap.size W W') => (h1.below hd).at_ hk)
  have hKN := (new_any D)
  have hrd := Lib.hid hr
  have hnm := Cls.le h1
  clear h1 hr
  unfold nope
  by_cases hD : okTick D
  · have hdt := isTick_yes hD
    rw [hdt] at hKN
    clear hdt
    by_cases hn5 : n ≤ 1000
    · have hnb : ¬ (1000 : Int) < (n : Int) := by omega
      replace hn := Lib.hid hn
      go_enter Try.func20, Try.ntmps20
      go_upto_region 4 with (go_at_call 11; (with_reducible refine (hKN _).mono ?_); rintro e w1 (⟨h, _⟩ | ⟨_, rfl, rfl⟩); cases h)
      have hz2 : ((W.alloc (.cells #[.int .i64 0, .bool false, .int .i64 0, .int .i64 0] 38)).alloc (.cells #[.int .i64 D, .int .u64 0] 100)).heap.size = W.heap.size + 2 := by rw [size_al, size_al]
      have hbx : ((W.alloc (.cells #[.int .i64 0, .bool false, .int .i64 0, .int .i64 0] 38)).alloc (.cells #[.int .i64 D, .int .u64 0] 100)).heap[W.heap.size]? = some (.cells #[.int .i64 0, .bool false, .int .i64 0, .int .i64 0] 38) := heap_alloc (heap_alloc_at _ _)
      have hgx : ((W.alloc (.cells #[.int .i64 0, .bool false, .int .i64 0, .int .i64 0] 38)).alloc (.cells #[.int .i64 D, .int .u64 0] 100)).heap[W.heap.size + 1]? = some (.cells #[.int .i64 D, .int .u64 0] 100) := heap_alloc_at' _ _ _ (by rw [size_al])
      have hbW : Below W.heap.size W ((W.alloc (.cells #[.int .i64 0, .bool false, .int .i64 0, .int .i64 0] 38)).alloc (.cells #[.int .i64 D, .int .u64 0] 100)) := below_al (below_al (Below.refl _ _) _) _
      clear hKN
      generalize ((W.alloc (.cells #[.int .i64 0, .bool false, .int .i64 0, .int .i64 0] 38)).alloc (.cells #[.int .i64 D, .int .u64 0] 100)) = w2 at *
      obtain ⟨z106, hi106⟩ := i106
      go_upto_region 6 with (refine wpList_maden Try.underlying104 hi106 rfl _ _ rfl n rfl rfl (by omega) (by unfold maxLen; omega) ?_; intro w3 rs hO hrl hb3)
      clear hi106
      obtain ⟨H, hH⟩ : ∃ H, H = W.heap.size := ⟨_, rfl⟩
      rw [hz2] at hO
      rw [← hH] at hO hz2 hbx hgx ⊢
      have hb23 : Below (H + 2) w2 w3 := hb3.mono (by omega)
      have hgx3 := (hb23.block (H + 1) (by omega)).trans hgx
      have hbx3 := (hb23.block H (by omega)).trans hbx
      have hbW3 : Below W.heap.size W w3 := hbW.trans (hb3.mono (by omega))
      clear hb3 hb23 hgx hbx hbW hz2
      replace hH := Lib.hid hH
      go_loopw [36] (fun s36 wr => ∃ (k : Nat) (rs : List (List Value)), k ≤ n ∧ s36 = .int .i64 k ∧ rs.length = n ∧ Own wr (H + 2) 106 9 rs (.slice (some ⟨H + 2, 0, none⟩) n n) ∧ (∀ j, j < k → okc (callAt cs j)) ∧ Below (H + 2) w3 wr) (fun s36 _ => n - (intOf s36).toNat)
      case atStart => exact ⟨0, rs, by omega, rfl, hrl, hO, fun j h => by omega, Below.refl _ _⟩
      case round =>
        clear hO hrl rs
        obtain ⟨k, rs, hk, rfl, hrl, hO, hall, hd⟩ := hrel
        obtain ⟨wi, rfl⟩ : ∃ x : World, x = wr := ⟨_, rfl⟩
        have hdW : Below W.heap.size W wi := hbW3.trans (hd.mono (by rw [← hH.out]; omega))
        by_cases hkn : k = n
        · exact absurd ⟨hD, by rw [hn.out]; exact hn5, fun j hj => hall j (by rw [hkn, ← hn.out]; exact hj)⟩ hrd.out
        · have hlt : k < n := by omega
          have hkl : k < cs.length := by rw [hn.out]; exact hlt
          obtain ⟨ba, oa, rfl, _, x0, x1⟩ := hcd.out k hkl wi hdW
          have hca : Hid (callAt cs k = cs[k]) := Lib.hid (by unfold callAt; rw [List.getD_eq_getElem?_getD, List.getElem?_eq_getElem hkl]; rfl)
          generalize cs[k] = cc at *
          obtain ⟨kd, nw⟩ := cc
          simp only at x0 x1
          have hvo := (hd.block H (by omega)).trans hbx3
          have hNH : H < wi.heap.size := heap_lt hvo
          have hbH : Below H W wi := by rw [hH.out]; exact hdW
          have KT := tick_any nw
          by_cases hck : okc (kd, nw)
          · have hck1 := hck
            obtain ⟨⟨q1, q2⟩, q3⟩ := hck
            simp only at q1 q2 q3
            rw [isTick_yes q3] at KT
            have n1 : ¬ kd < 1 := by omega
            have n2 : ¬ 3 < kd := by omega
            have hall' : Hid (∀ j, j < k + 1 → okc (callAt cs j)) := Lib.hid fun j hj => by
              by_cases e : j = k
              · subst e; rw [hca.out]; exact hck1
              · exact hall j (by omega)
            clear hkn hcd hrd hca hall hck1 hvo hbH hNH
            go_upto_region 8 with (refine wpList_store_row rfl 58 _ _ rfl wi.heap.size #[.int .u8 kd, .int .i64 nw] rfl rfl 58 _ (heap_alloc_at _ _) (by kernel_rfl) (by kernel_rfl) (by kernel_rfl) ?_)
            rw [setRow_alloc _ _ _ _ _ rfl]
            simp only [Act.put]
            have hdA : Below (H + 2) w3 (wi.alloc (.cells #[.int .u8 kd, .int .i64 nw] 58)) := hd.alloc (Nat.le_trans (by rw [Nat.le_iff_lt_or_eq]; exact Or.inl ((hO.lt (H + 2) rfl).2)) (Nat.le_refl _)) _
            have hOA := hO.alloc (.cells #[.int .u8 kd, .int .i64 nw] 58)
            have hbxA := heap_alloc_at wi (.cells #[.int .u8 kd, .int .i64 nw] 58)
            have hNN : H + 2 < wi.heap.size := (hO.lt (H + 2) rfl).2
            generalize wi.alloc (.cells #[.int .u8 kd, .int .i64 nw] 58) = wA at *
            generalize wi.heap.size = NN at *
            have y0 := cell_of_row _ _ 0 _ 58 (0, 0) hbxA
            have y1 := cell_of_row _ _ 1 _ 58 (0, 0) hbxA
            have hr9 := hOA.2 _ (List.getElem_mem (by rw [hrl]; exact hlt : k < rs.length))
            have hrk := List.getElem?_eq_getElem (by rw [hrl]; exact hlt : k < rs.length)
            clear x0 x1 hO hd hbxA
            generalize rs[k]'(by rw [hrl]; exact hlt) = r at *
            match r, hr9 with
            | [r0, r1, r2, r3, r4, r5, r6, r7, r8], _ =>
              have d0 := hOA.cells hrl hlt hrk (f := 0) rfl
              have d1 := hOA.cells hrl hlt hrk (f := 1) rfl
              have d2 := hOA.cells hrl hlt hrk (f := 2) rfl
              have d3 := hOA.cells hrl hlt hrk (f := 3) rfl
              have d4 := hOA.cells hrl hlt hrk (f := 4) rfl
              have d5 := hOA.cells hrl hlt hrk (f := 5) rfl
              have d6 := hOA.cells hrl hlt hrk (f := 6) rfl
              have d7 := hOA.cells hrl hlt hrk (f := 7) rfl
              have d8 := hOA.cells hrl hlt hrk (f := 8) rfl
              simp only [Nat.add_zero] at d0
              obtain ⟨d0, f0⟩ := d0
              obtain ⟨d1, f1⟩ := d1
              obtain ⟨d2, f2⟩ := d2
              obtain ⟨d3, f3⟩ := d3
              obtain ⟨d4, f4⟩ := d4
              obtain ⟨d5, f5⟩ := d5
              obtain ⟨d6, f6⟩ := d6
              obtain ⟨d7, f7⟩ := d7
              obtain ⟨d8, f8⟩ := d8
              go_upto_region 11 with (go_at_call 41; (with_reducible refine (KT _).mono ?_); rintro e w1 ⟨rfl, rfl⟩)
              have hO9 := Lib.hid (hOA.nine hrl hlt (.pointer (some ⟨H + 1, 0, none⟩)) (.int .u8 kd) (.int .i64 nw) (.int .u64 0) (.int .u64 0) (.bool false) (.bool false) (.int .i64 0) (.int .i64 0))
              have hd9 := Lib.hid (((((((((hdA.setCell (p := ⟨H + 2, k * 9, none⟩) (Nat.le_refl _) (.pointer (some ⟨H + 1, 0, none⟩))).setCell (p := ⟨H + 2, k * 9 + 1, none⟩) (Nat.le_refl _) (.int .u8 kd)).setCell (p := ⟨H + 2, k * 9 + 2, none⟩) (Nat.le_refl _) (.int .i64 nw)).setCell (p := ⟨H + 2, k * 9 + 3, none⟩) (Nat.le_refl _) (.int .u64 0)).setCell (p := ⟨H + 2, k * 9 + 4, none⟩) (Nat.le_refl _) (.int .u64 0)).setCell (p := ⟨H + 2, k * 9 + 5, none⟩) (Nat.le_refl _) (.bool false)).setCell (p := ⟨H + 2, k * 9 + 6, none⟩) (Nat.le_refl _) (.bool false)).setCell (p := ⟨H + 2, k * 9 + 7, none⟩) (Nat.le_refl _) (.int .i64 0)).setCell (p := ⟨H + 2, k * 9 + 8, none⟩) (Nat.le_refl _) (.int .i64 0))
              clear d0 d1 d2 d3 d4 d5 d6 d7 d8 f0 f1 f2 f3 f4 f5 f6 f7 f8 hOA hdA y0 y1
              go_wp2
              go_roundw
              case rel => exact ⟨k + 1, _, by omega, by go_num, by rw [List.length_set]; exact hrl, hO9.out, hall'.out, hd9.out⟩
              case measure => simp [intOf]; omega
          · clear hkn hcd hrd hca hall hO hdW
            have hbA := hbH.alloc (Nat.le_of_lt hNH) (.cells #[.int .u8 kd, .int .i64 nw] 58)
            have hvA : (wi.alloc (.cells #[.int .u8 kd, .int .i64 nw] 58)).heap[H]? = some (.cells #[.int .i64 0, .bool false, .int .i64 0, .int .i64 0] 38) := heap_alloc hvo
            have hbxA := heap_alloc_at wi (.cells #[.int .u8 kd, .int .i64 nw] 58)
            have hbad : kd < 1 ∨ (¬ kd < 1 ∧ 3 < kd) ∨ (¬ kd < 1 ∧ ¬ 3 < kd ∧ ¬ okTick nw) := by
              unfold okc at hck
              simp only at hck
              by_cases q1 : kd < 1
              · exact Or.inl q1
              · by_cases q2 : 3 < kd
                · exact Or.inr (Or.inl ⟨q1, q2⟩)
                · exact Or.inr (Or.inr ⟨q1, q2, fun q3 => hck ⟨⟨by omega, by omega⟩, q3⟩⟩)
            clear hck
            go_upto_region 8 with (refine wpList_store_row rfl 58 _ _ rfl wi.heap.size #[.int .u8 kd, .int .i64 nw] rfl rfl 58 _ (heap_alloc_at _ _) (by kernel_rfl) (by kernel_rfl) (by kernel_rfl) ?_)
            rw [setRow_alloc _ _ _ _ _ rfl]
            simp only [Act.put]
            generalize wi.alloc (.cells #[.int .u8 kd, .int .i64 nw] 58) = wA at *
            generalize wi.heap.size = NN at *
            have y0 := cell_of_row _ _ 0 _ 58 (0, 0) hbxA
            have y1 := cell_of_row _ _ 1 _ 58 (0, 0) hbxA
            clear x0 x1 hbxA hvo hd
            rcases hbad with n1 | ⟨n1, n2⟩ | ⟨n1, n2, n3⟩
            · go_wp2_with (refine wpList_store_row rfl 38 _ _ rfl H #[.int .i64 0, .bool false, .int .i64 0, .int .i64 0] rfl rfl 38 _ hvA (by kernel_rfl) (by kernel_rfl) (by kernel_rfl) ?_)
              exact bodyPost_ret (results3 rfl _ _ H 38 _ (0, 0) _ rfl rfl rfl (setRow_at hvA) Try.underlying38 rfl (by kernel_rfl)) rfl ⟨rfl, nope_of hH.out hbA⟩
            · go_wp2_with (refine wpList_store_row rfl 38 _ _ rfl H #[.int .i64 0, .bool false, .int .i64 0, .int .i64 0] rfl rfl 38 _ hvA (by kernel_rfl) (by kernel_rfl) (by kernel_rfl) ?_)
              exact bodyPost_ret (results3 rfl _ _ H 38 _ (0, 0) _ rfl rfl rfl (setRow_at hvA) Try.underlying38 rfl (by kernel_rfl)) rfl ⟨rfl, nope_of hH.out hbA⟩
            · rw [isTick_no n3] at KT
              go_wp2_with (first
                | (go_at_call 41; (with_reducible refine (KT _).mono ?_); rintro e w1 ⟨rfl, rfl⟩)
                | (refine wpList_store_row rfl 38 _ _ rfl H #[.int .i64 0, .bool false, .int .i64 0, .int .i64 0] rfl rfl 38 _ hvA (by kernel_rfl) (by kernel_rfl) (by kernel_rfl) ?_))
              exact bodyPost_ret (results3 rfl _ _ H 38 _ (0, 0) _ rfl rfl rfl (setRow_at hvA) Try.underlying38 rfl (by kernel_rfl)) rfl ⟨rfl, nope_of hH.out hbA⟩
    · have hnb : (1000 : Int) < (n : Int) := by omega
      have hvo : ((W.alloc (.cells #[.int .i64 0, .bool false, .int .i64 0, .int .i64 0] 38)).alloc (.cells #[.int .i64 D, .int .u64 0] 100)).heap[W.heap.size]? = some (.cells #[.int .i64 0, .bool false, .int .i64 0, .int .i64 0] 38) := heap_alloc (heap_alloc_at _ _)
      have hb := below_al (below_al (Below.refl W.heap.size W) (.cells #[.int .i64 0, .bool false, .int .i64 0, .int .i64 0] 38)) (.cells #[.int .i64 D, .int .u64 0] 100)
      clear hcd hrd hD hn hn5
      go_enter Try.func20, Try.ntmps20
      go_wp2_with (first
        | (go_at_call 11; (with_reducible refine (hKN _).mono ?_); rintro e w1 (⟨h, _⟩ | ⟨_, rfl, rfl⟩); cases h)
        | (refine wpList_store_row rfl 38 _ _ rfl W.heap.size #[.int .i64 0, .bool false, .int .i64 0, .int .i64 0] rfl rfl 38 _ hvo (by kernel_rfl) (by kernel_rfl) (by kernel_rfl) ?_))
      exact bodyPost_ret (results3 rfl _ _ W.heap.size 38 _ (0, 0) _ rfl rfl rfl (setRow_at hvo) Try.underlying38 rfl (by kernel_rfl)) rfl ⟨rfl, nope_of rfl hb⟩
  · have hdt := isTick_no hD
    rw [hdt] at hKN
    have hvo : (W.alloc (.cells #[.int .i64 0, .bool false, .int .i64 0, .int .i64 0] 38)).heap[W.heap.size]? = some (.cells #[.int .i64 0, .bool false, .int .i64 0, .int .i64 0] 38) := heap_alloc_at _ _
    have hb := below_al (Below.refl W.heap.size W) (.cells #[.int .i64 0, .bool false, .int .i64 0, .int .i64 0] 38)
    clear hcd hrd hD hn hdt
    go_enter Try.func20, Try.ntmps20
    go_wp2_with (first
      | (go_at_call 11; (with_reducible refine (hKN _).mono ?_); rintro e w1 (⟨_, rfl, rfl⟩ | ⟨h, _⟩); rotate_left; cases h)
      | (refine wpList_store_row rfl 38 _ _ rfl W.heap.size #[.int .i64 0, .bool false, .int .i64 0, .int .i64 0] rfl rfl 38 _ hvo (by kernel_rfl) (by kernel_rfl) (by kernel_rfl) ?_))
    exact bodyPost_ret (results3 rfl _ _ W.heap.size 38 _ (0, 0) _ rfl rfl rfl (setRow_at hvo) Try.underlying38 rfl (by kernel_rfl)) rfl ⟨rfl, nope_of rfl hb⟩
end Go.Proofs.Ytgnhddnhcfmipaa
