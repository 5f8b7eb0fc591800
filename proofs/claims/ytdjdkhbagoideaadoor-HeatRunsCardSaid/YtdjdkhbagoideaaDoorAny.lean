/- Heat: is a trip of a kind on: the closure of govern; walked. -/
import Derived.Test.YtdjdkhbagoideaaDoorTurn
namespace Go.Proofs.YtdjdkhbagoideaaDoor
open Go.RowKit Go.BigFrame flt

/-- a watch under way in govern: the box of its pointer at H, a copy of its zone at H + 1 -/
structure Gv (W0 W : World) (B g H : Nat) (Z : Zn) (v vo : Value) (s : Hs) : Prop where
  w : Wt W B g Z v vo s
  f : Fr H (fun b => b = g) W0 W
  b0 : W.heap[H]? = some (.cells #[.pointer (some ⟨g, 0, none⟩)] 22)
  b1 : W.heap[H + 1]? = some (.cells (zarr Z v) 34)
theorem anyk_drop (kd : Int) {l : List Tp} {on : List Bool} {k : Nat} (h1 : k < l.length) (h2 : k < on.length) : anyk kd (l.drop k) (on.drop k) = ((on[k] && l[k].k == kd) || anyk kd (l.drop (k + 1)) (on.drop (k + 1))) := by
  rw [List.drop_eq_getElem_cons h1, List.drop_eq_getElem_cons h2]; rfl
set_option maxHeartbeats 4000000 in
set_option maxRecDepth 100000 in
theorem gany_any {W0 W : World} {B g H : Nat} {Z : Zn} {v vo : Value} {s : Hs} (hG : Gv W0 W B g H Z v vo s) (hZ : Zok Z) (hs : s.on.length = Z.tr.length) (kd : Int) :
    Calls Tryd.prog 43 #[.int .u8 kd, .pointer (some ⟨H + 1, 0, none⟩), .pointer (some ⟨H, 0, none⟩)] W fun e w' => e = .returned (.bool (anyk kd Z.tr s.on)) ∧ Below W.heap.size W w' := by
  obtain ⟨n, hn⟩ : ∃ n, Z.tr.length = n := ⟨_, rfl⟩
  obtain ⟨gv, cv, hv, hg1, hg2⟩ := own_form0 hG.w.tr (by rw [List.length_map]; exact hZ.n.1)
  obtain ⟨go_, co, hvo, hg3, hg4⟩ := own_form0 hG.w.on (by rw [List.length_map, hs]; exact hZ.n.1)
  rw [List.length_map, hn] at hv
  rw [List.length_map, hs, hn] at hvo
  subst hv hvo
  have hn8 : n ≤ 8 := by rw [← hn]; exact hZ.n.2
  rw [hn] at hs
  have hdT := Lib.hid fun (k : Nat) (hk : k < Z.tr.length) (X : World) (q : Below W.heap.size W X) =>
    And.intro ((hG.w.tr.below q).cells (by rw [List.length_map, hn]) (k := k) (by omega) (r := tprow Z.tr[k]) (by rw [List.getElem?_map, List.getElem?_eq_getElem hk]; rfl) (f := 0) (u := .float .f64 Z.tr[k].a) rfl).1
    (And.intro ((hG.w.tr.below q).cells (by rw [List.length_map, hn]) (k := k) (by omega) (r := tprow Z.tr[k]) (by rw [List.getElem?_map, List.getElem?_eq_getElem hk]; rfl) (f := 1) (u := .float .f64 Z.tr[k].b) rfl).1
     ((hG.w.tr.below q).cells (by rw [List.length_map, hn]) (k := k) (by omega) (r := tprow Z.tr[k]) (by rw [List.getElem?_map, List.getElem?_eq_getElem hk]; rfl) (f := 2) (u := .int .u8 Z.tr[k].k) rfl).1)
  have hdO := Lib.hid fun (k : Nat) (hk : k < s.on.length) (X : World) (q : Below W.heap.size W X) =>
    ((hG.w.on.below q).cells (by rw [List.length_map, hs]) (k := k) (by omega) (r := orow s.on[k]) (by rw [List.getElem?_map, List.getElem?_eq_getElem hk]; rfl) (f := 0) (u := .bool s.on[k]) rfl).1
  have hdG := Lib.hid fun (X : World) (q : Below W.heap.size W X) =>
    And.intro ((World.cell?_of_block (a := ⟨H, 0, none⟩) (q.block _ (heap_lt hG.b0))).trans ((cell_of_row _ _ 0 _ 22 (0, 0) hG.b0).trans (show _ = some (.pointer (some ⟨g, 0, none⟩)) from rfl)))
      ((World.cell?_of_block (a := ⟨g, 9, none⟩) (q.block _ (heap_lt hG.w.hb))).trans (hG.w.cl 9 (x := .slice (some ⟨go_, 0, none⟩) n co) rfl))
  have y6 : W.cell? ⟨H + 1, 6, none⟩ = some (.slice (some ⟨gv, 0, none⟩) n cv) := by rw [cell_of_row _ _ 6 _ 34 (0, 0) hG.b1]; rfl
  obtain ⟨R, hR⟩ : ∃ R, anyk kd Z.tr s.on = R := ⟨_, rfl⟩
  rw [hR]
  replace hn := Lib.hid hn
  replace hs := Lib.hid hs
  clear hG hZ
  go_enter Tryd.func43, Tryd.ntmps43
  go_upto_region 2 with fail
  clear y6
  go_loopw [10] (fun s10 wr => ∃ k : Nat, k ≤ n ∧ s10 = .int .i64 k ∧ anyk kd (Z.tr.drop k) (s.on.drop k) = R ∧ Below W.heap.size W wr) (fun s10 _ => n - (intOf s10).toNat)
  case atStart => exact ⟨0, by omega, rfl, hR, Below.refl _ _⟩
  case round =>
    clear hR
    obtain ⟨k, hk, rfl, hR, hb⟩ := hrel
    obtain ⟨wk, rfl⟩ : ∃ x : World, x = wr := ⟨_, rfl⟩
    by_cases hkn : k = n
    · rw [hkn, ← hn.out, List.drop_length] at hR
      have hR' : false = R := by rw [← hR]; rfl
      subst hR' hkn
      clear hdT hdO hdG hR
      go_wp2
      go_ret
      exact ⟨rfl, hb⟩
    · have hlt : k < n := by omega
      have hkl : k < Z.tr.length := by rw [hn.out]; exact hlt
      have hko : k < s.on.length := by rw [hs.out]; exact hlt
      obtain ⟨x0, x1, x2⟩ := hdT.out k hkl wk hb
      rw [anyk_drop kd hkl hko] at hR
      replace hR := Lib.hid hR
      have hbt := below_al hb (.cells #[.float .f64 Z.tr[k].a, .float .f64 Z.tr[k].b, .int .u8 Z.tr[k].k] 36)
      obtain ⟨y0, y9⟩ := hdG.out _ hbt
      have yo := hdO.out k hko _ hbt
      have hxt := heap_alloc_at wk (.cells #[.float .f64 Z.tr[k].a, .float .f64 Z.tr[k].b, .int .u8 Z.tr[k].k] 36)
      clear hkn hdT hdO hdG
      rw [Nat.add_zero] at x0
      rw [Nat.mul_one, Nat.add_zero] at yo
      generalize s.on[k] = bk at *
      generalize Z.tr[k] = u at *
      obtain ⟨ua, ub, uk⟩ := u
      simp only at x0 x1 x2 y0 y9 yo hR hbt hxt
      go_upto_region 4 with (refine wpList_store_row rfl 36 _ _ rfl wk.heap.size #[.float .f64 ua, .float .f64 ub, .int .u8 uk] rfl rfl 36 _ (heap_alloc_at _ _) (by kernel_rfl) (by kernel_rfl) (by kernel_rfl) ?_)
      rw [setRow_alloc _ _ _ _ _ rfl]
      simp only [Act.put]
      generalize wk.alloc (.cells #[.float .f64 ua, .float .f64 ub, .int .u8 uk] 36) = wt at *
      have b2 : wt.cell? ⟨wk.heap.size, 2, none⟩ = some (.int .u8 uk) := by rw [cell_of_row _ _ 2 _ 36 (0, 0) hxt]; rfl
      clear x0 x1 x2 hxt hb
      cases bk with
      | false =>
        have hR' := hR.out
        rw [Bool.false_and, Bool.false_or] at hR'
        replace hR' := Lib.hid hR'
        clear hR
        go_wp2
        go_roundw
        case rel => exact ⟨k + 1, by omega, by go_num, hR'.out, hbt⟩
        case measure => simp [intOf]; omega
      | true =>
        by_cases hu : uk = kd
        · subst hu
          have hR' : R = true := by rw [← hR.out]; simp
          subst hR'
          clear hR
          go_wp2
          go_ret
          exact ⟨rfl, hbt⟩
        · have hu' : (uk == kd) = false := by simpa using hu
          have hR' := hR.out
          rw [hu', Bool.true_and, Bool.false_or] at hR'
          replace hR' := Lib.hid hR'
          clear hR hu
          go_wp2
          go_roundw
          case rel => exact ⟨k + 1, by omega, by go_num, hR'.out, hbt⟩
          case measure => simp [intOf]; omega
end Go.Proofs.YtdjdkhbagoideaaDoor
