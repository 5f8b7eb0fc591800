/- Heat: the law's 'kept'; walked. -/
import Derived.Test.YtdjdkhbagoideaaDoorRf9
namespace Go.Proofs.YtdjdkhbagoideaaDoor
open Go.RowKit Go.BigFrame flt Ieee

set_option maxHeartbeats 8000000 in
set_option maxRecDepth 100000 in
theorem kept_any (Z : Zn) (A : Option Addr) (c n Bs gv cv : Nat) (W : World) (hT : Tps W A Z.tr) (hn : Z.tr.length = n) (hr : n * 24 ≤ 140737488351232) (hO : Own W Bs 36 3 (Z.tr.map tprow ++ [markT]) (.slice (some ⟨gv, 0, none⟩) (n + 1) cv)) :
    Calls Tryd.prog 22 #[.agg (zarr Z (.slice (some ⟨gv, 0, none⟩) n cv)), .agg (zarr Z (.slice A n c))] W fun e w' => e = .returned (.bool true) ∧ Below W.heap.size W w' := by
  have hlr : (Z.tr.map tprow ++ [markT]).length = n + 1 := by simp [hn]
  obtain ⟨g', cap', hv', _, _, hcp⟩ := hO.form (by rw [hlr]; omega)
  rw [hlr] at hv' hcp
  obtain rfl := (Value.slice.inj hv').2.2
  have hcd := Lib.hid (fun (k : Nat) (hk : k < Z.tr.length) (X : World) (q : Below W.heap.size W X) => (hT.below q).at_ hk)
  have hrows : ∀ (k : Nat) (hk : k < Z.tr.length), (Z.tr.map tprow ++ [markT])[k]? = some (tprow Z.tr[k]) := fun k hk => by
    rw [List.getElem?_append_left (by rw [List.length_map]; exact hk), List.getElem?_map, List.getElem?_eq_getElem hk]; rfl
  have hmark : (Z.tr.map tprow ++ [markT])[n]? = some markT := by
    rw [List.getElem?_append_right (by rw [List.length_map]; omega), List.length_map, hn, Nat.sub_self]; rfl
  have hce := Lib.hid (fun (k : Nat) (hk : k < Z.tr.length) (X : World) (q : Below W.heap.size W X) =>
    And.intro ((hO.below q).cells hlr (k := k) (by omega) (hrows k hk) (f := 0) (u := .float .f64 Z.tr[k].a) rfl).1 (And.intro ((hO.below q).cells hlr (k := k) (by omega) (hrows k hk) (f := 1) (u := .float .f64 Z.tr[k].b) rfl).1 ((hO.below q).cells hlr (k := k) (by omega) (hrows k hk) (f := 2) (u := .int .u8 Z.tr[k].k) rfl).1))
  have hcm := Lib.hid (fun (X : World) (q : Below W.heap.size W X) => ((hO.below q).cells hlr (k := n) (by omega) hmark (f := 2) (u := .int .u8 77) rfl).1)
  clear hT hO hv' hrows hmark hlr
  obtain ⟨al, tg, kp, ki, cap, mo, tr⟩ := Z
  simp only [zarr] at *
  replace hn := Lib.hid hn
  have hcn : n ≤ cv := by omega
  have hcn2 : Hid ((n : Int) + 1 ≤ (cv : Int)) := Lib.hid (by omega)
  have hz0 : ((W.alloc (.cells #[.float .f64 al, .float .f64 tg, .float .f64 kp, .float .f64 ki, .float .f64 cap, .int .i64 mo, .slice (some ⟨gv, 0, none⟩) n cv] 34)).alloc (.cells #[.float .f64 al, .float .f64 tg, .float .f64 kp, .float .f64 ki, .float .f64 cap, .int .i64 mo, .slice A n c] 49)).heap[W.heap.size]? = some (.cells #[.float .f64 al, .float .f64 tg, .float .f64 kp, .float .f64 ki, .float .f64 cap, .int .i64 mo, .slice (some ⟨gv, 0, none⟩) n cv] 34) := heap_alloc (heap_alloc_at _ _)
  have hx0 : ((W.alloc (.cells #[.float .f64 al, .float .f64 tg, .float .f64 kp, .float .f64 ki, .float .f64 cap, .int .i64 mo, .slice (some ⟨gv, 0, none⟩) n cv] 34)).alloc (.cells #[.float .f64 al, .float .f64 tg, .float .f64 kp, .float .f64 ki, .float .f64 cap, .int .i64 mo, .slice A n c] 49)).heap[W.heap.size + 1]? = some (.cells #[.float .f64 al, .float .f64 tg, .float .f64 kp, .float .f64 ki, .float .f64 cap, .int .i64 mo, .slice A n c] 49) := heap_alloc_at' _ _ _ (by rw [size_al])
  have hb0 : Below W.heap.size W ((W.alloc (.cells #[.float .f64 al, .float .f64 tg, .float .f64 kp, .float .f64 ki, .float .f64 cap, .int .i64 mo, .slice (some ⟨gv, 0, none⟩) n cv] 34)).alloc (.cells #[.float .f64 al, .float .f64 tg, .float .f64 kp, .float .f64 ki, .float .f64 cap, .int .i64 mo, .slice A n c] 49)) := below_al (below_al (Below.refl _ _) _) _
  go_enter Tryd.func22, Tryd.ntmps22
  go_upto_region 1 with fail
  generalize (W.alloc _).alloc _ = w0 at *
  have x6 : w0.cell? ⟨W.heap.size, 6, none⟩ = some (.slice (some ⟨gv, 0, none⟩) n cv) := by rw [cell_of_row _ _ 6 _ 34 (0, 0) hz0]; rfl
  have y6 : w0.cell? ⟨W.heap.size + 1, 6, none⟩ = some (.slice A n c) := by rw [cell_of_row _ _ 6 _ 49 (0, 0) hx0]; rfl
  clear hz0 hx0
  have hz := Lib.hid (fun (X : World) (q : Drawn w0 X) => (show X.cell? ⟨W.heap.size, 6, none⟩ = some (.slice (some ⟨gv, 0, none⟩) n cv) ∧ X.cell? ⟨W.heap.size + 1, 6, none⟩ = some (.slice A n c) by obtain ⟨m, rfl⟩ := q; exact ⟨x6, y6⟩))
  clear x6 y6
  go_upto_region 2 with fail
  go_loopw [5] (fun i wr => ∃ k : Nat, k ≤ n ∧ i = .int .i64 k ∧ Drawn w0 wr) (fun i _ => n - (intOf i).toNat)
  case atStart => exact ⟨0, by omega, rfl, Drawn.refl _⟩
  case round =>
    obtain ⟨k, hk, rfl, hd⟩ := hrel
    obtain ⟨wk, rfl⟩ : ∃ y : World, y = wr := ⟨_, rfl⟩
    obtain ⟨x6, y6⟩ := hz.out wk hd
    have hbk := hb0.trans (hd.below _)
    by_cases hkn : k = n
    · subst hkn
      have m0 := hcm.out wk hbk
      have hfin : Hid (Below W.heap.size W wk) := Lib.hid hbk
      have e7 : ((77 : Int) == 77) = true := by decide

      have hck : (k : Int) + 1 ≤ (cv : Int) := hcn2.out
      clear hcd hce hcm hz hd hbk
      go_upto_region 6 with fail
      go_big_quiet (fail)
      go_wp2
      go_ret
      exact ⟨rfl, hfin.out.trans (Drawn.below ⟨_, rfl⟩ _)⟩
    · have hlt : k < n := by omega
      have hlt' : (k : Int) < (n : Int) := by omega
      have hkm : k < tr.length := by rw [hn.out]; exact hlt
      obtain ⟨b1, o1, rfl, -, p0, p1, p2⟩ := hcd.out k hkm wk hbk
      obtain ⟨r0, r1, r2⟩ : wk.cell? ⟨gv, k * 3, none⟩ = some (.float .f64 tr[k].a) ∧ wk.cell? ⟨gv, k * 3 + 1, none⟩ = some (.float .f64 tr[k].b) ∧ wk.cell? ⟨gv, k * 3 + 2, none⟩ = some (.int .u8 tr[k].k) := hce.out k hkm wk hbk
      generalize tr[k] = u at *
      obtain ⟨ua, ub, uk⟩ := u
      simp only at *
      have KA := fun W => bits_same ua W
      have KB := fun W => bits_same ub W
      have n1 : ((uk : Int) != (uk : Int)) = false := by simp
      clear hcd hce hcm hz hkn
      go_upto_region 4 with fail
      go_big_quiet ((go_at_call 18; (first | (with_reducible exact quiet_same (KA _)) | (with_reducible exact quiet_same (KB _)))))
      go_wp2
      go_roundw
      case rel => exact ⟨k + 1, by omega, by go_num, hd.drewN _⟩
      case measure => first | (simp [intOf]; done) | (simp [intOf]; omega)
end Go.Proofs.YtdjdkhbagoideaaDoor
