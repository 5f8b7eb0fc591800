/- Heat: the document's Run, refused; walked. -/
import Derived.Test.YtdjdkhbagoideaaDoorRn0
namespace Go.Proofs.YtdjdkhbagoideaaDoor
open Go.RowKit Go.BigFrame flt Ieee

set_option maxHeartbeats 4000000 in
set_option maxRecDepth 100000 in
theorem rrun_no (Z : Zn) (A A1 : Option Addr) (c c1 n m : Nat) (r k a h s : Nat) (ws : List Nat) (W : World) (hT : Tps W A Z.tr) (hn : Z.tr.length = n) (hw : Ws W A1 ws) (hm : ws.length = m) (hE : runE (okZ Z) (okL r k a) (argE h s ws) ≠ 0) :
    Calls Tryd.prog 41 #[.agg (zarr Z (.slice A n c)), .agg #[.float .f64 r, .float .f64 k, .float .f64 a], .float .f64 h, .float .f64 s, .slice A1 m c1] W fun e w' => e = .returned (.tuple #[.slice none 0 0, .int .i64 (runE (okZ Z) (okL r k a) (argE h s ws))]) ∧ Below W.heap.size W w' := by
  have KN1 := fun (X : World) (q : Below W.heap.size W X) (ho : okZ Z = false) => rnew_no Z A c n X (hT.below q) hn ho
  have KN2 := fun (X : World) (q : Below W.heap.size W X) (ho : okZ Z = true) => rnew_yes Z A c n X (hT.below q) hn ho
  have KL := fun (X : World) => rlag_any r k a X
  have KH := rnear_any h
  have KSe := rsecs_any s
  have KA := fun x => rnear_any x
  have hwat := Lib.hid fun (j : Nat) (hj : j < ws.length) (X : World) (q : Below W.heap.size W X) => (hw.below q).at_ hj
  have hml := hw.le
  rw [hm] at hml
  have hb0 := below_al (below_al (Below.refl W.heap.size W) (.cells (zarr Z (.slice A n c)) 49)) (.cells #[.float .f64 r, .float .f64 k, .float .f64 a] 53)
  have hx0 : ((W.alloc (.cells (zarr Z (.slice A n c)) 49)).alloc (.cells #[.float .f64 r, .float .f64 k, .float .f64 a] 53)).heap[W.heap.size]? = some (.cells (zarr Z (.slice A n c)) 49) :=
    (Below.heap_alloc _ _ _ (by rw [size_al]; omega)).trans (heap_alloc_at W _)
  have hy0 : ((W.alloc (.cells (zarr Z (.slice A n c)) 49)).alloc (.cells #[.float .f64 r, .float .f64 k, .float .f64 a] 53)).heap[W.heap.size + 1]? = some (.cells #[.float .f64 r, .float .f64 k, .float .f64 a] 53) := by
    have := heap_alloc_at (W.alloc (.cells (zarr Z (.slice A n c)) 49)) (.cells #[.float .f64 r, .float .f64 k, .float .f64 a] 53)
    rwa [size_al] at this
  unfold argE at hE ⊢
  rw [hm] at hE ⊢
  clear hT hw
  replace hm := Lib.hid hm
  replace hn := Lib.hid hn
  generalize hlk : okL r k a = ol at *
  generalize hnh : near h = nh at *
  generalize hsc : seconds s = sc at *
  generalize hal : ws.all near = al at *
  replace hal := Lib.hid hal
  unfold zarr at KN1 KN2 hb0 hx0 hy0 ⊢
  obtain ⟨zal, tg, kp, ki, cap, mo, tr⟩ := Z
  simp only at *
  clear hlk hnh hsc
  cases ho : okZ ⟨zal, tg, kp, ki, cap, mo, tr⟩ with
  | false =>
    have KN := fun (X : World) (q : Below W.heap.size W X) => KN1 X q ho
    clear KN1 KN2 hE ho
    go_enter Tryd.func41, Tryd.ntmps41
    go_wp2_with (first
      | (refine wpList_load_row rfl 49 _ rfl W.heap.size rfl 49 _ (0, 0) _ hx0 Tryd.underlying49 rfl (by kernel_rfl) ?_)
      | (go_at_call 49; (with_reducible refine (KN _ hb0).mono ?_); rintro e w1 ⟨rfl, hb1⟩))
    go_ret2
    exact ⟨rfl, hb0.trans (hb1.mono hb0.size)⟩
  | true =>
    have KN := fun (X : World) (q : Below W.heap.size W X) => KN2 X q ho
    rw [ho] at hE
    clear KN1 KN2 ho
    cases ol with
    | false =>
      clear hE
      go_enter Tryd.func41, Tryd.ntmps41
      go_wp2_with (first
        | (refine wpList_load_row rfl 49 _ rfl W.heap.size rfl 49 _ (0, 0) _ hx0 Tryd.underlying49 rfl (by kernel_rfl) ?_)
        | (go_at_call 49; (with_reducible refine (KN _ hb0).mono ?_); rintro e w1 ⟨gw, v, vo, rfl, hW1, hb1⟩; have hy1 := (hb1.block _ (heap_lt hy0)).trans hy0; have h01 := hb0.trans (hb1.mono hb0.size); have yc0 : w1.cell? ⟨W.heap.size + 1, 0, none⟩ = some (.float .f64 r) := (by rw [cell_of_row _ _ 0 _ 53 (0, 0) hy1]; rfl); have yc1 : w1.cell? ⟨W.heap.size + 1, 1, none⟩ = some (.float .f64 k) := (by rw [cell_of_row _ _ 1 _ 53 (0, 0) hy1]; rfl); have yc2 : w1.cell? ⟨W.heap.size + 1, 2, none⟩ = some (.float .f64 a) := (by rw [cell_of_row _ _ 2 _ 53 (0, 0) hy1]; rfl))
        | (go_at_call 34; (with_reducible refine (KL _).mono ?_); rintro e w2 ⟨rfl, hb2⟩))
      go_ret2
      exact ⟨rfl, h01.trans (hb2.mono h01.size)⟩
    | true =>
      have hE : Hid ((nh && (sc && (decide (m ≤ 4096) && al))) = false) := Lib.hid (by
        cases q : (nh && (sc && (decide (m ≤ 4096) && al)))
        · rfl
        · rw [q] at hE; exact absurd rfl hE)
      rw [hE.out]
      simp only [Bool.and_self, runE, if_true, Bool.false_eq_true, if_false]
      cases nh with
      | false =>
        clear hE
        go_enter Tryd.func41, Tryd.ntmps41
        go_wp2_with (first
          | (refine wpList_load_row rfl 49 _ rfl W.heap.size rfl 49 _ (0, 0) _ hx0 Tryd.underlying49 rfl (by kernel_rfl) ?_)
          | (go_at_call 49; (with_reducible refine (KN _ hb0).mono ?_); rintro e w1 ⟨gw, v, vo, rfl, hW1, hb1⟩; have hy1 := (hb1.block _ (heap_lt hy0)).trans hy0; have h01 := hb0.trans (hb1.mono hb0.size); have yc0 : w1.cell? ⟨W.heap.size + 1, 0, none⟩ = some (.float .f64 r) := (by rw [cell_of_row _ _ 0 _ 53 (0, 0) hy1]; rfl); have yc1 : w1.cell? ⟨W.heap.size + 1, 1, none⟩ = some (.float .f64 k) := (by rw [cell_of_row _ _ 1 _ 53 (0, 0) hy1]; rfl); have yc2 : w1.cell? ⟨W.heap.size + 1, 2, none⟩ = some (.float .f64 a) := (by rw [cell_of_row _ _ 2 _ 53 (0, 0) hy1]; rfl))
          | (go_at_call 34; (with_reducible refine (KL _).mono ?_); rintro e w2 ⟨rfl, hb2⟩)
          | (go_at_call 35; (with_reducible refine (KH _).mono ?_); rintro e wq ⟨rfl, rfl⟩))
        go_ret2
        exact ⟨rfl, h01.trans (hb2.mono h01.size)⟩
      | true =>
        cases sc with
        | false =>
          clear hE
          go_enter Tryd.func41, Tryd.ntmps41
          go_wp2_with (first
            | (refine wpList_load_row rfl 49 _ rfl W.heap.size rfl 49 _ (0, 0) _ hx0 Tryd.underlying49 rfl (by kernel_rfl) ?_)
            | (go_at_call 49; (with_reducible refine (KN _ hb0).mono ?_); rintro e w1 ⟨gw, v, vo, rfl, hW1, hb1⟩; have hy1 := (hb1.block _ (heap_lt hy0)).trans hy0; have h01 := hb0.trans (hb1.mono hb0.size); have yc0 : w1.cell? ⟨W.heap.size + 1, 0, none⟩ = some (.float .f64 r) := (by rw [cell_of_row _ _ 0 _ 53 (0, 0) hy1]; rfl); have yc1 : w1.cell? ⟨W.heap.size + 1, 1, none⟩ = some (.float .f64 k) := (by rw [cell_of_row _ _ 1 _ 53 (0, 0) hy1]; rfl); have yc2 : w1.cell? ⟨W.heap.size + 1, 2, none⟩ = some (.float .f64 a) := (by rw [cell_of_row _ _ 2 _ 53 (0, 0) hy1]; rfl))
            | (go_at_call 34; (with_reducible refine (KL _).mono ?_); rintro e w2 ⟨rfl, hb2⟩)
            | (go_at_call 35; (with_reducible refine (KH _).mono ?_); rintro e wq ⟨rfl, rfl⟩)
            | (go_at_call 36; (with_reducible refine (KSe _).mono ?_); rintro e wq ⟨rfl, rfl⟩))
          go_ret2
          exact ⟨rfl, h01.trans (hb2.mono h01.size)⟩
        | true =>
          by_cases hbig : 4096 < m
          · have hbig' : (4096 : Int) < (m : Int) := by omega
            clear hE hbig
            go_enter Tryd.func41, Tryd.ntmps41
            go_wp2_with (first
              | (refine wpList_load_row rfl 49 _ rfl W.heap.size rfl 49 _ (0, 0) _ hx0 Tryd.underlying49 rfl (by kernel_rfl) ?_)
              | (go_at_call 49; (with_reducible refine (KN _ hb0).mono ?_); rintro e w1 ⟨gw, v, vo, rfl, hW1, hb1⟩; have hy1 := (hb1.block _ (heap_lt hy0)).trans hy0; have h01 := hb0.trans (hb1.mono hb0.size); have yc0 : w1.cell? ⟨W.heap.size + 1, 0, none⟩ = some (.float .f64 r) := (by rw [cell_of_row _ _ 0 _ 53 (0, 0) hy1]; rfl); have yc1 : w1.cell? ⟨W.heap.size + 1, 1, none⟩ = some (.float .f64 k) := (by rw [cell_of_row _ _ 1 _ 53 (0, 0) hy1]; rfl); have yc2 : w1.cell? ⟨W.heap.size + 1, 2, none⟩ = some (.float .f64 a) := (by rw [cell_of_row _ _ 2 _ 53 (0, 0) hy1]; rfl))
              | (go_at_call 34; (with_reducible refine (KL _).mono ?_); rintro e w2 ⟨rfl, hb2⟩)
              | (go_at_call 35; (with_reducible refine (KH _).mono ?_); rintro e wq ⟨rfl, rfl⟩)
              | (go_at_call 36; (with_reducible refine (KSe _).mono ?_); rintro e wq ⟨rfl, rfl⟩))
            go_ret2
            exact ⟨rfl, h01.trans (hb2.mono h01.size)⟩
          · have hbig' : ¬ (4096 : Int) < (m : Int) := by omega
            have hal' : al = false := by
              have := hE.out
              rw [decide_eq_true (show m ≤ 4096 by omega)] at this
              simpa using this
            subst hal'
            clear hE hbig
            go_enter Tryd.func41, Tryd.ntmps41
            go_upto_region 7 with (first
              | (refine wpList_load_row rfl 49 _ rfl W.heap.size rfl 49 _ (0, 0) _ hx0 Tryd.underlying49 rfl (by kernel_rfl) ?_)
              | (go_at_call 49; (with_reducible refine (KN _ hb0).mono ?_); rintro e w1 ⟨gw, v, vo, rfl, hW1, hb1⟩; have hy1 := (hb1.block _ (heap_lt hy0)).trans hy0; have h01 := hb0.trans (hb1.mono hb0.size); have yc0 : w1.cell? ⟨W.heap.size + 1, 0, none⟩ = some (.float .f64 r) := (by rw [cell_of_row _ _ 0 _ 53 (0, 0) hy1]; rfl); have yc1 : w1.cell? ⟨W.heap.size + 1, 1, none⟩ = some (.float .f64 k) := (by rw [cell_of_row _ _ 1 _ 53 (0, 0) hy1]; rfl); have yc2 : w1.cell? ⟨W.heap.size + 1, 2, none⟩ = some (.float .f64 a) := (by rw [cell_of_row _ _ 2 _ 53 (0, 0) hy1]; rfl))
              | (go_at_call 34; (with_reducible refine (KL _).mono ?_); rintro e w2 ⟨rfl, hb2⟩; have h02 := h01.trans (hb2.mono h01.size))
              | (go_at_call 35; (with_reducible refine (KH _).mono ?_); rintro e wq ⟨rfl, rfl⟩)
              | (go_at_call 36; (with_reducible refine (KSe _).mono ?_); rintro e wq ⟨rfl, rfl⟩))
            clear yc0 yc1 yc2 hx0 hy0 hy1
            go_loop [14] (fun s14 => ∃ i : Nat, i ≤ m ∧ s14 = .int .i64 i ∧ ∀ j (h : j < ws.length), j < i → near ws[j] = true) (fun s14 => m - (intOf s14).toNat)
            case atStart => exact ⟨0, by omega, rfl, fun j _ h => absurd h (by omega)⟩
            case round =>
              obtain ⟨i, hi, rfl, hno⟩ := hrel
              replace hno := Lib.hid hno
              by_cases him : i = m
              · exfalso
                have := hal.out
                rw [List.all_eq_false] at this
                obtain ⟨x, hx, hp⟩ := this
                obtain ⟨j, hj, rfl⟩ := List.getElem_of_mem hx
                exact hp (hno.out j hj (by have := hm.out; omega))
              · have hlt : i < m := by omega
                have hiw : i < ws.length := by rw [hm.out]; exact hlt
                obtain ⟨gb, go_, rfl, -, cw⟩ := hwat.out i hiw w2 h02
                have KX := KA ws[i]
                have hyes : near ws[i] = true → Hid (∀ j (h : j < ws.length), j < i + 1 → near ws[j] = true) := fun e => Lib.hid (fun j h hj => by
                  by_cases q : j = i
                  · subst q; exact e
                  · exact hno.out j h (by omega))
                clear hwat hal
                generalize ws[i] = p at *
                cases hp : near p
                · rw [hp] at KX
                  clear hyes hp
                  go_wp2_with (go_at_call 35; (with_reducible refine (KX _).mono ?_); rintro e wq ⟨rfl, rfl⟩)
                  go_ret2
                  exact ⟨rfl, h02⟩
                · have hy := hyes hp
                  rw [hp] at KX
                  clear hyes hp
                  go_wp2_with (go_at_call 35; (with_reducible refine (KX _).mono ?_); rintro e wq ⟨rfl, rfl⟩)
                  go_round
                  case rel => exact ⟨i + 1, by omega, by go_num, hy.out⟩
                  case measure => simp [intOf]; omega
end Go.Proofs.YtdjdkhbagoideaaDoor
