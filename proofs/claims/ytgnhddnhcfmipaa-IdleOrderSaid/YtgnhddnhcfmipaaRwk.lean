/- Idle: a device of the reference's book wakes, its parents first; Get, walked. -/
import Derived.Test.YtgnhddnhcfmipaaRb
namespace Go.Proofs.Ytgnhddnhcfmipaa
open Go.RowKit Go.BigFrame

set_option maxHeartbeats 8000000 in
set_option maxRecDepth 100000 in
theorem rwake_any (H B bb : Nat) (v : Value) (now : Int) : ∀ (f i : Nat) (W : World) (vo : Value) (ds : List Dv) (ev : List Ev), i < f → i < ds.length → Par ds → ev.length + i ≤ 100000 → Rk W H B bb v vo ds now ev →
    Calls Try.prog 48 #[.pointer (some ⟨bb, 0, none⟩), .int .i64 i] W fun e w' => e = .returned (.tuple #[]) ∧ ∃ vo', Rk w' H B bb v vo' (wk f ds now i).1 now (ev ++ (wk f ds now i).2) ∧ Fr H (fun b => v.ownBlock = some b ∨ b = bb) W w' := by
  intro f
  induction f with
  | zero => intro i W vo ds ev hf; omega
  | succ f ih =>
    intro i W vo ds ev hf hi hp hE hW
    have hx : ds[i]? = some ds[i] := List.getElem?_eq_getElem hi
    obtain ⟨g, c, rfl, hBg, hgl, c0, _, _, _, c4, _, hfz⟩ := own_dv hW.own hx
    have hpx := hp i _ hx
    unfold wk
    simp only
    rw [getD_of hx]
    have y0 := hW.c0
    generalize ds[i] = x at *
    by_cases ha : x.a = true
    · rw [if_pos ha]
      rw [ha] at c4
      clear ih ha
      go_enter Try.func48, Try.ntmps48
      go_wp2
      refine bodyPost_ret (results_none rfl _ _ _) rfl ?_
      exact ⟨rfl, vo, by rw [List.append_nil]; exact hW, Fr.refl _ _ _⟩
    · rw [if_neg ha]
      have ha' : x.a = false := by simpa using ha
      rw [ha'] at c4
      by_cases h0 : 0 ≤ x.p
      · rw [if_pos h0]
        obtain ⟨pn, hpn⟩ : ∃ pn : Nat, x.p = (pn : Int) := ⟨x.p.toNat, by omega⟩
        rw [hpn] at c0
        have hpi : pn < i := by omega
        have hih := ih pn W vo ds ev (by omega) (by omega) hp (by omega) hW
        have hfar := wk_far f ds now pn hp i hpi
        have hlen := wk_len f ds now pn
        have hevl := wk_ev f ds now pn hp (by omega)
        rw [hpn, Int.toNat_natCast]
        generalize wk f ds now pn = R at *
        obtain ⟨ds1, ev1⟩ := R
        simp only at hih hfar hlen hevl ⊢
        have hx1 : ds1[i]? = some x := hfar.trans hx
        have hpl : pn < ds1.length := by omega
        have hy : ds1[pn]? = some ds1[pn] := List.getElem?_eq_getElem hpl
        rw [getD_of hy]
        generalize ds1[pn] = y at *
        have hpd : pn < ds.length := by omega
        have hlen' := Lib.hid hlen
        have hpn' := Lib.hid hpn
        have i1 : pn < ds.length := hpd
        clear ih hfar hp hpx hpn h0 hfz ha hW hlen
        go_enter Try.func48, Try.ntmps48
        go_upto_region 4 with (go_at_call 48; (with_reducible refine (hih).mono ?_); rintro e w1 ⟨rfl, vo1, hW1, hF1⟩)
        obtain ⟨_, _, _, q3, _, _, qf⟩ := hW1.dv hy
        have qf3 := qf 3 (by decide)
        clear c4 c0 y0 qf hih
        have y0 := hW1.c0
        have hW2 := hW1.set hy 3 (by decide) (.int .i64 (wrap64 (y.k + 1))) { y with k := wrap64 (y.k + 1) } rfl
        have hF2 := hF1.set (p := ⟨g, pn * 6 + 3, none⟩) (fun _ => Or.inl rfl) (.int .i64 (wrap64 (y.k + 1)))
        have hx2 : (ds1.set pn { y with k := wrap64 (y.k + 1) })[i]? = some x := by rw [List.getElem?_set_ne (by omega)]; exact hx1
        have hw : ∀ n, IntKind.i64.wrap n = wrap64 n := IntWalk.i64_left
        go_upto_region 5 with fail
        refine wp_world ?_
        intro wY hY
        rw [← hY] at hW2 hF2
        clear hY q3 qf3 y0 hF1 hW1
        have y0 := hW2.c0
        obtain ⟨_, _, _, _, p4, _, pf⟩ := hW2.dv hx2
        have f4 := pf 4 (by decide)
        have hW1 := hW2.set hx2 4 (by decide) (.bool true) { x with a := true } rfl
        have hF1 := hF2.set (p := ⟨g, i * 6 + 4, none⟩) (fun _ => Or.inl rfl) (.bool true)
        clear pf
        go_upto_region 6 with fail
        refine wp_world ?_
        intro wX hX
        rw [← hX] at hW1 hF1
        clear hX p4 f4 hW2 hF2 y0
        have y1 := hW1.c1
        have y2 := hW1.c2
        have ho := hW1.o
        have lb := hW1.lb
        have lh := hW1.lh
        have hbbs : bb < wX.heap.size := hW1.lt
        have hle : Hid (((ev ++ ev1).map erow).length = ev.length + ev1.length) := Lib.hid (by rw [List.length_map, List.length_append])
        have hap : Hid (ev ++ (ev1 ++ [⟨now, i, true⟩]) = (ev ++ ev1) ++ [⟨now, i, true⟩]) := Lib.hid (List.append_assoc _ _ _).symm
        have hhb := Lib.hid hW1.hb
        go_region_law (first
          | (refine step_push_at el69 rfl (.tmp 48) (.tmp 55) rfl rfl ((ho.drawn ((Drawn.refl _).drew)).alloc _) (erow ⟨now, i, true⟩) wX.heap.size 120 rfl (heap_alloc_at wX _) rfl (by simp [erow, Value.oneCell']) (by rw [hle.out]; omega) ?hb (fun v' w3 ho3 hb3 hg3 hat3 => ?_); (case hb => (have q := size_al wX (.cells (erow ⟨now, i, true⟩).toArray 120); (show _ ≤ (wX.alloc (.cells (erow ⟨now, i, true⟩).toArray 120)).heap.size); omega)); obtain ⟨g3, cap3, rfl, hg3a, hg3b⟩ := own_form ho3; rw [hle.out] at ho3; have z3 := (hb3.block bb lb).trans ((Below.heap_alloc wX _ _ hbbs).trans hhb.out); have y3 := cell_of_row _ _ 2 _ 79 (0, 0) z3; have yf := frozen_row z3 2; clear z3))
        all_goals go_wp2
        all_goals go_end0
        all_goals exact ⟨rfl, _, by rw [hap.out, ← hpn'.out]; exact hW1.tell (below_al (Below.refl _ _) _).drew ⟨now, i, true⟩ ho3 hb3, (hF1.trans (Fr.of (((below_al (Below.refl _ _) _).drew.mono lh).trans hb3))).set (p := ⟨bb, 2, none⟩) (fun _ => Or.inr rfl) _⟩
      · rw [if_neg h0]
        have f4 := hfz 4 (by decide)
        have hW1 := hW.set hx 4 (by decide) (.bool true) { x with a := true } rfl
        have hF1 : Fr H (fun b => (Value.slice (some ⟨g, 0, none⟩) ds.length c).ownBlock = some b ∨ b = bb) W (W.setCell ⟨g, i * 6 + 4, none⟩ (.bool true)) := Fr.set (Fr.refl _ _ _) (fun _ => Or.inl rfl) _
        clear ih hfz ha ha' hp hpx
        go_enter Try.func48, Try.ntmps48
        go_upto_region 6 with fail
        refine wp_world ?_
        intro wX hX
        rw [← hX] at hW1 hF1
        clear hX c0 c4 y0 f4 hW
        have y1 := hW1.c1
        have y2 := hW1.c2
        have ho := hW1.o
        have lb := hW1.lb
        have lh := hW1.lh
        have hbbs : bb < wX.heap.size := hW1.lt
        have hle : Hid ((ev.map erow).length = ev.length) := Lib.hid (List.length_map _)
        have hhb := Lib.hid hW1.hb
        go_region_law (first
          | (refine step_push_at el69 rfl (.tmp 48) (.tmp 55) rfl rfl ((ho.drawn ((Drawn.refl _).drew)).alloc _) (erow ⟨now, i, true⟩) wX.heap.size 120 rfl (heap_alloc_at wX _) rfl (by simp [erow, Value.oneCell']) (by rw [hle.out]; omega) ?hb (fun v' w3 ho3 hb3 hg3 hat3 => ?_); (case hb => (have q := size_al wX (.cells (erow ⟨now, i, true⟩).toArray 120); (show _ ≤ (wX.alloc (.cells (erow ⟨now, i, true⟩).toArray 120)).heap.size); omega)); obtain ⟨g3, cap3, rfl, hg3a, hg3b⟩ := own_form ho3; rw [hle.out] at ho3; have z3 := (hb3.block bb lb).trans ((Below.heap_alloc wX _ _ hbbs).trans hhb.out); have y3 := cell_of_row _ _ 2 _ 79 (0, 0) z3; have yf := frozen_row z3 2; clear z3))
        all_goals go_wp2
        all_goals go_end0
        all_goals exact ⟨rfl, ⟨_, hW1.tell (below_al (Below.refl _ _) _).drew ⟨now, i, true⟩ ho3 hb3⟩, (hF1.trans (Fr.of (((below_al (Below.refl _ _) _).drew.mono lh).trans hb3))).set (p := ⟨bb, 2, none⟩) (fun _ => Or.inr rfl) _⟩
set_option maxHeartbeats 4000000 in
theorem rget_any {W : World} {H B bb : Nat} {v : Value} {ds : List Dv} {now : Int} (h : Rk W H B bb v (.slice none 0 0) ds now []) (hp : Par ds) (hl : ds.length ≤ 512) (i : Int) :
    Calls Try.prog 27 #[.pointer (some ⟨bb, 0, none⟩), .int .i64 i] W fun e w' => ∃ vo, e = .returned (.tuple #[vo, .int .i64 (getd ds now i).2.2]) ∧ Rk w' H B bb v (.slice none 0 0) (getd ds now i).1 now [] ∧ Own w' H 120 3 ((getd ds now i).2.1.map erow) vo ∧ Fr H (fun b => v.ownBlock = some b ∨ b = bb) W w' := by
  by_cases hi : inb ds i
  · obtain ⟨n, rfl⟩ : ∃ n : Nat, i = (n : Int) := ⟨i.toNat, by have := hi.1; omega⟩
    have hn := inb_nat.1 hi
    unfold getd
    rw [if_pos hi]
    simp only
    rw [Int.toNat_natCast]
    have hx : ds[n]? = some ds[n] := List.getElem?_eq_getElem hn
    rw [getD_of hx]
    obtain ⟨g, c, rfl, hBg, hgl, _, _, c2, _, _, _, hfz⟩ := own_dv h.own hx
    have c0 := h.c0
    have K := there_in h hn
    by_cases ht : ds[n].t = 65535
    · rw [if_pos ht]
      rw [ht] at c2
      clear ht hi
      go_enter Try.func27, Try.ntmps27
      go_wp2_with (go_at_call 47; (with_reducible refine (K).mono ?_); rintro e w1 ⟨rfl, rfl⟩)
      go_ret2
      exact ⟨_, rfl, h, Own.nil _ _ _ _, Fr.refl _ _ _⟩
    · rw [if_neg ht]
      have f2 := hfz 2 (by decide)
      have hw : ∀ n, IntKind.i64.wrap n = wrap64 n := IntWalk.i64_left
      have hB1 := h.set hx 2 (by decide) (.int .i64 (wrap64 (ds[n].t + 1))) { ds[n] with t := wrap64 (ds[n].t + 1) } rfl
      have hF1 : Fr H (fun b => (Value.slice (some ⟨g, 0, none⟩) ds.length c).ownBlock = some b ∨ b = bb) W (W.setCell ⟨g, n * 6 + 2, none⟩ (.int .i64 (wrap64 (ds[n].t + 1)))) := Fr.set (Fr.refl _ _ _) (fun _ => Or.inl rfl) _
      have hn' : n < (ds.set n { ds[n] with t := wrap64 (ds[n].t + 1) }).length := by rw [List.length_set]; exact hn
      have hp1 : Par (ds.set n { ds[n] with t := wrap64 (ds[n].t + 1) }) := hp.set hx rfl
      generalize ds[n] = x at *
      have K51 := rwake_any H B bb (.slice (some ⟨g, 0, none⟩) ds.length c) now (n + 1) n _ (.slice none 0 0) (ds.set n { x with t := wrap64 (x.t + 1) }) [] (by omega) hn' hp1 (by simp; omega) hB1
      generalize ds.set n { x with t := wrap64 (x.t + 1) } = ds1 at *
      clear hp hp1 hn' hi
      have ht' : ¬ x.t = 65535 := ht
      clear ht
      go_enter Try.func27, Try.ntmps27
      go_upto_region 6 with (go_at_call 47; (with_reducible refine (K).mono ?_); rintro e w1 ⟨rfl, rfl⟩)
      clear c0 c2 f2 hfz K h
      go_upto_region 7 with (go_at_call 48; (with_reducible refine (K51).mono ?_); rintro e w5 ⟨rfl, vo, hW5, hF5⟩)
      have KT := told_any hW5
      have hT := hW5.took
      clear K51
      go_wp2_with (go_at_call 49; (with_reducible refine (KT).mono ?_); rintro e w6 ⟨rfl, rfl⟩)
      go_ret2
      exact ⟨vo, rfl, hT.1, hT.2, (hF1.trans hF5).set (p := ⟨bb, 2, none⟩) (fun _ => Or.inr rfl) _⟩
  · unfold getd
    rw [if_neg hi]
    have K := there_out h hi
    clear hi
    go_enter Try.func27, Try.ntmps27
    go_wp2_with (go_at_call 47; (with_reducible refine (K).mono ?_); rintro e w1 ⟨rfl, rfl⟩)
    go_ret2
    exact ⟨_, rfl, h, Own.nil _ _ _ _, Fr.refl _ _ _⟩
end Go.Proofs.Ytgnhddnhcfmipaa
