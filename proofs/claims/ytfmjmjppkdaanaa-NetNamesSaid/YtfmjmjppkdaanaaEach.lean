/- Net: each part's impedance, walked. -/
import Derived.Test.YtfmjmjppkdaanaaWay
import Derived.Deep.RegionLaw
namespace Go.Proofs.Ytfmjmjppkdaanaa
open Go.RowKit Go.BigFrame flt Ieee

/-- an append of one row at a step of a region that draws -/
theorem step_push {P : Program} {ops : Array Oper} {o : Oper} {a : Act} {w : World} {K : Act → World → Prop} {Q : Exit → Act → World → Prop} {E : Prop} {t e : TypeId} {size bytes : Nat} (el : Elt P t e size bytes) (hg : o.guard = none) (s x : Operand)
    (ho : o.op = .call { callee := .builtin .append, args := #[s, x], argTypes := #[t, t] }) {base : Nat} {v : Value} {xs : List (List Value)} (hs : a.eval s = v) (hown : Own w base e size xs v)
    (row : List Value) (g0 : Nat) (T : TypeId) (hx : a.eval x = .slice (some ⟨g0, 0, none⟩) 1 1) (hg0 : w.heap[g0]? = some (.cells row.toArray T)) (hl : row.length = size)
    (h1 : ∀ u ∈ row, u.oneCell' = true) (hbytes : (xs.length + 1) * bytes ≤ 140737488355328) (hbase : base ≤ w.heap.size)
    (h : ∀ v' w', Own w' base e size (xs ++ [row]) v' → Below base w w' → w.heap.size ≤ w'.heap.size → K (a.put o.dst v') w') :
    if Region.wanted o (yielded ops a.tmps) = true then Oper.wp P o a w K Q else E := by
  obtain ⟨v', w', hrun, h2, h3, h4, _⟩ := run_push_at el o.type hown row g0 T hg0 hl h1 hbytes hbase
  exact step_run hg s x t ho hs hx hrun (h v' w' h2 h3 h4)
theorem el34 : Elt Try.prog 50 34 1 16 := Elt.of (z := .complex .f64 0 0) Try.underlying50 (by kernel_rfl) rfl (by decide) (by decide)
/-- what a good net's part is -/
theorem Good.of {l : List Part} (h : Good l) {k : Nat} (hk : k < l.length) :
    (l[k].kind = 1 ∨ l[k].kind = 2 ∨ l[k].kind = 3) ∨ ((l[k].kind = 4 ∨ l[k].kind = 5) ∧ 0 < l[k].of.length ∧ l[k].of.length ≤ 64 ∧ ∀ j (h : j < l[k].of.length), 0 ≤ l[k].of[j] ∧ l[k].of[j] < (k : Int)) := by
  have hm := h.2.2 k hk
  unfold mayp at hm
  by_cases h1 : l[k].kind = 1 ∨ l[k].kind = 2 ∨ l[k].kind = 3
  · exact Or.inl h1
  · rw [if_neg h1] at hm
    by_cases h2 : l[k].kind = 4 ∨ l[k].kind = 5
    · rw [if_pos h2] at hm
      simp only [Bool.and_eq_true, decide_eq_true_eq, List.all_eq_true] at hm
      exact Or.inr ⟨h2, hm.1.1.2, hm.1.2, fun j hj => hm.1.1.1 _ (List.getElem_mem hj)⟩
    · rw [if_neg h2] at hm; cases hm
theorem zsn_one {W : Option Nat} {l : List Part} {k : Nat} {z : Cx} (h : k < l.length) (e : z = imp W l[k] (zsn W l k)) {rs : List (Nat × Nat)} (hr : rs.map clsc = zsn W l k) {r s : Nat} (hz : (cls r, cls s) = z) :
    (rs ++ [(r, s)]).map clsc = zsn W l (k + 1) := by
  rw [zsn_succ, List.map_append, hr, List.getD_eq_getElem?_getD, List.getElem?_eq_getElem h]
  simp only [List.map_cons, List.map_nil, Option.getD_some]
  rw [← e, ← hz]
  rfl
set_option maxHeartbeats 4000000 in
theorem each_any (l : List Part) (hg : Good l) (A : Option Addr) (c : Nat) (y : Nat) (w : World) (h : Pn w A l) :
    Calls Try.prog 43 #[.slice A l.length c, .float .f64 y] w fun e w' => ∃ (v : Value) (rs : List (Nat × Nat)), e = .returned v ∧ rs.map clsc = zsn (cls y) l l.length ∧ Own w' w.heap.size 34 1 (rs.map crow) v ∧ Below w.heap.size w w' := by
  have hlen := h.1
  have hG2 := hg.2.1
  have hst : ∀ (p : Addr) (v : Nat) (W : World), (store p (.float .f64 v)).run Try.prog W = stored Try.prog W p (.float .f64 v) .plain := fun p v W => run_store Try.prog W p _ _ rfl
  obtain ⟨i0, z, hi, hz0, hz1, hz2, hz⟩ := el34.i
  go_enter Try.func43, Try.ntmps43
  go_upto_region 2 with (first | (go_at_call 51; (with_reducible refine (ways_any _).mono ?_); rintro e w1 ⟨rfl, hb1⟩) | fail)
  have hn1 := hb1.size
  generalize hn : w1.heap.size = n at *
  generalize hw2 : w1.alloc _ = w2
  have hs2 : w2.heap.size = n + 1 := by rw [← hw2, size_al, hn]
  have hA : w2.heap[n]? = some (.cells #[.nilFunc, .func (.func 52) #[] #[], .func (.func 53) #[] #[], .func (.func 54) #[] #[], .func (.func 55) #[] #[], .func (.func 58) #[] #[]] 86) := by rw [← hw2]; exact heap_alloc_at' _ _ _ hn.symm
  have hb2 : Below w.heap.size w w2 := by rw [← hw2]; exact below_al hb1 _
  clear hw2 hb1
  replace hs2 := Lib.hid hs2
  replace hn := Lib.hid hn
  have b2 : Hid (i0.bytes * l.length ≤ 281474976710656) := Lib.hid (by rw [hz2]; omega)
  have b3 : Hid (l.length ≤ maxLen) := Lib.hid (by unfold maxLen; omega)
  have b4 : Hid (n + 1 ≤ w2.heap.size) := Lib.hid (by rw [hs2.out]; exact Nat.le_refl _)
  go_wp2_with (at_make; refine wpList_make_own _ rfl _ _ 50 rfl (n + 1) 34 i0 z 1 Try.underlying50 hi hz0 hz1 _ _ _ l.length rfl rfl rfl b2.out b3.out b4.out (fun w3 hown hgr => ?_))
  have ho3 : Own w3 (n + 1) 34 1 (([] : List (Nat × Nat)).map crow) (.slice (some ⟨w2.heap.size, 0, none⟩) 0 l.length) := ⟨hown, by simp⟩
  have hd3 : Below w.heap.size w w3 := hb2.grown hgr (by have := hb2.size; omega) (by simp)
  have hA3 : w3.heap[n]? = some (.cells #[.nilFunc, .func (.func 52) #[] #[], .func (.func 53) #[] #[], .func (.func 54) #[] #[], .func (.func 55) #[] #[], .func (.func 58) #[] #[]] 86) := by rw [hgr.block n (heap_lt hA) (by simp)]; exact hA
  have hs3 : Hid (n + 1 ≤ w3.heap.size) := Lib.hid (heap_lt hA3)
  clear hown hgr b2 b3 b4 hi hz0 hz1 hz2 hz
  generalize hv0 : Value.slice (some ⟨w2.heap.size, 0, none⟩) 0 l.length = v0 at *
  clear hv0 hA hs2 hb2
  go_loopw [6, 15] (fun s6 s15 wr => ∃ (k : Nat) (rs : List (Nat × Nat)), k ≤ l.length ∧ s15 = .int .i64 k ∧ rs.map clsc = zsn (cls y) l k ∧ Own wr (n + 1) 34 1 (rs.map crow) s6 ∧ Below (n + 1) w3 wr) (fun _ s15 _ => l.length - (intOf s15).toNat)
  case atStart => exact ⟨0, [], by omega, rfl, rfl, ho3, Below.refl _ _⟩
  case round =>
    obtain ⟨k, rs, hk, rfl, hrs, ho, hd⟩ := hrel
    replace hrs := Lib.hid hrs
    by_cases hkl : k = l.length
    · subst hkl
      go_wp2
      go_ret
      exact ⟨_, rs, rfl, hrs.out, ho.mono (by omega), hd3.trans (hd.mono (by omega))⟩
    have hlt : k < l.length := by omega
    have hdw := hd3.trans (hd.mono (by omega))
    have hrl : rs.length = k := by rw [← List.length_map (f := clsc), hrs.out, zsn_len]
    obtain ⟨Av, cv, rfl, hcs⟩ := Cs.of_own ho
    rw [hrs.out] at hcs
    rw [hrl] at ho
    have hgo := hg.of hlt
    have himp : ∀ (r s : Nat) (z : Cx), z = imp (cls y) (l[k]'hlt) (zsn (cls y) l k) → (cls r, cls s) = z → Hid ((rs ++ [(r, s)]).map clsc = zsn (cls y) l (k + 1)) := fun r s z e e2 => Lib.hid (zsn_one hlt e hrs.out e2)
    have hzl := zsn_len (cls y) l k
    generalize hzz : zsn (cls y) l k = zs at *
    obtain ⟨b, o, Ai, ci, rfl, hbl, c0, c1, c2, hI, hci⟩ := (h.below hdw).2 k hlt
    generalize hp : l[k] = p at *
    obtain ⟨kd, x, of⟩ := p
    simp only at c0 c1 c2 hI hci hgo himp
    have hnlt : n < wr.heap.size := by have := hd.size; have := hs3.out; omega
    have hcell : ∀ (f : Nat) (u : Value), #[Value.nilFunc, .func (.func 52) #[] #[], .func (.func 53) #[] #[], .func (.func 54) #[] #[], .func (.func 55) #[] #[], .func (.func 58) #[] #[]][f]? = some u → wr.cell? ⟨n, f, none⟩ = some u := fun f u hu => by
      rw [← hu]
      exact cell_of_row wr n f _ 86 (0, 0) ((hd.block n (by omega)).trans hA3)
    have k1 : wr.cell? ⟨n, 1, none⟩ = some (.func (.func 52) #[] #[]) := hcell 1 _ rfl
    have k2 : wr.cell? ⟨n, 2, none⟩ = some (.func (.func 53) #[] #[]) := hcell 2 _ rfl
    have k3 : wr.cell? ⟨n, 3, none⟩ = some (.func (.func 54) #[] #[]) := hcell 3 _ rfl
    have k4 : wr.cell? ⟨n, 4, none⟩ = some (.func (.func 55) #[] #[]) := hcell 4 _ rfl
    have k5 : wr.cell? ⟨n, 5, none⟩ = some (.func (.func 58) #[] #[]) := hcell 5 _ rfl
    rw [hrl]
    clear hcell h hp hrs hzz hA3 hg
    replace hrl := Lib.hid hrl
    rcases hgo with (rfl | rfl | rfl) | ⟨rfl | rfl, h0, h64, hof⟩
    · have hz1 := fun r s => himp r s (cls x, some 0) rfl
      clear himp
      have hbox : ∀ w1, Below wr.heap.size wr w1 → Own w1 (n + 1) 34 1 (rs.map crow) (.slice Av k cv) := fun w1 hb => ho.below hb
      have hg1 : Below wr.heap.size wr ((wr.alloc (.cells #[.int .u8 1, .float .f64 x, .slice Ai of.length ci] 47)).drew) := (below_al (Below.refl _ _) _).drew
      have hbytes : Hid (((rs.map crow).length + 1) * 16 ≤ 140737488355328) := Lib.hid (by rw [List.length_map, hrl.out]; omega)
      go_upto_region 6 with fail
      go_region_law (first
        | (go_simp; go_at_call 52; (with_reducible refine (way1_any 1 x y (.slice Ai of.length ci) (.slice Av k cv) _).mono ?_); rintro e w1 ⟨r, s, rfl, hc, hb1⟩; replace hc := Lib.hid hc; have hg2 : Below wr.heap.size wr (w1.alloc (.cells #[.complex .f64 r s] 34)) := (below_al (hg1.trans (hb1.mono hg1.size)) _))
        | (refine step_push el34 rfl (.tmp 19) (.tmp 29) rfl rfl ((hbox _ (hg1.trans (hb1.mono (hg1.size)))).alloc _) [.complex .f64 r s] w1.heap.size 34 rfl (heap_alloc_at _ _) rfl (by simp [Value.oneCell']) hbytes.out ?hb (fun v' w3 ho4 hb4 hs4 => ?_); case hb => (rw [size_al]; have := hg1.size; have := hb1.size; omega)))
      all_goals go_wp2
      all_goals go_roundw
      all_goals first
        | exact ⟨k + 1, rs ++ [(r, s)], by omega, by go_num, (hz1 r s hc.out).out, by rw [List.map_append]; exact ho4, hd.trans ((hg2.mono (by omega)).trans hb4)⟩
        | (simp [intOf]; omega)
    · have hz1 := fun r s => himp r s (some 0, op2 .mul (cls y) (cls x)) rfl
      clear himp
      have hbox : ∀ w1, Below wr.heap.size wr w1 → Own w1 (n + 1) 34 1 (rs.map crow) (.slice Av k cv) := fun w1 hb => ho.below hb
      have hg1 : Below wr.heap.size wr ((wr.alloc (.cells #[.int .u8 2, .float .f64 x, .slice Ai of.length ci] 47)).drew) := (below_al (Below.refl _ _) _).drew
      have hbytes : Hid (((rs.map crow).length + 1) * 16 ≤ 140737488355328) := Lib.hid (by rw [List.length_map, hrl.out]; omega)
      go_upto_region 6 with fail
      go_region_law (first
        | (go_simp; go_at_call 53; (with_reducible refine (way2_any 2 x y (.slice Ai of.length ci) (.slice Av k cv) _).mono ?_); rintro e w1 ⟨r, s, rfl, hc, hb1⟩; replace hc := Lib.hid hc; have hg2 : Below wr.heap.size wr (w1.alloc (.cells #[.complex .f64 r s] 34)) := (below_al (hg1.trans (hb1.mono hg1.size)) _))
        | (refine step_push el34 rfl (.tmp 19) (.tmp 29) rfl rfl ((hbox _ (hg1.trans (hb1.mono (hg1.size)))).alloc _) [.complex .f64 r s] w1.heap.size 34 rfl (heap_alloc_at _ _) rfl (by simp [Value.oneCell']) hbytes.out ?hb (fun v' w3 ho4 hb4 hs4 => ?_); case hb => (rw [size_al]; have := hg1.size; have := hb1.size; omega)))
      all_goals go_wp2
      all_goals go_roundw
      all_goals first
        | exact ⟨k + 1, rs ++ [(r, s)], by omega, by go_num, (hz1 r s hc.out).out, by rw [List.map_append]; exact ho4, hd.trans ((hg2.mono (by omega)).trans hb4)⟩
        | (simp [intOf]; omega)
    · have hz1 := fun r s => himp r s (some 0, op2 .sub (some 0) (op2 .quo (some one) (op2 .mul (cls y) (cls x)))) rfl
      clear himp
      have hbox : ∀ w1, Below wr.heap.size wr w1 → Own w1 (n + 1) 34 1 (rs.map crow) (.slice Av k cv) := fun w1 hb => ho.below hb
      have hg1 : Below wr.heap.size wr ((wr.alloc (.cells #[.int .u8 3, .float .f64 x, .slice Ai of.length ci] 47)).drew) := (below_al (Below.refl _ _) _).drew
      have hbytes : Hid (((rs.map crow).length + 1) * 16 ≤ 140737488355328) := Lib.hid (by rw [List.length_map, hrl.out]; omega)
      go_upto_region 6 with fail
      go_region_law (first
        | (go_simp; go_at_call 54; (with_reducible refine (way3_any 3 x y (.slice Ai of.length ci) (.slice Av k cv) _).mono ?_); rintro e w1 ⟨r, s, rfl, hc, hb1⟩; replace hc := Lib.hid hc; have hg2 : Below wr.heap.size wr (w1.alloc (.cells #[.complex .f64 r s] 34)) := (below_al (hg1.trans (hb1.mono hg1.size)) _))
        | (refine step_push el34 rfl (.tmp 19) (.tmp 29) rfl rfl ((hbox _ (hg1.trans (hb1.mono (hg1.size)))).alloc _) [.complex .f64 r s] w1.heap.size 34 rfl (heap_alloc_at _ _) rfl (by simp [Value.oneCell']) hbytes.out ?hb (fun v' w3 ho4 hb4 hs4 => ?_); case hb => (rw [size_al]; have := hg1.size; have := hb1.size; omega)))
      all_goals go_wp2
      all_goals go_roundw
      all_goals first
        | exact ⟨k + 1, rs ++ [(r, s)], by omega, by go_num, (hz1 r s hc.out).out, by rw [List.map_append]; exact ho4, hd.trans ((hg2.mono (by omega)).trans hb4)⟩
        | (simp [intOf]; omega)
    · have hz1 := fun r s => himp r s (sumc id zs of) rfl
      clear himp
      have hof' : ∀ j (h : j < of.length), 0 ≤ of[j] ∧ of[j] < (zs.length : Int) := fun j h => by rw [hzl]; exact hof j h
      have hway : ∀ W, Below wr.heap.size wr W → Calls Try.prog 55 #[.agg #[.int .u8 4, .float .f64 x, .slice Ai of.length ci], .float .f64 y, .slice Av k cv] W fun e w' => ∃ r s, e = .returned (.complex .f64 r s) ∧ (cls r, cls s) = sumc id zs of ∧ Below W.heap.size W w' := fun W hW => by
        have := way4_any 4 x y zs of Av Ai cv ci W (hcs.below hW) (hI.below hW) h0 hci hof'
        rw [hzl] at this
        exact this
      clear hof hof' hcs hI
      have hbox : ∀ w1, Below wr.heap.size wr w1 → Own w1 (n + 1) 34 1 (rs.map crow) (.slice Av k cv) := fun w1 hb => ho.below hb
      have hg1 : Below wr.heap.size wr ((wr.alloc (.cells #[.int .u8 4, .float .f64 x, .slice Ai of.length ci] 47)).drew) := (below_al (Below.refl _ _) _).drew
      have hbytes : Hid (((rs.map crow).length + 1) * 16 ≤ 140737488355328) := Lib.hid (by rw [List.length_map, hrl.out]; omega)
      go_upto_region 6 with fail
      go_region_law (first
        | (go_simp; go_at_call 55; (with_reducible refine (hway _ hg1).mono ?_); rintro e w1 ⟨r, s, rfl, hc, hb1⟩; replace hc := Lib.hid hc; have hg2 : Below wr.heap.size wr (w1.alloc (.cells #[.complex .f64 r s] 34)) := (below_al (hg1.trans (hb1.mono hg1.size)) _))
        | (refine step_push el34 rfl (.tmp 19) (.tmp 29) rfl rfl ((hbox _ (hg1.trans (hb1.mono (hg1.size)))).alloc _) [.complex .f64 r s] w1.heap.size 34 rfl (heap_alloc_at _ _) rfl (by simp [Value.oneCell']) hbytes.out ?hb (fun v' w3 ho4 hb4 hs4 => ?_); case hb => (rw [size_al]; have := hg1.size; have := hb1.size; omega)))
      all_goals go_wp2
      all_goals go_roundw
      all_goals first
        | exact ⟨k + 1, rs ++ [(r, s)], by omega, by go_num, (hz1 r s hc.out).out, by rw [List.map_append]; exact ho4, hd.trans ((hg2.mono (by omega)).trans hb4)⟩
        | (simp [intOf]; omega)
    · have hz1 := fun r s => himp r s (turnc (sumc turnc zs of)) rfl
      clear himp
      have hof' : ∀ j (h : j < of.length), 0 ≤ of[j] ∧ of[j] < (zs.length : Int) := fun j h => by rw [hzl]; exact hof j h
      have hway : ∀ W, Below wr.heap.size wr W → Calls Try.prog 58 #[.agg #[.int .u8 5, .float .f64 x, .slice Ai of.length ci], .float .f64 y, .slice Av k cv] W fun e w' => ∃ r s, e = .returned (.complex .f64 r s) ∧ (cls r, cls s) = turnc (sumc turnc zs of) ∧ Below W.heap.size W w' := fun W hW => by
        have := way5_any 5 x y zs of Av Ai cv ci W (hcs.below hW) (hI.below hW) h0 hci hof'
        rw [hzl] at this
        exact this
      clear hof hof' hcs hI
      have hbox : ∀ w1, Below wr.heap.size wr w1 → Own w1 (n + 1) 34 1 (rs.map crow) (.slice Av k cv) := fun w1 hb => ho.below hb
      have hg1 : Below wr.heap.size wr ((wr.alloc (.cells #[.int .u8 5, .float .f64 x, .slice Ai of.length ci] 47)).drew) := (below_al (Below.refl _ _) _).drew
      have hbytes : Hid (((rs.map crow).length + 1) * 16 ≤ 140737488355328) := Lib.hid (by rw [List.length_map, hrl.out]; omega)
      go_upto_region 6 with fail
      go_region_law (first
        | (go_simp; go_at_call 58; (with_reducible refine (hway _ hg1).mono ?_); rintro e w1 ⟨r, s, rfl, hc, hb1⟩; replace hc := Lib.hid hc; have hg2 : Below wr.heap.size wr (w1.alloc (.cells #[.complex .f64 r s] 34)) := (below_al (hg1.trans (hb1.mono hg1.size)) _))
        | (refine step_push el34 rfl (.tmp 19) (.tmp 29) rfl rfl ((hbox _ (hg1.trans (hb1.mono (hg1.size)))).alloc _) [.complex .f64 r s] w1.heap.size 34 rfl (heap_alloc_at _ _) rfl (by simp [Value.oneCell']) hbytes.out ?hb (fun v' w3 ho4 hb4 hs4 => ?_); case hb => (rw [size_al]; have := hg1.size; have := hb1.size; omega)))
      all_goals go_wp2
      all_goals go_roundw
      all_goals first
        | exact ⟨k + 1, rs ++ [(r, s)], by omega, by go_num, (hz1 r s hc.out).out, by rw [List.map_append]; exact ho4, hd.trans ((hg2.mono (by omega)).trans hb4)⟩
        | (simp [intOf]; omega)
end Go.Proofs.Ytfmjmjppkdaanaa
