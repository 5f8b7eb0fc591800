/- Rails: RailsRamps, walked. -/
import Derived.Test.YtbbjnhajmckjoaaLag
import Derived.Test.YtbbjnhajmckjoaaWks
namespace Go.Proofs.Ytbbjnhajmckjoaa
open Go.RowKit Go.BigFrame flt Ieee

theorem one_fls (l : List Nat) : ∀ r ∈ l.map flrow, ∀ u ∈ r, u.oneCell' = true := by
  intro r hr u hu
  obtain ⟨n, _, rfl⟩ := List.mem_map.1 hr
  simp only [flrow, List.mem_singleton] at hu
  subst hu
  rfl
/-- one float of a list of the call's own is written over -/
theorem fls_put {w : World} {base : Nat} {l : List Nat} {A : Option Addr} {n c k : Nat} (h : Own w base 86 1 (l.map flrow) (.slice A n c)) (hn : l.length = n) (hk : k < n) :
    ∃ g, A = some ⟨g, 0, none⟩ ∧ base ≤ g ∧ g < w.heap.size ∧ w.cell? ⟨g, k, none⟩ = some (.float .f64 (l[k]'(hn ▸ hk))) ∧ w.frozen? ⟨g, k, none⟩ = false ∧ ∀ w', Drawn w w' → ∀ x, Own (w'.setCell ⟨g, k, none⟩ (.float .f64 x)) base 86 1 ((l.set k x).map flrow) (.slice A n c) := by
  obtain ⟨g, u0, e1, h1, h2, h3, h4, h5, h6⟩ := h.row1 (by rw [List.length_map]; exact hn) hk
  have hk' : k < l.length := by omega
  rw [List.getElem?_map, List.getElem?_eq_getElem hk'] at h5
  obtain rfl : u0 = .float .f64 l[k] := by simpa [flrow] using h5.symm
  refine ⟨g, e1, h1, h2, h3, h4, fun w' d x => ?_⟩
  obtain ⟨g', u1, e1', -, -, -, -, -, h6'⟩ := (h.drawn d).row1 (by rw [List.length_map]; exact hn) hk
  obtain rfl : g = g' := by rw [e1] at e1'; simpa using e1'
  rw [List.map_set]
  exact h6' _
theorem own_other {w : World} {base size : Nat} {e : TypeId} {xs : List (List Value)} {v : Value} {p : Addr} (h : Own w base e size xs v) (x : Value) (hp : ∀ g, v.ownBlock = some g → g ≠ p.block) : Own (w.setCell p x) base e size xs v :=
  h.keep fun g hg => Below.heap_setCell w p x g (hp g hg)
set_option maxHeartbeats 16000000 in
set_option maxRecDepth 100000 in
theorem ramps_walk (f t r u sh : Nat) (ts : List Nat) (A : Option Addr) (c : Nat) (w : World) (h : Fls w A ts) (hz : A = none → c = 0) (hr : ts.length * 8 ≤ 140737488351232) :
    Calls Try.prog 8 #[.float .f64 f, .float .f64 t, .float .f64 r, .float .f64 u, .slice A ts.length c, .float .f64 sh] w fun e w' => e = .returned (.bool true) ∧ Below w.heap.size w w' := by
  have hst : ∀ (p : Addr) (v : Nat) (W : World), (store p (.float .f64 v)).run Try.prog W = stored Try.prog W p (.float .f64 v) .plain := fun p v W => run_store Try.prog W p _ _ rfl
  have hlen := h.le
  have KW := works_any
  go_enter Try.func8, Try.ntmps8
  go_upto_region 3 with (first
    | (go_at_call 36; (with_reducible refine (at_any f t r u w).mono ?_); rintro e w1 ⟨z1, rfl, e1, b1⟩; replace e1 := Lib.hid e1)
    | (go_at_call 37; (with_reducible refine (rat_any f t r u w1).mono ?_); rintro e w2 ⟨z2, rfl, e2, d2⟩; replace e2 := Lib.hid e2)
    | (go_at_call 38; (with_reducible refine (settle_any f t r w2).mono ?_); rintro e w3 ⟨z3, rfl, e3, b3⟩; replace e3 := Lib.hid e3)
    | (go_at_call 39; (with_reducible refine (rsettle_any f t r w3).mono ?_); rintro e w4 ⟨z4, rfl, e4, d4⟩; replace e4 := Lib.hid e4)
    | (go_at_call 35; (with_reducible refine (sameFloat_any z1 z2 (e1.out.trans e2.out.symm) _).mono ?_); rintro e w5 ⟨rfl, hw⟩; obtain rfl := hw.symm)
    | (go_at_call 35; (with_reducible refine (sameFloat_any z3 z4 (e3.out.trans e4.out.symm) _).mono ?_); rintro e w5 ⟨rfl, hw⟩; obtain rfl := hw.symm))
  have k4 : Below w.heap.size w w4 := (d4.after (((d2.after b1).trans (b3.mono (d2.after b1).size))))
  have h4 := h.below k4
  have htl : Hid ((ts.map flrow).length = ts.length) := Lib.hid (by rw [List.length_map])
  clear b1 e1 d2 e2 b3 e3 d4 e4 h
  go_upto_region 5 with (at_builtin; refine wpList_app_any elt87 rfl _ _ rfl rfl (Own.lit (w := w4) (base := w4.heap.size) (e := 86) (size := 1) (xs := []) #[] 0 rfl rfl (by simp) (Nat.le_refl _) (by decide)) A c ts.length htl.out.symm rfl hz (Sl.alloc h4 _) (one_fls ts) (by rw [htl.out]; simp; omega) (by rw [size_al]; omega) ?_; intro vi w5 hi hb5 hs5 _ _)
  rw [List.nil_append] at hi
  have k5 : Below w.heap.size w w5 := k4.trans (((below_al (Below.refl _ _) _).trans hb5).mono k4.size)
  have hB := k4.size
  obtain ⟨Ai, ci, rfl, hfi, hci⟩ := hi.fls
  have hzi : Ai = none → ci = 0 := hi.nil0
  clear hb5 hs5 h4 htl hfi hci hz k4
  obtain ⟨n, hn⟩ : ∃ n, ts.length = n := ⟨_, rfl⟩
  rw [hn] at hi hr
  rw [hn]
  generalize w4.heap.size = B0 at *
  go_loopw [14] (fun s14 wr => ∃ (rd : Nat) (zs : List Nat), rd ≤ 2 ∧ s14 = .int .i64 rd ∧ zs.length = n ∧ Own wr B0 86 1 (zs.map flrow) (.slice Ai n ci) ∧ Below w.heap.size w wr) (fun s14 _ => 2 - (RowKit.intOf s14).toNat)
  case atStart => exact ⟨0, ts, by omega, rfl, hn, hi, k5⟩
  case round =>
    clear hi k5
    obtain ⟨rd, zs, hrd, rfl, hzl, hO, hb⟩ := hrel
    obtain ⟨wk, rfl⟩ : ∃ x : World, x = wr := ⟨_, rfl⟩
    by_cases hend : rd = 2
    · subst hend
      have KWk := KW wk
      replace hb := Lib.hid hb
      clear hO KW
      go_wp2_with (go_at_call 32; (with_reducible refine (KWk).mono ?_); rintro e w9 ⟨rfl, hb9⟩)
      go_ret
      exact ⟨rfl, hb.out.trans (hb9.mono hb.out.size)⟩
    · have hlt : rd < 2 := by omega
      have hlt' : (rd : Int) < 2 := by omega
      obtain ⟨Az, cz, ez, hfz, hcz⟩ := hO.fls
      obtain ⟨rfl, -, rfl⟩ : Ai = Az ∧ n = zs.length ∧ ci = cz := by simpa using ez
      have hzl' : Hid ((zs.map flrow).length = n) := Lib.hid (by rw [List.length_map]; exact hzl)
      have hwk := hb.size
      clear ez hcz
      go_upto_region 8 with (at_builtin; refine wpList_app_any elt87 rfl _ _ rfl rfl (Own.lit (w := wk) (base := wk.heap.size) (e := 86) (size := 1) (xs := []) #[] 0 rfl rfl (by simp) (Nat.le_refl _) (by decide)) Ai ci n hzl'.out.symm rfl hzi (Sl.alloc hfz _) (one_fls zs) (by rw [hzl'.out]; simp; omega) (by rw [size_al]; omega) ?_; intro vk w5 hk hb5 hs5 _ _)
      rw [List.nil_append] at hk
      have b45 : Below wk.heap.size wk w5 := (below_al (Below.refl _ _) _).trans hb5
      have hO5 := hO.below b45
      have k5 : Below w.heap.size w w5 := hb.trans (b45.mono hwk)
      obtain ⟨Ak, ck, rfl, hfk, -⟩ := hk.fls
      rw [hzl] at hk ⊢
      have hOlt := fun g e => (hO.lt g e).2
      obtain ⟨Ai', ci', ei, hfi, -⟩ := hO5.fls
      obtain ⟨rfl, -, -⟩ : Ai = Ai' ∧ n = zs.length ∧ ci = ci' := by simpa using ei
      have KLg := lag_any f sh zs Ai ci w5 hfi
      have KRl := fun (X : World) (q : Below w5.heap.size w5 X) => rlag_any f sh zs Ak ck X (hfk.below q)
      rw [hzl] at KLg KRl
      clear hb hb5 hs5 hO hfz hzi ei hfi hfk
      go_upto_region 9 with (go_at_call 40; (with_reducible refine (KLg).mono ?_); rintro e w6 ⟨va, za, rfl, hca, ha, b56⟩)
      go_upto_region 10 with (go_at_call 41; (with_reducible refine (KRl w6 b56).mono ?_); rintro e w7 ⟨vw, zw, rfl, hcw, hw, b67⟩)
      have hma : za.length = zw.length := by rw [← List.length_map (f := cls), hca, ← hcw, List.length_map]
      obtain ⟨m, hm⟩ : ∃ m, zw.length = m := ⟨_, rfl⟩
      obtain ⟨Aa, caa, rfl, -, -⟩ := ha.fls
      obtain ⟨Aw, cw, rfl, -, -⟩ := hw.fls
      rw [hma] at ha ⊢
      rw [hm] at ha hw ⊢
      have hcc : za.map cls = zw.map cls := hca.trans hcw.symm
      have halt := fun g e => (ha.lt g e).2
      rw [hm] at hma
      have ha' := ha.below b67
      have b57 := b56.trans (b67.mono b56.size)
      have hs5 := k5.size
      clear hca hcw ha b56 b67
      generalize hE : (if lagno (cls sh) n = true then (1 : Int) else 0) = E
      clear hE
      go_upto_region 13 with fail
      go_loopw [20] (fun s20 wr => ∃ (k : Nat) (zx : List Nat), k ≤ m ∧ s20 = .int .i64 k ∧ zx.length = m ∧ (∀ j, k ≤ j → zx[j]? = za[j]?) ∧ Own wr w5.heap.size 86 1 (zx.map flrow) (.slice Aa m caa) ∧ Own wr w6.heap.size 86 1 (zw.map flrow) (.slice Aw m cw) ∧ Below w5.heap.size w5 wr) (fun s20 _ => m - (RowKit.intOf s20).toNat)
      case atStart => exact ⟨0, za, by omega, rfl, hma, fun _ _ => rfl, ha', hw, b57⟩
      case round =>
        clear ha' hw b57
        obtain ⟨k, zx, hk2, rfl, hxl, hxe, hA, hW, hb⟩ := hrel
        obtain ⟨wx, rfl⟩ : ∃ x : World, x = wr := ⟨_, rfl⟩
        by_cases hkm : k = m
        · subst hkm
          clear hxe hxl hA hW hcc halt hma hm
          have hOx := hO5.below hb
          have hkx := hk.below hb
          have hbx := k5.trans (hb.mono hs5)
          clear hO5 hk k5 hb
          go_upto_region 19 with fail
          go_loopw [21] (fun s21 wr => ∃ (k : Nat) (zx : List Nat), k ≤ n ∧ s21 = .int .i64 k ∧ zx.length = n ∧ (∀ j, k ≤ j → zx[j]? = zs[j]?) ∧ Own wr B0 86 1 (zx.map flrow) (.slice Ai n ci) ∧ Own wr wk.heap.size 86 1 (zs.map flrow) (.slice Ak n ck) ∧ Below w.heap.size w wr) (fun s21 _ => n - (RowKit.intOf s21).toNat)
          case atStart => exact ⟨0, zs, by omega, rfl, hzl, fun _ _ => rfl, hOx, hkx, hbx⟩
          case round =>
            clear hOx hkx hbx
            obtain ⟨k, zx, hk2, rfl, hxl, hxe, hA, hW, hb⟩ := hrel
            obtain ⟨wx, rfl⟩ : ∃ x : World, x = wr := ⟨_, rfl⟩
            by_cases hkm : k = n
            · subst hkm
              clear hxe hW
              go_wp2
              go_roundw
              case rel => exact ⟨rd + 1, zx, by omega, by go_num, hxl, hA, hb⟩
              case measure => first | (simp [RowKit.intOf]; done) | (simp [RowKit.intOf]; omega)
            · have hlt : k < n := by omega
              have hlt' : (k : Int) < (n : Int) := by omega
              have hxl' : (zx.map flrow).length = n := by rw [List.length_map]; exact hxl
              have hkl' : (zs.map flrow).length = n := by rw [List.length_map]; exact hzl
              obtain ⟨g, eA, hg1, hg2, hg3, hg4, hput⟩ := fls_put hA hxl hlt
              obtain ⟨g', eW, hw1, hw2, hw3, hw4, -⟩ := fls_put hW hzl hlt
              have eg : (zx[k]'(hxl ▸ hlt)) = (zs[k]'(hzl ▸ hlt)) := by
                have := hxe k (Nat.le_refl k)
                rw [List.getElem?_eq_getElem (hxl ▸ hlt), List.getElem?_eq_getElem (hzl ▸ hlt)] at this
                exact Option.some.inj this
              have hgl := hOlt g (by rw [eA]; rfl)
              rw [eg] at hg3
              subst eA eW
              clear hxl' hkl' eg hOlt hA
              have hne : g' ≠ g := by omega
              have hWo : ∀ w', Drawn wx w' → ∀ q, Own (w'.setCell ⟨g, k, none⟩ (.float .f64 q)) wk.heap.size 86 1 (zs.map flrow) (.slice (some ⟨g', 0, none⟩) n ck) := fun w' d q => own_other (v := .slice (some ⟨g', 0, none⟩) n ck) (hW.drawn d) (.float .f64 q) (fun x e => by
                obtain rfl : g' = x := Option.some.inj (show some g' = some x from e)
                exact hne)
              generalize (zs[k]'(hzl ▸ hlt)) = x0 at *
              have KS : ∀ m, Calls Try.prog 35 #[.float .f64 x0, .float .f64 x0] (wx.drewN m) fun e w' => e = .returned (.bool true) ∧ wx.drewN m = w' := fun m => (sameFloat_any x0 x0 rfl (wx.drewN m)).mono fun _ _ h => ⟨h.1, h.2.symm⟩
              replace hput := Lib.hid hput
              replace hWo := Lib.hid hWo
              clear hW
              obtain ⟨FQ, GQ, hfq, -⟩ := veil (op := .quo) (Or.inr (Or.inr (Or.inr rfl))) 86
              obtain ⟨FA, GA, hfa, -⟩ := veil (op := .add) (Or.inl rfl) 86
              go_upto_region 23 with (go_big_quiet ((go_at_call 35; exact quiet_same (KS _))))
              go_wp2
              go_roundw
              case rel =>
                refine ⟨k + 1, zx.set k _, by omega, by go_num, by rw [List.length_set]; exact hxl, fun j hj => by rw [List.getElem?_set_ne (by omega)]; exact hxe j (by omega), hput.out _ ?_ _, hWo.out _ ?_ _, ?_⟩
                · exact ⟨_, rfl⟩
                · exact ⟨_, rfl⟩
                · exact (below_drewN' hb _).setCell (p := ⟨g, k, none⟩) (Nat.le_trans hB hg1) _
              case measure => first | (simp [RowKit.intOf]; done) | (simp [RowKit.intOf]; omega)
        · have hlt : k < m := by omega
          have hlt' : (k : Int) < (m : Int) := by omega
          obtain ⟨g, eA, hg1, hg2, hg3, hg4, hput⟩ := fls_put hA hxl hlt
          obtain ⟨g', eW, hw1, hw2, hw3, hw4, -⟩ := fls_put hW hm hlt
          have eg : cls (zx[k]'(hxl ▸ hlt)) = cls (zw[k]'(hm ▸ hlt)) := by
            have h1 := hxe k (Nat.le_refl k)
            have h2 := congrArg (fun l => l[k]?) hcc
            rw [List.getElem?_eq_getElem (hxl ▸ hlt), List.getElem?_eq_getElem (hma ▸ hlt)] at h1
            simp only [List.getElem?_map] at h2
            rw [List.getElem?_eq_getElem (hma ▸ hlt), List.getElem?_eq_getElem (hm ▸ hlt)] at h2
            rw [Option.some.inj h1]
            exact Option.some.inj h2
          have hgl := halt g (by rw [eA]; rfl)
          have hmle : m ≤ 9223372036854775807 := by
            obtain ⟨_, _, _, hf, _⟩ := hA.fls
            have := hf.le
            omega
          subst eA eW
          have hne : g' ≠ g := by omega
          have hWo : ∀ w', Drawn wx w' → ∀ q, Own (w'.setCell ⟨g, k, none⟩ (.float .f64 q)) w6.heap.size 86 1 (zw.map flrow) (.slice (some ⟨g', 0, none⟩) m cw) := fun w' d q => own_other (v := .slice (some ⟨g', 0, none⟩) m cw) (hW.drawn d) (.float .f64 q) (fun x e => by
            obtain rfl : g' = x := Option.some.inj (show some g' = some x from e)
            exact hne)
          generalize (zx[k]'(hxl ▸ hlt)) = xa at *
          generalize (zw[k]'(hm ▸ hlt)) = xw at *
          have KS : ∀ m, Calls Try.prog 35 #[.float .f64 xa, .float .f64 xw] (wx.drewN m) fun e w' => e = .returned (.bool true) ∧ wx.drewN m = w' := fun m => (sameFloat_any xa xw eg (wx.drewN m)).mono fun _ _ h => ⟨h.1, h.2.symm⟩
          replace hput := Lib.hid hput
          replace hWo := Lib.hid hWo
          clear hA hW halt hcc hma hm hO5 hk k5
          go_upto_region 17 with (go_big_quiet ((go_at_call 35; exact quiet_same (KS _))))
          go_wp2
          go_roundw
          case rel =>
            refine ⟨k + 1, zx.set k _, by omega, by go_num, by rw [List.length_set]; exact hxl, fun j hj => by rw [List.getElem?_set_ne (by omega)]; exact hxe j (by omega), hput.out _ ?_ _, hWo.out _ ?_ _, ?_⟩
            · exact ⟨_, rfl⟩
            · exact ⟨_, rfl⟩
            · exact (below_drewN' hb _).setCell hg1 _
          case measure => first | (simp [RowKit.intOf]; done) | (simp [RowKit.intOf]; omega)
end Go.Proofs.Ytbbjnhajmckjoaa
