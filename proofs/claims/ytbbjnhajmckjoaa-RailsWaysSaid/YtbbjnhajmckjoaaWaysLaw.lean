/- Rails: RailsWays, walked. -/
import Derived.Test.YtbbjnhajmckjoaaWayPl
namespace Go.Proofs.Ytbbjnhajmckjoaa
open Go.RowKit Go.BigFrame

def mk (z : Value) (s n : Nat) : Array Value := madeCells z.cells (n * s)
theorem made_of {t e : TypeId} {z : Value} {s bytes : Nat} (u : Try.prog.underlying t = some (.slice e)) (hi : (Try.prog.info? e).map (fun i => (i.zero, i.size, i.bytes)) = some (some z, s, bytes)) {n : Nat} (hb : bytes * n ≤ 281474976710656) (hn : n ≤ 9223372036854775807) (W : World) :
    (Instr.makeSlice t (.int .i64 n) (.int .i64 n)).run Try.prog W = .ok (.slice (some ⟨W.heap.size, 0, none⟩) n n) (W.alloc (.cells (mk z s n) e)) := by
  obtain ⟨i0, hi0, hz0, hz1, hz2⟩ := info_parts hi
  have := run_make (P := Try.prog) W t e i0 z u hi0 hz0 .i64 .i64 n n (by omega) (by omega) (by rw [hz2]; omega) (by omega)
  rw [hz1] at this
  unfold mk
  simpa using this
theorem made_rows (z : Array Value) (n : Nat) : (madeCells z (n * z.size)).toList = (List.replicate n z.toList).flatten := by
  induction n with
  | zero => simp [madeCells]
  | succ n ih =>
    rw [List.replicate_succ', List.flatten_append, ← ih]
    unfold madeCells
    rw [Nat.succ_mul]
    simp only [Array.toList_map, Array.toList_range, List.range_add, List.map_append, List.map_map, List.flatten_cons, List.flatten_nil, List.append_nil]
    congr 1
    apply List.ext_getElem (by simp)
    intro i h1 h2
    have hi : i < z.size := by simpa using h2
    simp only [List.getElem_map, List.getElem_range, Function.comp]
    rw [Nat.mul_add_mod_self_right, Nat.mod_eq_of_lt hi]
    simp [hi]
theorem own_made {W : World} {B g n : Nat} {e : TypeId} {z : Array Value} (hg : W.heap[g]? = some (.cells (madeCells z (n * z.size)) e)) (hB : B ≤ g) (hn : n ≤ maxLen) : Own W B e z.size (List.replicate n z.toList) (.slice (some ⟨g, 0, none⟩) n n) := by
  have hl : (List.replicate n z.toList).length = n := List.length_replicate
  refine ⟨⟨by rw [List.length_flatten, List.map_replicate, List.sum_replicate_nat, hl, Array.length_toList], .inr ⟨g, n, _, by rw [hl], hB, hg, by rw [hl]; exact Nat.le_refl _, hn, size_madeCells _ _, ?_⟩⟩, fun r hr => ?_⟩
  · rw [hl, ← made_rows, List.take_of_length_le (by rw [Array.length_toList, size_madeCells]; exact Nat.le_refl _)]
  · rw [(List.mem_replicate.1 hr).2, Array.length_toList]
def orow (b : Bool) : List Value := [.bool b]
theorem own_else {w : World} {base size : Nat} {e : TypeId} {xs : List (List Value)} {v : Value} {p : Addr} (h : Own w base e size xs v) (x : Value) (hp : ∀ g, v.ownBlock = some g → g ≠ p.block) : Own (w.setCell p x) base e size xs v :=
  h.keep fun g hg => Below.heap_setCell w p x g (hp g hg)
set_option maxHeartbeats 16000000 in
set_option maxRecDepth 100000 in
theorem ways_walk (l : List Pt) (fr tt : List Int) (A B C : Option Addr) (a b c : Nat) (w : World) (h : Pts w A l) (hf : Ints w B fr) (ht : Ints w C tt) :
    Calls Try.prog 7 #[.slice A l.length a, .slice B fr.length b, .slice C tt.length c] w fun e w' => e = .returned (.bool true) ∧ Below w.heap.size w w' := by
  have KW := works_any
  have KC1 := fun (X : World) (q : Below w.heap.size w X) => chained_any l fr A B a b X (h.below q) (hf.below q)
  have KC2 := fun (X : World) (q : Below w.heap.size w X) => chained_any l tt A C a c X (h.below q) (ht.below q)
  clear h hf ht
  obtain ⟨m, hm⟩ : ∃ m, min l.length 30 = m := ⟨_, rfl⟩
  rw [hm] at KC1 KC2
  have hm30 : m ≤ 30 := by omega
  obtain ⟨W1, W2, W3, W4⟩ := ways l fr tt m hm30
  have hlF := chl_len l m
  have hlU := chv_len l fr m
  have hlV := chv_len l tt m
  clear hm
  generalize chl l m = F at *
  generalize chv l fr m = U at *
  generalize chv l tt m = V at *
  replace W4 := Lib.hid W4
  replace W3 := Lib.hid W3
  go_enter Try.func7, Try.ntmps7
  go_upto_region 3 with (go_at_call 32; (with_reducible refine (KW w).mono ?_); rintro e w1 ⟨rfl, b1⟩)
  go_upto_region 4 with (go_at_call 34; (with_reducible refine (KC1 _ b1).mono ?_); rintro e w2 ⟨x2, y2, rfl, oF, oU, -, b2⟩)
  have k2 := b1.trans (b2.mono b1.size)
  go_upto_region 5 with (go_at_call 34; (with_reducible refine (KC2 _ k2).mono ?_); rintro e w3 ⟨x3, y3, rfl, -, oV, -, b3⟩)
  have k3 := k2.trans (b3.mono k2.size)
  have oF3 := oF.below b3
  have oU3 := oU.below b3
  obtain ⟨A7, c7, rfl, pF⟩ := oF3.pts
  obtain ⟨A8, c8, rfl, pU, cU⟩ := oU3.ints
  obtain ⟨A10, c10, rfl, pV, cV⟩ := oV.ints
  have KM1 := fun (X : World) (q : Below w3.heap.size w3 X) => moves_any F U V A7 A8 A10 c7 c8 c10 X (pF.below q) (pU.below q) (pV.below q) cU cV
  have KM2 := fun (X : World) (q : Below w3.heap.size w3 X) => moves_any F V U A7 A10 A8 c7 c10 c8 X (pF.below q) (pV.below q) (pU.below q) cV cU
  rw [W1] at KM1
  rw [W2] at KM2
  rw [hlF, hlU, hlV] at KM1 KM2
  have zU := oU3.nil0
  rw [hlF, hlU, hlV]
  clear KC1 KC2 k2 b1 b2 b3 oF oU oV oF3 W1 W2
  generalize moves F U V = MS at *
  generalize moves F V U = NS at *
  obtain ⟨ms, r1⟩ := MS
  obtain ⟨ns, r2⟩ := NS
  simp only at KM1 KM2 W3 W4
  go_upto_region 6 with (go_at_call 14; (with_reducible refine (KM1 _ (Below.refl _ _)).mono ?_); rintro e w4 ⟨v4, rfl, o4, b4⟩)
  go_upto_region 7 with (go_at_call 14; (with_reducible refine (KM2 _ b4).mono ?_); rintro e w5 ⟨v5, rfl, o5, b5⟩)
  have b35 := b4.trans (b5.mono b4.size)
  have k5 := k3.trans (b35.mono k3.size)
  have oM := o4.below b5
  obtain ⟨A11, c11, rfl, pM⟩ := oM.pts
  obtain ⟨A13, c13, rfl, -⟩ := o5.pts
  rw [← W3.out]
  have hms9 := pM.le
  have pF5 := pF.below b35
  have pV5 := pV.below b35
  have pU5 := pU.below b35
  have hB5 := k5.size
  clear KM1 KM2 b4 b5 o4 o5 oM pF pV pU b35 k3 oU3 W3
  have hUl : Hid ((U.map irow).length = m) := Lib.hid (by rw [List.length_map]; exact hlU)
  go_upto_region 10 with (at_builtin; refine wpList_app_any elt23 rfl _ _ rfl rfl (Own.lit (w := w5) (base := w5.heap.size) (e := 2) (size := 1) (xs := []) #[] 0 rfl rfl (by simp) (Nat.le_refl _) (by decide)) A8 c8 m hUl.out.symm rfl zU (Sl.alloc pU5 _) (one_ints U) (by rw [hUl.out]; simp; omega) (by rw [size_al]; omega) ?_; intro vn w6 oN b6 hs6 _ _)
  rw [List.nil_append] at oN
  have b56 : Below w5.heap.size w5 w6 := (below_al (Below.refl _ _) _).trans b6
  obtain ⟨A15, c15, rfl, -, hc15⟩ := oN.ints
  rw [hlU] at oN hc15 ⊢
  have hMk := fun (X : World) => made_of (t := 85) (e := 4) (z := .bool false) (s := 1) (bytes := 1) Try.underlying85 (by kernel_rfl) (n := m) (by omega) (by omega) X
  have hNl := Lib.hid (fun g e => (oN.lt g e).2)
  have b57 := Lib.hid (below_al b56 (.cells (mk (.bool false) 1 m) 4))
  have oN7 := Lib.hid (oN.alloc (.cells (mk (.bool false) 1 m) 4))
  have oV7 : Hid (Own (w6.alloc (.cells (mk (.bool false) 1 m) 4)) w6.heap.size 4 1 ((List.replicate m false).map orow) (.slice (some ⟨w6.heap.size, 0, none⟩) m m)) := Lib.hid (by
    have e : (List.replicate m false).map orow = List.replicate m [.bool false] := by simp [orow]
    rw [e]
    exact own_made (z := #[.bool false]) (heap_alloc_at _ _) (Nat.le_refl _) (by unfold maxLen; omega))
  clear oN b6 hs6 hUl zU pU5
  go_upto_region 12 with fail
  have hB56 := b56.size
  clear hMk b56
  replace b57 := b57.out
  replace oN7 := oN7.out
  replace oV7 := oV7.out
  generalize w6.alloc (.cells (mk (.bool false) 1 m) 4) = w7 at *
  generalize w6.heap.size = B6 at *
  go_loopw [17] (fun s17 wr => ∃ (k : Nat) (mv : List Bool) (now : List Int), k ≤ ms.length ∧ s17 = .int .i64 k ∧ Way F V (ms.drop k) mv now ∧ mv.length = m ∧ now.length = m ∧ Own wr w5.heap.size 2 1 (now.map irow) (.slice A15 m c15) ∧ Own wr B6 4 1 (mv.map orow) (.slice (some ⟨B6, 0, none⟩) m m) ∧ Below w5.heap.size w5 wr) (fun s17 _ => ms.length - (RowKit.intOf s17).toNat)
  case atStart => exact ⟨0, List.replicate m false, U, by omega, rfl, by simpa using W4.out, by simp, hlU, oN7, oV7, b57⟩
  case round =>
    clear oN7 oV7 b57 W4
    obtain ⟨k, mv, now, hk, rfl, hway, hml, hnl, oN, oB, hb⟩ := hrel
    obtain ⟨wx, rfl⟩ : ∃ x : World, x = wr := ⟨_, rfl⟩
    have hkx := k5.trans (hb.mono hB5)
    by_cases hkm : k = ms.length
    · rw [hkm, List.drop_length] at hway
      have hnow : now = V := hway
      subst hnow
      obtain ⟨A15', c15', e15, iN, -⟩ := oN.ints
      obtain ⟨rfl, -, rfl⟩ : A15 = A15' ∧ m = now.length ∧ c15 = c15' := by simpa using e15
      have KS := same64_any now now A15 A10 c15 c10 wx iN (pV5.below hb)
      rw [hnl, decide_eq_true rfl] at KS
      replace hkx := Lib.hid hkx
      clear hway e15 iN oN oB hb pV5 pF5 pM hnl hml hNl
      subst hkm
      go_wp2_with (go_at_call 17; (with_reducible refine (KS).mono ?_); rintro e w9 ⟨rfl, hd9⟩)
      go_ret
      exact ⟨rfl, hd9.after hkx.out⟩
    · have hlt : k < ms.length := by omega
      have hlt' : (k : Int) < (ms.length : Int) := by omega
      rw [List.drop_eq_getElem_cons hlt] at hway
      obtain ⟨p1, p2, p3, p4, p5⟩ := hway
      obtain ⟨b1, o1, rfl, hb1, d1, d2⟩ := (pM.below hb).at_ hlt
      generalize hpp : ms[k] = p at *
      obtain ⟨pr, px⟩ := p
      simp only at p1 p2 p3 p4 p5 d1 d2
      obtain ⟨r, rfl⟩ : ∃ n : Nat, pr = n := ⟨pr.toNat, by omega⟩
      rw [Int.toNat_natCast] at p3 p4 p5
      rw [hlF] at p2
      have hrm : r < m := by omega
      obtain ⟨g1, u1, e1, -, -, y1, f1, hu1, put1⟩ := oB.row1 (by rw [List.length_map]; exact hml) hrm
      obtain rfl : B6 = g1 := by simpa using e1
      obtain ⟨g2, u2, rfl, -, -, -, -, -, -⟩ := oN.row1 (by rw [List.length_map]; exact hnl) hrm
      have hu1' : u1 = .bool false := by
        rw [List.getElem?_map] at hu1
        rw [List.getD] at p3
        cases hq : mv[r]? with
        | none => rw [hq] at p3; simp at p3
        | some q =>
          rw [hq] at p3 hu1
          simp only [Option.getD_some] at p3
          subst p3
          simpa [orow] using hu1.symm
      subst hu1'
      have hne : g2 ≠ B6 := by have := hNl.out g2 rfl; omega
      have hrm' : (r : Int) < (m : Int) := by omega
      have hb1' : b1 < w5.heap.size := by
        obtain ⟨b', o', e, h', -, -⟩ := pM.at_ hlt
        obtain ⟨rfl, -⟩ : b1 = b' ∧ o1 = o' := by simpa using e
        exact h'
      have B8 : Below w5.heap.size wx (wx.setCell ⟨B6, r, none⟩ (.bool true)) := (Below.refl _ _).setCell (p := ⟨B6, r, none⟩) hB56 _
      have d18 := Lib.hid ((B8.cell (p := ⟨b1, o1 + k * 2, none⟩) hb1').trans d1)
      have d28 := Lib.hid ((B8.cell (p := ⟨b1, o1 + k * 2 + 1, none⟩) hb1').trans d2)
      have oB8 := Lib.hid (put1 (.bool true))
      have oN8 := Lib.hid (own_else oN (.bool true) (p := ⟨B6, r, none⟩) (fun g e => by
        obtain rfl : g2 = g := Option.some.inj (show some g2 = some g from e)
        exact hne))
      have hb8 := Lib.hid (hb.trans B8)
      clear e1 hu1 p3 hpp put1 oB oN hb B8
      go_upto_region 17 with fail
      clear d1 d2 y1 f1
      replace d18 := d18.out
      replace d28 := d28.out
      replace oN8 := oN8.out
      generalize wx.setCell ⟨B6, r, none⟩ (.bool true) = w8 at *
      obtain ⟨g2', u2', e2, hg2, hg2', y2, f2, -, put2⟩ := oN8.row1 (by rw [List.length_map]; exact hnl) hrm
      obtain rfl : g2 = g2' := by simpa using e2
      have hdr : Drawn (w8.setCell ⟨g2, r, none⟩ (.int .i64 px)) (w8.setCell ⟨g2, r, none⟩ (.int .i64 px)).drew := (Drawn.refl _).drew
      have oB9 : Hid (Own (w8.setCell ⟨g2, r, none⟩ (.int .i64 px)).drew B6 4 1 ((mv.set r true).map orow) (.slice (some ⟨B6, 0, none⟩) m m)) := Lib.hid (by
        rw [List.map_set]
        exact (own_else (p := ⟨g2, r, none⟩) oB8.out (.int .i64 px) (fun g e => by
          obtain rfl : B6 = g := Option.some.inj (show some B6 = some g from e)
          exact fun q => hne q.symm)).drawn hdr)
      have oN9 : Hid (Own (w8.setCell ⟨g2, r, none⟩ (.int .i64 px)).drew w5.heap.size 2 1 ((now.set r px).map irow) (.slice (some ⟨g2, 0, none⟩) m c15)) := Lib.hid (by
        rw [List.map_set]
        exact (put2 (.int .i64 px)).drawn hdr)
      have hb9 := Lib.hid (hdr.after (hb8.out.setCell (p := ⟨g2, r, none⟩) hg2 (.int .i64 px)))
      clear e2 put2 oB8 oN8 hb8 hdr
      go_region
      replace oN9 := oN9.out
      generalize (w8.setCell ⟨g2, r, none⟩ (.int .i64 px)).drew = w9 at *
      clear y2 f2 hg2 hg2' d18 d28
      have hnl' : (now.set r px).length = m := by rw [List.length_set]; exact hnl
      obtain ⟨A15', c15', e15, iN, -⟩ := oN9.ints
      rw [hnl'] at e15
      obtain ⟨rfl, rfl⟩ : A15' = some ⟨g2, 0, none⟩ ∧ c15 = c15' := by
        simp only [Value.slice.injEq, true_and] at e15
        exact ⟨e15.1.symm, e15.2⟩
      have KH := holds_any F (now.set r px) A7 (some ⟨g2, 0, none⟩) c7 c15 w9 (pF5.below hb9.out) iN (by rw [hnl']; exact hc15)
      rw [p4, hlF, hnl'] at KH
      have hml' : (mv.set r true).length = m := by rw [List.length_set]; exact hml
      replace p5 := Lib.hid p5
      replace oN9 := Lib.hid oN9
      generalize now.set r px = now' at *
      generalize mv.set r true = mv' at *
      generalize (holds F now').1 = hx at *
      clear e15 iN hml hnl p4 pM pV5 pF5 hkx hb1 hb1'
      go_wp2_with (go_at_call 12; (with_reducible refine (KH).mono ?_); rintro e w10 ⟨rfl, hb10⟩)
      go_roundw
      case rel =>
        have q10 := hb10.mono hb9.out.size
        exact ⟨k + 1, mv', now', by omega, by go_num, p5.out, hml', hnl', oN9.out.below hb10, oB9.out.below hb10, hb9.out.trans q10⟩
      case measure => first | (simp [RowKit.intOf]; done) | (simp [RowKit.intOf]; omega)
end Go.Proofs.Ytbbjnhajmckjoaa
