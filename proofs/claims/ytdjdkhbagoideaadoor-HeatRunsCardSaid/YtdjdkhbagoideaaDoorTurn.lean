/- Heat: a watch turns its trips on and off; walked. -/
import Derived.Test.YtdjdkhbagoideaaDoorFeel
namespace Go.Proofs.YtdjdkhbagoideaaDoor
open Go.RowKit Go.BigFrame flt

def erow (p : Nat × Bool) : List Value := [.int .i64 p.1, .bool p.2]
theorem el35 : Elt Tryd.prog 24 75 2 16 := Elt.of (z := .agg #[.int .i64 0, .bool false]) Tryd.underlying24 (by kernel_rfl) rfl (by decide) (by decide)
theorem ons_len (h : Nat) : ∀ (l : List Tp) (on : List Bool), on.length = l.length → (ons h l on).length = l.length
  | [], [], _ => rfl
  | t :: ts, b :: bs, e => by
    simp only [ons, List.length_cons]
    rw [ons_len h ts bs (by simpa using e)]
  | [], _ :: _, e => by simp at e
  | _ :: _, [], e => by simp at e
theorem ons_at (h : Nat) : ∀ (l : List Tp) (on : List Bool) (k : Nat) (h1 : k < l.length) (h2 : k < on.length) (h3 : k < (ons h l on).length), (ons h l on)[k] = isOn h l[k] on[k]
  | t :: ts, b :: bs, 0, _, _, _ => rfl
  | t :: ts, b :: bs, k + 1, h1, h2, h3 => by
    simp only [ons, List.getElem_cons_succ]
    exact ons_at h ts bs k (by simpa using h1) (by simpa using h2) _
theorem evs_snoc : ∀ (a b : List Bool) (i : Nat) (x y : Bool), a.length = b.length → evs i (a ++ [x]) (b ++ [y]) = evs i a b ++ (if y = x then [] else [(i + a.length, y)])
  | [], [], i, x, y, _ => by simp [evs]
  | a :: xs, b :: bs, i, x, y, e => by
    simp only [List.cons_append, evs, List.length_cons]
    rw [evs_snoc xs bs (i + 1) x y (by simpa using e), List.append_assoc, show i + 1 + xs.length = i + (xs.length + 1) by omega]
  | [], _ :: _, _, _, _, e => by simp at e
  | _ :: _, [], _, _, _, e => by simp at e
theorem evs_len : ∀ (a b : List Bool) (i : Nat), (evs i a b).length ≤ a.length
  | [], _, _ => by simp [evs]
  | _ :: _, [], _ => by simp [evs]
  | a :: xs, b :: bs, i => by
    have := evs_len xs bs (i + 1)
    simp only [evs, List.length_append, List.length_cons]
    split <;> simp <;> omega
theorem mix_set {α : Type} {a b : List α} {k : Nat} (h1 : k < a.length) (h2 : k < b.length) : (b.take k ++ a.drop k).set k b[k] = b.take (k + 1) ++ a.drop (k + 1) := by
  have e : (b.take k).length = k := by rw [List.length_take]; omega
  rw [List.drop_eq_getElem_cons h1, List.set_append_right _ _ (by omega), e, Nat.sub_self, List.set_cons_zero, ← List.take_append_getElem h2, List.append_assoc]
  rfl
theorem mix_at {α : Type} {a b : List α} {k : Nat} (h1 : k < a.length) (h2 : k < b.length) (h3 : k < (b.take k ++ a.drop k).length) : (b.take k ++ a.drop k)[k] = a[k] := by
  have e : (b.take k).length = k := by rw [List.length_take]; omega
  rw [List.getElem_append_right (by omega)]
  simp [e]
theorem mix_len {α : Type} {a b : List α} {k : Nat} (h : a.length = b.length) (h2 : k ≤ b.length) : (b.take k ++ a.drop k).length = b.length := by
  rw [List.length_append, List.length_take, List.length_drop]; omega
theorem Own.cells {w : World} {base : Nat} {e : TypeId} {size g n c : Nat} {rs : List (List Value)} (h : Own w base e size rs (.slice (some ⟨g, 0, none⟩) n c)) (hn : rs.length = n) {k : Nat} (hk : k < n) {r : List Value} (hr : rs[k]? = some r) {f : Nat} {u : Value} (hu : r[f]? = some u) :
    w.cell? ⟨g, k * size + f, none⟩ = some u ∧ w.frozen? ⟨g, k * size + f, none⟩ = false := by
  subst hn
  have e1 : rs[k] = r := by rw [List.getElem?_eq_getElem hk] at hr; exact Option.some.inj hr
  exact h.cell hk (by rw [e1]; exact hu)
set_option maxHeartbeats 4000000 in
set_option maxRecDepth 100000 in
theorem turn_any {W : World} {B g : Nat} {Z : Zn} {v vo : Value} {s : Hs} (hW : Wt W B g Z v vo s) (hZ : Zok Z) (hs : Hok Z s) :
    Calls Tryd.prog 26 #[.pointer (some ⟨g, 0, none⟩)] W fun e w' => ∃ tv, e = .returned tv ∧ Own w' W.heap.size 75 2 ((evs 0 s.on (ons s.h Z.tr s.on)).map erow) tv ∧
      Wt w' B g Z v vo { s with on := ons s.h Z.tr s.on } ∧ Fr W.heap.size (fun b => vo.ownBlock = some b) W w' := by
  obtain ⟨O, hO⟩ : ∃ O, ons s.h Z.tr s.on = O := ⟨_, rfl⟩
  have hOl : O.length = Z.tr.length := by rw [← hO]; exact ons_len _ _ _ hs.on
  have hOa : ∀ k (h1 : k < Z.tr.length) (h2 : k < s.on.length) (h3 : k < O.length), O[k] = isOn s.h Z.tr[k] s.on[k] := fun k h1 h2 h3 => by subst hO; exact ons_at _ _ _ _ _ _ _
  obtain ⟨n, hn⟩ : ∃ n, Z.tr.length = n := ⟨_, rfl⟩
  obtain ⟨gv, cv, hv, hg1, hg2⟩ := own_form0 hW.tr (by rw [List.length_map]; exact hZ.n.1)
  obtain ⟨go_, co, hvo, hg3, hg4⟩ := own_form0 hW.on (by rw [List.length_map, hs.on]; exact hZ.n.1)
  rw [List.length_map, hn] at hv
  rw [List.length_map, hs.on, hn] at hvo
  subst hv hvo
  have hog := hW.og go_ rfl
  have hgne : gv ≠ go_ := fun e => hog.2 (by rw [e]; rfl)
  have hn8 : n ≤ 8 := by rw [← hn]; exact hZ.n.2
  have hson : s.on.length = n := by rw [hs.on, hn]
  rw [hn] at hOl
  -- what a world that is left as W was but for the block of those that are on gives
  have hdT := Lib.hid fun (k : Nat) (hk : k < Z.tr.length) (X : World) (q : Fr W.heap.size (fun b => (Value.slice (some ⟨go_, 0, none⟩) n co).ownBlock = some b) W X) =>
    And.intro (((hW.tr.keep (fun b e => q.k b (hW.tr.lt b e).2 (fun e2 => (hW.og b e2).2 e))).cells (by rw [List.length_map, hn]) (k := k) (by omega) (r := tprow Z.tr[k]) (by rw [List.getElem?_map, List.getElem?_eq_getElem hk]; rfl) (f := 0) (u := .float .f64 Z.tr[k].a) rfl).1) (And.intro (((hW.tr.keep (fun b e => q.k b (hW.tr.lt b e).2 (fun e2 => (hW.og b e2).2 e))).cells (by rw [List.length_map, hn]) (k := k) (by omega) (r := tprow Z.tr[k]) (by rw [List.getElem?_map, List.getElem?_eq_getElem hk]; rfl) (f := 1) (u := .float .f64 Z.tr[k].b) rfl).1) (((hW.tr.keep (fun b e => q.k b (hW.tr.lt b e).2 (fun e2 => (hW.og b e2).2 e))).cells (by rw [List.length_map, hn]) (k := k) (by omega) (r := tprow Z.tr[k]) (by rw [List.getElem?_map, List.getElem?_eq_getElem hk]; rfl) (f := 2) (u := .int .u8 Z.tr[k].k) rfl).1))
  have hgS : ¬ (Value.slice (some ⟨go_, 0, none⟩) n co).ownBlock = some g := fun e => by
    have h1 : go_ = g := Option.some.inj e
    have h2 := hog.1
    omega
  have hdG := Lib.hid fun (X : World) (q : Fr W.heap.size (fun b => (Value.slice (some ⟨go_, 0, none⟩) n co).ownBlock = some b) W X) =>
    And.intro ((World.cell?_of_block (a := ⟨g, 7, none⟩) (q.k g (heap_lt hW.hb) hgS)).trans (hW.cl 7 (x := .float .f64 s.h) rfl)) ((World.cell?_of_block (a := ⟨g, 9, none⟩) (q.k g (heap_lt hW.hb) hgS)).trans (hW.cl 9 (x := .slice (some ⟨go_, 0, none⟩) n co) rfl))
  have hfin := Lib.hid fun (X : World) (ho : Own X B 4 1 (O.map orow) (.slice (some ⟨go_, 0, none⟩) n co)) (q : Fr W.heap.size (fun b => (Value.slice (some ⟨go_, 0, none⟩) n co).ownBlock = some b) W X) =>
    (⟨(q.k g (heap_lt hW.hb) hgS).trans hW.hb, hW.tr.keep (fun b e => q.k b (hW.tr.lt b e).2 (fun e2 => (hW.og b e2).2 e)), ho, hW.hB, hW.vg, hW.og⟩ : Wt X B g Z (.slice (some ⟨gv, 0, none⟩) n cv) (.slice (some ⟨go_, 0, none⟩) n co) { s with on := O })
  have hBt := Lib.hid fun (k : Nat) (hk : k < Z.tr.length) => hZ.tr _ (List.getElem_mem hk)
  have y6 := hW.cl 6 (x := .slice (some ⟨gv, 0, none⟩) n cv) rfl
  have hOn := hW.on
  have hF0 := Fr.refl W.heap.size (fun b => (Value.slice (some ⟨go_, 0, none⟩) n co).ownBlock = some b) W
  rw [hO]
  obtain ⟨S, hS⟩ : ∃ S : Nat → Prop, (fun b => (Value.slice (some ⟨go_, 0, none⟩) n co).ownBlock = some b) = S := ⟨_, rfl⟩
  have hSg : S go_ := by rw [← hS]; rfl
  rw [hS] at hdT hdG hfin hF0 ⊢
  clear hS hgS hs hZ hO hog hgne hg1 hg2 hW
  replace hn := Lib.hid hn
  go_enter Tryd.func26, Tryd.ntmps26
  go_upto_region 3 with fail
  clear y6
  go_loopw [13, 3] (fun s13 s3 wr => ∃ k : Nat, k ≤ n ∧ s13 = .int .i64 k ∧ Own wr W.heap.size 75 2 ((evs 0 (s.on.take k) (O.take k)).map erow) s3 ∧ Own wr B 4 1 ((O.take k ++ s.on.drop k).map orow) (.slice (some ⟨go_, 0, none⟩) n co) ∧ Fr W.heap.size S W wr) (fun s13 _ _ => n - (intOf s13).toNat)
  case atStart => exact ⟨0, by omega, rfl, Own.nil _ _ _ _, hOn, hF0⟩
  case round =>
    clear hOn hF0
    obtain ⟨k, hk, rfl, hE, hOn, hF⟩ := hrel
    obtain ⟨wk, rfl⟩ : ∃ x : World, x = wr := ⟨_, rfl⟩
    by_cases hkn : k = n
    · have hw := hfin.out wk (by rw [hkn, List.take_of_length_le (by omega), List.drop_of_length_le (by omega), List.append_nil] at hOn; exact hOn) hF
      rw [hkn, List.take_of_length_le (by omega), List.take_of_length_le (by omega)] at hE
      subst hkn
      obtain ⟨A', c', rfl, _⟩ := hE.sl
      replace hw := Lib.hid hw
      clear hfin hdT hdG hBt hOa hOn
      go_wp2
      go_ret
      exact ⟨_, rfl, hE, hw.out, hF⟩
    · have hlt : k < n := by omega
      have hkl : k < Z.tr.length := by rw [hn.out]; exact hlt
      obtain ⟨x0, x1, x2⟩ := hdT.out k hkl wk hF
      obtain ⟨q1, q2, _⟩ := hBt.out k hkl
      obtain ⟨hsub, -⟩ := q1.sub q2 (by unfold In53; omega)
      have r1 := fun W => run_float_arith (P := Tryd.prog) W .sub 23 .f64 _ _ _ hsub
      have hks : k < s.on.length := by omega
      have hkO : k < O.length := by omega
      have hok := hOa k hkl hks hkO
      have hml : (O.take k ++ s.on.drop k).length = n := by rw [mix_len (by omega) (by omega)]; exact hOl
      have hset0 := mix_set hks hkO
      have hat0 := mix_at hks hkO (by omega)
      have hev := evs_snoc (s.on.take k) (O.take k) 0 s.on[k] O[k] (by rw [List.length_take, List.length_take]; omega)
      rw [List.take_append_getElem hks, List.take_append_getElem hkO, List.length_take, Nat.min_eq_left (by omega), Nat.zero_add] at hev
      have hevl := evs_len (s.on.take k) (O.take k) 0
      rw [List.length_take, Nat.min_eq_left (by omega)] at hevl
      clear hBt hOa q1 q2 hsub hkn
      unfold isOn at hok
      generalize O[k] = ok at *
      generalize s.on[k] = bk at *
      generalize Z.tr[k] = u at *
      obtain ⟨ua, ub, uk⟩ := u
      simp only at x0 x1 x2 r1 hok
      generalize fsub ua ub = q1 at *
      rw [Nat.add_zero] at x0
      obtain ⟨lo, hlo⟩ : ∃ b, (FloatKind.f64.format.order s.h q1 == some .lt) = b := ⟨_, rfl⟩
      obtain ⟨hi, hhi⟩ : ∃ b, (FloatKind.f64.format.order s.h ua == some .gt || FloatKind.f64.format.order s.h ua == some .eq) = b := ⟨_, rfl⟩
      rw [show lt s.h q1 = lo from hlo, show ge s.h ua = hi from hhi] at hok
      generalize s.h = hh at *
      go_upto_region 5 with (refine wpList_store_row rfl 36 _ _ rfl wk.heap.size #[.float .f64 ua, .float .f64 ub, .int .u8 uk] rfl rfl 36 _ (heap_alloc_at _ _) (by kernel_rfl) (by kernel_rfl) (by kernel_rfl) ?_)
      rw [setRow_alloc _ _ _ _ _ rfl]
      simp only [Act.put]
      have hxt := heap_alloc_at wk (.cells #[.float .f64 ua, .float .f64 ub, .int .u8 uk] 36)
      have hF0 := hF.trans (Fr.of ((below_al (Below.refl wk.heap.size wk) (.cells #[.float .f64 ua, .float .f64 ub, .int .u8 uk] 36)).mono hF.size))
      have hOn0 := hOn.alloc (.cells #[.float .f64 ua, .float .f64 ub, .int .u8 uk] 36)
      have hE0 := hE.alloc (.cells #[.float .f64 ua, .float .f64 ub, .int .u8 uk] 36)
      generalize wk.alloc (.cells #[.float .f64 ua, .float .f64 ub, .int .u8 uk] 36) = wt at *
      have b0 : wt.cell? ⟨wk.heap.size, 0, none⟩ = some (.float .f64 ua) := by rw [cell_of_row _ _ 0 _ 36 (0, 0) hxt]; rfl
      have b1 : wt.cell? ⟨wk.heap.size, 1, none⟩ = some (.float .f64 ub) := by rw [cell_of_row _ _ 1 _ 36 (0, 0) hxt]; rfl
      obtain ⟨y7, y9⟩ := hdG.out wt hF0
      obtain ⟨g', u0, e1, _, _, c0, f0, hr0, hset⟩ := hOn0.row1 (by rw [List.length_map, hml]) hlt
      have eg : go_ = g' := by simpa using e1
      subst eg
      have hu0 : u0 = .bool bk := by
        rw [List.getElem?_map, List.getElem?_eq_getElem (by omega), hat0] at hr0
        simpa [orow] using hr0.symm
      subst hu0
      clear x0 x1 x2 hxt hF hOn hE e1 hr0
      go_upto_if 25 with fail
      go_cut [6] from 26 to 43 (fun v wc => v = .bool ok ∧ Drawn wt wc)
      case first =>
        clear hset hE0 hOn0 hF0 hev hset0 hat0 hevl
        cases bk with
        | true =>
          simp only [if_true] at hok
          subst hok
          go_wp2
          go_big_quiet (fail)
          go_wp2
          go_meet
          case rel => exact ⟨rfl, (Drawn.refl _).drewN _⟩
        | false =>
          simp only [Bool.false_eq_true, if_false] at hok
          subst hok
          go_wp2
          go_big_quiet (fail)
          go_wp2
          go_meet
          case rel => exact ⟨rfl, (Drawn.refl _).drewN _⟩
      obtain ⟨rfl, hd⟩ := hcut
      have hE1 := hE0.drawn hd
      have hOn1 := hOn0.drawn hd
      have hF1 := hF0.drawn hd
      obtain ⟨-, z9⟩ := hdG.out wc hF1
      have c1 := (hd.cell ⟨go_, k, none⟩).trans c0
      have f1 := (hd.frozen ⟨go_, k, none⟩).trans f0
      clear hok hlo hhi r1 hE0 hF0 b0 b1 y7 y9 f0 c0 hset
      by_cases hsame : ok = bk
      · subst hsame
        rw [if_pos rfl, List.append_nil] at hev
        have hbb : (ok != ok) = false := bne_self_eq_false _
        have hOn2 : Own wc B 4 1 ((O.take (k + 1) ++ s.on.drop (k + 1)).map orow) (.slice (some ⟨go_, 0, none⟩) n co) := by
          have e : (O.take k ++ s.on.drop k).set k ok = O.take k ++ s.on.drop k := by
            have q := @List.set_getElem_self _ (O.take k ++ s.on.drop k) k (by omega)
            rwa [hat0] at q
          rw [← hset0, e]; exact hOn1
        rw [← hev] at hE1
        clear hOn0 hOn1 hset0 hev hdT hdG hd hat0
        go_wp2
        go_roundw
        case rel => exact ⟨k + 1, by omega, by go_num, hE1, hOn2, hF1⟩
        case measure => simp [intOf]; omega
      · rcases (show (ok = true ∧ bk = false) ∨ (ok = false ∧ bk = true) by cases ok <;> cases bk <;> simp_all) with ⟨rfl, rfl⟩ | ⟨rfl, rfl⟩
        · rw [if_neg hsame] at hev
          obtain ⟨g', u0, e1, -, -, -, -, -, hset⟩ := hOn1.row1 (by rw [List.length_map, hml]) hlt
          have hset' := hset (.bool true)
          have e3 : (((O.take k ++ s.on.drop k).map orow).set k [.bool true]) = (O.take (k + 1) ++ s.on.drop (k + 1)).map orow := by
            rw [← hset0, List.map_set]; rfl
          have eg : go_ = g' := by simpa using e1
          subst eg
          rw [e3] at hset'
          have hE2 := hE1.keep (w' := wc.setCell ⟨go_, k, none⟩ (.bool true)) (fun b e => Below.heap_setCell wc _ _ b (fun q => by
            have h1 := (hE1.lt b e).1
            have h2 : b = go_ := q
            omega))
          have hF2 := hF1.set (p := ⟨go_, k, none⟩) (fun _ => hSg) (.bool true)
          have hsz := hF2.size
          rw [size_set] at hsz
          replace hsz := Lib.hid hsz
          clear hOn0 hOn1 hset0 hdT hdG hd hat0 hset e1 e3 hE1 hF1 hsame
          have hlr : Hid (((evs 0 (s.on.take k) (O.take k)).map erow).length ≤ k) := Lib.hid (by rw [List.length_map]; exact hevl)
          have hev' : Hid ((evs 0 (s.on.take (k + 1)) (O.take (k + 1))).map erow = (evs 0 (s.on.take k) (O.take k)).map erow ++ [[.int .i64 k, .bool true]]) := Lib.hid (by rw [hev, List.map_append]; rfl)
          clear hev hevl
          go_upto_region 11 with fail
          generalize wc.setCell ⟨go_, k, none⟩ (.bool true) = w5 at *
          have hs5 := hF2.size
          replace hs5 := Lib.hid hs5
          go_wp2_with (at_builtin; refine wpList_push el35 rfl _ _ rfl rfl (hE2.alloc _) [.int .i64 k, .bool true] w5.heap.size 75 rfl (heap_alloc_at _ _) rfl (by simp [Value.oneCell']) (by have := hlr.out; omega) (by have := hs5.out; rw [size_al]; omega) ?_; intro v' w6 ho6 hb6 hs6 _ _)
          have hbb6 : Below W.heap.size w5 w6 := ((below_al (Below.refl w5.heap.size w5) (.cells #[.int .i64 k, .bool true] 75)).mono hs5.out).trans hb6
          have hF3 := hF2.trans (Fr.of hbb6)
          have hOn3 := hset'.keep (w' := w6) (fun b e => hbb6.block b (by have : go_ = b := Option.some.inj e; omega))
          rw [← hev'.out] at ho6
          clear hE2 hset' hF2 hb6 hs6 hbb6
          go_roundw
          case rel => exact ⟨k + 1, by omega, by go_num, ho6, hOn3, hF3⟩
          case measure => simp [intOf]; omega
        · rw [if_neg hsame] at hev
          obtain ⟨g', u0, e1, -, -, -, -, -, hset⟩ := hOn1.row1 (by rw [List.length_map, hml]) hlt
          have hset' := hset (.bool false)
          have e3 : (((O.take k ++ s.on.drop k).map orow).set k [.bool false]) = (O.take (k + 1) ++ s.on.drop (k + 1)).map orow := by
            rw [← hset0, List.map_set]; rfl
          have eg : go_ = g' := by simpa using e1
          subst eg
          rw [e3] at hset'
          have hE2 := hE1.keep (w' := wc.setCell ⟨go_, k, none⟩ (.bool false)) (fun b e => Below.heap_setCell wc _ _ b (fun q => by
            have h1 := (hE1.lt b e).1
            have h2 : b = go_ := q
            omega))
          have hF2 := hF1.set (p := ⟨go_, k, none⟩) (fun _ => hSg) (.bool false)
          have hsz := hF2.size
          rw [size_set] at hsz
          replace hsz := Lib.hid hsz
          clear hOn0 hOn1 hset0 hdT hdG hd hat0 hset e1 e3 hE1 hF1 hsame
          have hlr : Hid (((evs 0 (s.on.take k) (O.take k)).map erow).length ≤ k) := Lib.hid (by rw [List.length_map]; exact hevl)
          have hev' : Hid ((evs 0 (s.on.take (k + 1)) (O.take (k + 1))).map erow = (evs 0 (s.on.take k) (O.take k)).map erow ++ [[.int .i64 k, .bool false]]) := Lib.hid (by rw [hev, List.map_append]; rfl)
          clear hev hevl
          go_upto_region 11 with fail
          generalize wc.setCell ⟨go_, k, none⟩ (.bool false) = w5 at *
          have hs5 := hF2.size
          replace hs5 := Lib.hid hs5
          go_wp2_with (at_builtin; refine wpList_push el35 rfl _ _ rfl rfl (hE2.alloc _) [.int .i64 k, .bool false] w5.heap.size 75 rfl (heap_alloc_at _ _) rfl (by simp [Value.oneCell']) (by have := hlr.out; omega) (by have := hs5.out; rw [size_al]; omega) ?_; intro v' w6 ho6 hb6 hs6 _ _)
          have hbb6 : Below W.heap.size w5 w6 := ((below_al (Below.refl w5.heap.size w5) (.cells #[.int .i64 k, .bool false] 75)).mono hs5.out).trans hb6
          have hF3 := hF2.trans (Fr.of hbb6)
          have hOn3 := hset'.keep (w' := w6) (fun b e => hbb6.block b (by have : go_ = b := Option.some.inj e; omega))
          rw [← hev'.out] at ho6
          clear hE2 hset' hF2 hb6 hs6 hbb6
          go_roundw
          case rel => exact ⟨k + 1, by omega, by go_num, ho6, hOn3, hF3⟩
          case measure => simp [intOf]; omega
end Go.Proofs.YtdjdkhbagoideaaDoor
