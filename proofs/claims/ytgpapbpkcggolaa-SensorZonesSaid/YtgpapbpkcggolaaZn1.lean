/- Sensor: SensorZones, walked. -/
import Derived.Test.YtgpapbpkcggolaaZn0
import Derived.Test.YtgpapbpkcggolaaMd1
namespace Go.Proofs.Ytgpapbpkcggolaa
open Go.RowKit Go.BigFrame

theorem el31 : Elt Try.prog 31 26 1 1 := Elt.of (z := .int .i8 0) Try.underlying31 (by kernel_rfl) rfl (by decide) (by decide)
theorem one_brow (l : List Int) : ∀ r ∈ l.map brow, ∀ u ∈ r, u.oneCell' = true := by
  intro r hr u hu
  obtain ⟨q, _, rfl⟩ := List.mem_map.1 hr
  simp only [brow, List.mem_singleton] at hu
  rw [hu]; rfl
theorem own_end2 {w : World} {base n : Nat} {e : TypeId} {size : Nat} {xs : List (List Value)} {r : List Value} {v : Value} (h : Own w base e size (xs ++ [r]) v) (hl : xs.length = n) : ∃ g c, v = .slice (some ⟨g, 0, none⟩) (n + 1) c ∧ n + 1 ≤ c ∧ (n : Int) ≤ (c : Int) := by
  obtain ⟨⟨_, h2⟩, _⟩ := h
  subst hl
  rcases h2 with ⟨_, h0⟩ | ⟨g, cap, cur, e, _, _, hc, hm, _, _⟩
  · rw [List.length_append] at h0; simp at h0
  · rw [List.length_append] at e hc
    exact ⟨g, cap, e, hc, by have h1 : xs.length + 1 ≤ cap := hc; omega⟩
theorem own_i8 {w : World} {base n : Nat} {l : List Int} {v : Value} (h : Own w base 26 1 (l.map brow) v) (hn : l.length = n) : ∃ A c, v = .slice A n c ∧ I8s w A l := by
  obtain ⟨A, c, e, hs⟩ := h.sl
  exact ⟨A, c, by rw [e, List.length_map, hn], hs.mono fun _ _ => trivial⟩
/-- the numbers ahead of the mark, read -/
theorem own_pre {w : World} {base g n c : Nat} {l : List Int} {x : Int} (h : Own w base 26 1 ((l ++ [x]).map brow) (.slice (some ⟨g, 0, none⟩) (n + 1) c)) : I8s w (some ⟨g, 0, none⟩) l := by
  obtain ⟨A', c', e, hs⟩ := h.sl
  have e1 : some (⟨g, 0, none⟩ : Addr) = A' := (Value.slice.inj e).1
  rw [← e1] at hs
  have h2 := (Sl.mono hs (S' := fun _ => True) (fun _ _ => trivial)).take l.length
  rw [← List.map_take, List.take_left] at h2
  exact h2
theorem own_mark {w : World} {base g n c : Nat} {l : List Int} {x : Int} (h : Own w base 26 1 ((l ++ [x]).map brow) (.slice (some ⟨g, 0, none⟩) (n + 1) c)) (hn : l.length = n) : w.cell? ⟨g, n, none⟩ = some (.int .i8 x) := by
  have hk : n < (l ++ [x]).length := by rw [List.length_append, hn]; simp
  have h9 := (h.cell1 (val := fun x => .int .i8 x) (fun _ => rfl) (by rw [List.length_append, hn]; rfl) hk).1
  rw [List.getElem_append_right (by rw [hn]; exact Nat.le_refl _)] at h9
  simpa using h9
theorem own_put {w : World} {base g n c i : Nat} {l : List Int} {x : Int} (h : Own w base 26 1 ((l ++ [x]).map brow) (.slice (some ⟨g, 0, none⟩) (n + 1) c)) (hn : l.length = n) (hi : i < n) (v : Int) :
    Own (w.setCell ⟨g, i, none⟩ (.int .i8 v)) base 26 1 ((l.set i v ++ [x]).map brow) (.slice (some ⟨g, 0, none⟩) (n + 1) c) := by
  have := h.put1 (val := fun x => .int .i8 x) (fun _ => rfl) (by rw [List.length_append, hn]; rfl) (k := i) (by omega) v
  rwa [List.set_append_left _ _ (by omega)] at this
theorem own_get {w : World} {base g n c i : Nat} {l : List Int} {x : Int} (h : Own w base 26 1 ((l ++ [x]).map brow) (.slice (some ⟨g, 0, none⟩) (n + 1) c)) (hn : l.length = n) (hi : i < l.length) : w.cell? ⟨g, i, none⟩ = some (.int .i8 l[i]) ∧ w.frozen? ⟨g, i, none⟩ = false := by
  have h9 := h.cell1 (val := fun x => .int .i8 x) (fun _ => rfl) (by rw [List.length_append, hn]; rfl) (k := i) (by rw [List.length_append]; simp; omega)
  rw [List.getElem_append_left hi] at h9
  exact h9
theorem wrap8 (x : Int) : -128 ≤ IntKind.i8.wrap x ∧ IntKind.i8.wrap x ≤ 127 := by
  have e : IntKind.i8.wrap x = if x % 256 ≥ 128 then x % 256 - 256 else x % 256 := by
    unfold IntKind.wrap
    simp [IntKind.bits, IntKind.signed]
  rw [e]
  split <;> omega
def Rng8 (l : List Int) : Prop := ∀ x ∈ l, -128 ≤ x ∧ x ≤ 127
theorem Rng8.set {l : List Int} (h : Rng8 l) (i : Nat) (x : Int) : Rng8 (l.set i (IntKind.i8.wrap x)) := by
  intro y hy
  rcases List.mem_or_eq_of_mem_set hy with q | q
  · exact h y q
  · rw [q]; exact wrap8 x
set_option maxHeartbeats 8000000 in
set_option maxRecDepth 100000 in
theorem zones_walk (mk l : List Int) (deg : Int) (A A2 : Option Addr) (c c2 n m : Nat) (w : World) (h : I8s w A mk) (hn : mk.length = n) (hb : I8s w A2 l) (hm : l.length = m) (hz1 : A = none → c = 0) (hz2 : A2 = none → c2 = 0) (bn : n ≤ 140737488351232) (bm : m ≤ 140737488351232) (r1 : Rng8 mk) (r2 : Rng8 l) :
    Calls Try.prog 4 #[.slice A n c, .int .i8 deg, .slice A2 m c2] w fun e w' => e = .returned (.bool true) ∧ Below w.heap.size w w' := by
  have hnd := Lib.hid fun (X : World) (q : Below w.heap.size w X) => h.below q
  have hbd := Lib.hid fun (X : World) (q : Below w.heap.size w X) => hb.below q
  have hl1 : Hid ((mk.map brow).length = n) := Lib.hid (by rw [List.length_map]; exact hn)
  have hl2 : Hid ((l.map brow).length = m) := Lib.hid (by rw [List.length_map]; exact hm)
  have hn' := Lib.hid hn
  have hm' := Lib.hid hm
  replace r1 := Lib.hid r1
  replace r2 := Lib.hid r2
  clear hn hm
  go_enter Try.func4, Try.ntmps4
  go_upto_region 2 with (first
    | (at_builtin; refine wpList_app_any el31 rfl _ _ rfl rfl (Own.lit (w := w) (base := w.heap.size) (e := 26) (size := 1) (xs := []) #[] 0 rfl rfl (by simp) (Nat.le_refl _) (by decide)) A c n hl1.out.symm rfl hz1 (Sl.alloc h _) (one_brow mk) (by rw [hl1.out]; simp; omega) (by rw [size_al]; omega) ?_; intro v1 w1 ho1 hb1 hs1 _ _; rw [List.nil_append] at ho1)
    | (at_builtin; refine wpList_push el31 rfl _ _ rfl rfl (ho1.alloc _) [.int .i8 77] w1.heap.size 26 rfl (heap_alloc_at _ _) rfl (by simp [Value.oneCell']) (by rw [hl1.out]; omega) (by rw [size_al]; rw [size_al] at hs1; omega) ?_; intro v2 w2 ho2 hb2 hs2 _ _))
  obtain ⟨ga, ca, hva, hca, hca'⟩ := own_end2 ho2 hl1.out
  subst hva
  have hB2 : Below w.heap.size w w2 := ((below_al (Below.refl w.heap.size w) _).trans hb1).trans ((below_al (Below.refl w1.heap.size w1) _).mono (by rw [size_al] at hs1; omega) |>.trans hb2)
  have hya : Own w2 w.heap.size 26 1 ((mk ++ [77]).map brow) (.slice (some ⟨ga, 0, none⟩) (n + 1) ca) := by rw [List.map_append]; exact ho2
  have hbw2 := hbd.out w2 hB2
  clear ho1 hb1 hs1 ho2 hb2 hs2
  have hs20 := Lib.hid hB2.size
  go_upto_region 3 with (first
    | (at_builtin; refine wpList_app_any el31 rfl _ _ rfl rfl (Own.lit (w := w2) (base := w2.heap.size) (e := 26) (size := 1) (xs := []) #[] 0 rfl rfl (by simp) (Nat.le_refl _) (by decide)) A2 c2 m hl2.out.symm rfl hz2 (Sl.alloc hbw2 _) (one_brow l) (by rw [hl2.out]; simp; omega) (by rw [size_al]; omega) ?_; intro v3 w3 ho3 hb3 hs3 _ _; rw [List.nil_append] at ho3)
    | (at_builtin; refine wpList_push el31 rfl _ _ rfl rfl (ho3.alloc _) [.int .i8 77] w3.heap.size 26 rfl (heap_alloc_at _ _) rfl (by simp [Value.oneCell']) (by rw [hl2.out]; omega) (by rw [size_al]; rw [size_al] at hs3; omega) ?_; intro v4 w4 ho4 hb4 hs4 _ _))
  obtain ⟨gb, cb, hvb, hcb, hcb'⟩ := own_end2 ho4 hl2.out
  subst hvb
  have hB4 : Below w2.heap.size w2 w4 := ((below_al (Below.refl w2.heap.size w2) _).trans hb3).trans ((below_al (Below.refl w3.heap.size w3) _).mono (by rw [size_al] at hs3; omega) |>.trans hb4)
  have hyb : Own w4 w2.heap.size 26 1 ((l ++ [77]).map brow) (.slice (some ⟨gb, 0, none⟩) (m + 1) cb) := by rw [List.map_append]; exact ho4
  have hya4 := hya.below hB4
  have hgab : Hid (ga < gb ∧ w.heap.size ≤ ga) := Lib.hid (by
    have h1 := (hya.lt ga rfl)
    have h2 := (hyb.lt gb rfl).1
    omega)
  have hBw4 := Lib.hid (hB2.trans (hB4.mono hs20.out))
  replace hya4 := Lib.hid hya4
  replace hyb := Lib.hid hyb
  clear ho3 hb3 hs3 ho4 hb4 hs4 hB4 hya hB2 hbw2
  go_upto_region 4 with fail
  go_loopw [9, 10, 11, 12, 13, 14, 15, 16, 17, 18, 19] (fun s9 _ _ _ _ _ _ _ _ _ _ wr => ∃ (k : Nat) (la lb : List Int), k ≤ 2 ∧ s9 = .int .i64 k ∧ Hid (la.length = n ∧ lb.length = m ∧ Rng8 la ∧ Rng8 lb) ∧ Hid (k = 0 → la = mk ∧ lb = l) ∧ Hid (Own wr w.heap.size 26 1 ((la ++ [77]).map brow) (.slice (some ⟨ga, 0, none⟩) (n + 1) ca)) ∧ Hid (Own wr w2.heap.size 26 1 ((lb ++ [77]).map brow) (.slice (some ⟨gb, 0, none⟩) (m + 1) cb)) ∧ Hid (Below w.heap.size w wr)) (fun s9 _ _ _ _ _ _ _ _ _ _ _ => 2 - (intOf s9).toNat)
  case atStart => exact ⟨0, mk, l, by omega, rfl, Lib.hid ⟨hn'.out, hm'.out, r1.out, r2.out⟩, Lib.hid (fun _ => ⟨rfl, rfl⟩), hya4, hyb, hBw4⟩
  case round =>
    clear hya4 hyb hBw4
    obtain ⟨k, la, lb, hk, rfl, hlen, hk0, hya, hyb, hBw⟩ := hrel
    obtain ⟨wk, rfl⟩ : ∃ x : World, x = wr := ⟨_, rfl⟩
    by_cases hk2 : k = 2
    · subst hk2
      go_wp2
      go_ret
      exact ⟨rfl, hBw.out⟩
    · have hkl : (k : Int) < 2 := by omega
      have hIa : Hid (∀ X, Below wk.heap.size wk X → I8s X (some ⟨ga, 0, none⟩) la) := Lib.hid fun X q => (own_pre hya.out).below q
      have hIb : Hid (∀ X, Below wk.heap.size wk X → I8s X (some ⟨gb, 0, none⟩) lb) := Lib.hid fun X q => (own_pre hyb.out).below q
      have hla : Hid ((la.map brow).length = n) := Lib.hid (by rw [List.length_map]; exact hlen.out.1)
      have hlb : Hid ((lb.map brow).length = m) := Lib.hid (by rw [List.length_map]; exact hlen.out.2.1)
      have hI0 := hIa.out wk (Below.refl _ _)
      go_upto_region 7 with (first
        | (at_builtin; refine wpList_app_any el31 rfl _ _ rfl rfl (Own.lit (w := wk) (base := wk.heap.size) (e := 26) (size := 1) (xs := []) #[] 0 rfl rfl (by simp) (Nat.le_refl _) (by decide)) (some ⟨ga, 0, none⟩) ca n hla.out.symm rfl (fun e => by cases e) (Sl.alloc hI0 _) (one_brow la) (by rw [hla.out]; simp; omega) (by rw [size_al]; omega) ?_; intro v5 w5 ho5 hb5 hs5 _ _; rw [List.nil_append] at ho5; obtain ⟨A5, c5, rfl, hI5⟩ := own_i8 ho5 hlen.out.1; have hB5 : Below wk.heap.size wk w5 := ((below_al (Below.refl wk.heap.size wk) _).trans hb5); clear ho5 hb5 hs5; have K5 := rzone_any la A5 c5 n deg w5 hI5 hlen.out.1)
        | (go_at_call 8; (with_reducible refine K5.mono ?_); rintro e w6 ⟨rfl, hd6⟩))
      have hB6 : Below wk.heap.size wk w6 := hB5.trans (hd6.below _)
      have hs6 := Lib.hid hB6.size
      have K7 := zone_any la (some ⟨ga, 0, none⟩) ca n deg w6 (hIa.out w6 hB6) hlen.out.1
      clear K5 hB5 hI5 hI0 hd6
      go_upto_region 8 with (go_at_call 9; (with_reducible refine K7.mono ?_); rintro e w7 ⟨rfl, rfl⟩)
      clear K7
      have hJ6 := hIb.out w6 hB6
      go_upto_region 9 with (first
        | (at_builtin; refine wpList_app_any el31 rfl _ _ rfl rfl (Own.lit (w := w6) (base := w6.heap.size) (e := 26) (size := 1) (xs := []) #[] 0 rfl rfl (by simp) (Nat.le_refl _) (by decide)) (some ⟨gb, 0, none⟩) cb m hlb.out.symm rfl (fun e => by cases e) (Sl.alloc hJ6 _) (one_brow lb) (by rw [hlb.out]; simp; omega) (by rw [size_al]; omega) ?_; intro v8 w8 ho8 hb8 hs8 _ _; rw [List.nil_append] at ho8; obtain ⟨A8, c8, rfl, hI8⟩ := own_i8 ho8 hlen.out.2.1; have hB8 : Below w6.heap.size w6 w8 := ((below_al (Below.refl w6.heap.size w6) _).trans hb8); clear ho8 hb8 hs8; have K8 := rmed_any lb A8 c8 m w8 hI8 hlen.out.2.1 hlen.out.2.2.2)
        | (go_at_call 10; (with_reducible refine K8.mono ?_); rintro e w9 ⟨rfl, rfl⟩))
      have hB8' : Below wk.heap.size wk w8 := hB6.trans (hB8.mono hs6.out)
      have hs8 := Lib.hid hB8'.size
      have K9 := med_any lb (some ⟨gb, 0, none⟩) cb m w8 (hIb.out w8 hB8') hlen.out.2.1
      clear K8 hI8 hB8 hJ6 hB6
      go_upto_region 10 with (go_at_call 11; (with_reducible refine K9.mono ?_); rintro e w9 ⟨rfl, hb9⟩)
      have hB9 : Below wk.heap.size wk w9 := hB8'.trans (hb9.mono hs8.out)
      have hya9 := hya.out.below hB9
      have hyb9 := hyb.out.below hB9
      have hBw9 := Lib.hid (hBw.out.trans (hB9.mono hBw.out.size))
      have ya := own_mark hya9 hlen.out.1
      have yb := own_mark hyb9 hlen.out.2.1
      have q1 : ((zonep la deg).1 != (zonep la deg).1) = false := by simp
      have q2 : ((zonep la deg).2 != (zonep la deg).2) = false := by simp
      have q3 : ((med lb).1 != (med lb).1) = false := by simp
      have q4 : ((med lb).2 != (med lb).2) = false := by simp
      have t1 : (n : Int) < ((n + 1 : Nat) : Int) := by omega
      have t2 : (m : Int) < ((m + 1 : Nat) : Int) := by omega
      generalize (zonep la deg).1 = z1 at *
      generalize (zonep la deg).2 = z2 at *
      generalize (med lb).1 = z3 at *
      generalize (med lb).2 = z4 at *
      replace hya9 := Lib.hid hya9
      replace hyb9 := Lib.hid hyb9
      clear K9 hb9 hB9 hB8' hIa hIb hla hlb hya hyb hBw hs6 hs8
      go_upto_region 13 with fail
      have yA := hya9
      have yB := hyb9
      have yW := hBw9
      clear hya9 hyb9 hBw9 ya yb q1 q2 q3 q4 t1 t2
      go_loopw [18] (fun s18 wr => ∃ (i : Nat) (li : List Int), i ≤ n ∧ s18 = .int .i64 i ∧ Hid (li.length = n ∧ Rng8 li) ∧ Hid (∀ j, i ≤ j → li[j]? = la[j]?) ∧ Hid (Own wr w.heap.size 26 1 ((li ++ [77]).map brow) (.slice (some ⟨ga, 0, none⟩) (n + 1) ca)) ∧ Hid (Own wr w2.heap.size 26 1 ((lb ++ [77]).map brow) (.slice (some ⟨gb, 0, none⟩) (m + 1) cb)) ∧ Hid (Below w.heap.size w wr)) (fun s18 _ => n - (intOf s18).toNat)
      case atStart => exact ⟨0, la, by omega, rfl, Lib.hid ⟨hlen.out.1, hlen.out.2.2.1⟩, Lib.hid (fun _ _ => rfl), yA, yB, yW⟩
      case round =>
        clear yA yB yW
        obtain ⟨i, li, hi, rfl, hli, heq, yA, yB, yW⟩ := hrel
        obtain ⟨wi, rfl⟩ : ∃ x : World, x = wr := ⟨_, rfl⟩
        by_cases hin : i = n
        · obtain ⟨la1, hla1e⟩ : ∃ z, z = li := ⟨_, rfl⟩
          have hla1 : Hid (la1.length = n ∧ Rng8 la1) := by rw [hla1e]; exact hli
          rw [← hla1e] at yA
          clear hli heq hla1e
          have hin' := hin.symm
          subst hin'
          go_upto_region 19 with fail
          go_loopw [19] (fun s18 wr => ∃ (i : Nat) (li : List Int), i ≤ m ∧ s18 = .int .i64 i ∧ Hid (li.length = m ∧ Rng8 li) ∧ Hid (∀ j, i ≤ j → li[j]? = lb[j]?) ∧ Hid (Own wr w.heap.size 26 1 ((la1 ++ [77]).map brow) (.slice (some ⟨ga, 0, none⟩) (n + 1) ca)) ∧ Hid (Own wr w2.heap.size 26 1 ((li ++ [77]).map brow) (.slice (some ⟨gb, 0, none⟩) (m + 1) cb)) ∧ Hid (Below w.heap.size w wr)) (fun s18 _ => m - (intOf s18).toNat)
          case atStart => exact ⟨0, lb, by omega, rfl, Lib.hid ⟨hlen.out.2.1, hlen.out.2.2.2⟩, Lib.hid (fun _ _ => rfl), yA, yB, yW⟩
          case round =>
            clear yA yB yW
            obtain ⟨i, li, hi, rfl, hli, heq, yA, yB, yW⟩ := hrel
            obtain ⟨wi, rfl⟩ : ∃ x : World, x = wr := ⟨_, rfl⟩
            by_cases hin : i = m
            · have hli' := Lib.hid hli.out
              clear heq
              have hin' := hin.symm
              subst hin'
              go_wp2
              go_roundw
              case rel => exact ⟨k + 1, la1, li, by omega, by go_num, Lib.hid ⟨hla1.out.1, hli.out.1, hla1.out.2, hli.out.2⟩, Lib.hid (fun e => absurd e (by omega)), yA, yB, yW⟩
              case measure => first | (simp [intOf]; done) | (simp [intOf]; omega)
            · have hlt : i < m := by omega
              have hlt' : (i : Int) < (m : Int) := by omega
              have hil : i < li.length := by rw [hli.out.1]; exact hlt
              have cg := Lib.hid fun (W : World) (q : Drawn wi W) => own_get (yB.out.drawn q) hli.out.1 hil
              have cg0 := (cg.out wi (Drawn.refl _)).1
              have hput := Lib.hid fun (W : World) (q : Drawn wi W) (v : Int) => own_put (yB.out.drawn q) hli.out.1 hlt v
              have hoth := Lib.hid fun (W : World) (q : Drawn wi W) (v : Int) => (yA.out.drawn q).keep (w' := W.setCell ⟨gb, i, none⟩ (.int .i8 v)) (fun b e => by cases e; exact Below.heap_setCell _ _ _ _ (by have := hgab.out; show ga ≠ gb; omega))
              have hbel := Lib.hid fun (W : World) (q : Drawn wi W) (v : Int) => ((yW.out.trans (q.below _)).setCell (p := ⟨gb, i, none⟩) (by have := hgab.out; show w.heap.size ≤ gb; omega) (.int .i8 v))
              have hrest := Lib.hid fun (v : Int) => (fun j (hj : i + 1 ≤ j) => by rw [List.getElem?_set_ne (by omega)]; exact heq.out j (by omega) : ∀ j, i + 1 ≤ j → (li.set i v)[j]? = lb[j]?)
              have hrng := Lib.hid fun (x : Int) => And.intro (show (li.set i (IntKind.i8.wrap x)).length = m by rw [List.length_set]; exact hli.out.1) (hli.out.2.set i x)
              have hbs := Lib.hid (yW.out.size)
              have hxx := Lib.hid fun (q : k = 0) => (by
                have e1 := heq.out i (Nat.le_refl _)
                have e2 := (hk0.out q).2
                have hmk : i < l.length := by rw [hm'.out]; exact hlt
                rw [List.getElem?_eq_getElem hil, e2, List.getElem?_eq_getElem hmk] at e1
                obtain ⟨b, o, e, _, hc⟩ := (hbd.out wi yW.out).at_ hmk
                exact ⟨b, o, e, by rw [hc, Option.some.inj e1]⟩ : ∃ b o, A2 = some ⟨b, o, none⟩ ∧ wi.cell? ⟨b, o + i, none⟩ = some (.int .i8 li[i]))
              have hxr := hli.out.2 _ (List.getElem_mem hil)
              generalize li[i] = x at *
              have hxne : (x != x) = false := by simp
              go_upto_region 21 with fail
              go_cut [151] from 139 to 150 (fun s wx => s = .bool false ∧ Drawn wi wx)
              case first =>
                clear hput hoth hbel hrest hrng cg yA yB yW
                by_cases hkz : k = 0
                · obtain ⟨b, o, rfl, cm⟩ := hxx.out hkz
                  subst hkz
                  clear hxx
                  have g0 : (((0 : Nat) : Int) == 0) = true := rfl
                  go_big_quiet (fail)
                  go_wp2
                  go_meet
                  case rel => exact ⟨rfl, _, rfl⟩
                · have hkz' : ((k : Int) == 0) = false := by simp; omega
                  clear hxx
                  go_big_quiet (fail)
                  go_wp2
                  go_meet
                  case rel => exact ⟨rfl, _, rfl⟩
              case rest =>
                obtain ⟨rfl, hd2⟩ := hcut
                obtain ⟨wu, rfl⟩ : ∃ x : World, x = wc := ⟨_, rfl⟩
                obtain ⟨cu, fu⟩ := cg.out wu hd2
                have hput2 := Lib.hid (hput.out wu hd2)
                have hoth2 := Lib.hid (hoth.out wu hd2)
                have hbel2 := Lib.hid (hbel.out wu hd2)
                clear hput hoth hbel cg hxx cg0 hd2 yA yB yW
                go_wp2
                go_roundw
                case rel => exact ⟨i + 1, li.set i _, by omega, by go_num, Lib.hid (hrng.out _), Lib.hid (hrest.out _), Lib.hid (hoth2.out _), Lib.hid (hput2.out _), Lib.hid (hbel2.out _)⟩
                case measure => first | (simp [intOf]; done) | (simp [intOf]; omega)
        · have hlt : i < n := by omega
          have hlt' : (i : Int) < (n : Int) := by omega
          have hil : i < li.length := by rw [hli.out.1]; exact hlt
          have cg := Lib.hid fun (W : World) (q : Drawn wi W) => own_get (yA.out.drawn q) hli.out.1 hil
          have cg0 := (cg.out wi (Drawn.refl _)).1
          have hput := Lib.hid fun (W : World) (q : Drawn wi W) (v : Int) => own_put (yA.out.drawn q) hli.out.1 hlt v
          have hoth := Lib.hid fun (W : World) (q : Drawn wi W) (v : Int) => (yB.out.drawn q).keep (w' := W.setCell ⟨ga, i, none⟩ (.int .i8 v)) (fun b e => by cases e; exact Below.heap_setCell _ _ _ _ (by have := hgab.out; show gb ≠ ga; omega))
          have hbel := Lib.hid fun (W : World) (q : Drawn wi W) (v : Int) => ((yW.out.trans (q.below _)).setCell (p := ⟨ga, i, none⟩) (by have := hgab.out; show w.heap.size ≤ ga; omega) (.int .i8 v))
          have hrest := Lib.hid fun (v : Int) => (fun j (hj : i + 1 ≤ j) => by rw [List.getElem?_set_ne (by omega)]; exact heq.out j (by omega) : ∀ j, i + 1 ≤ j → (li.set i v)[j]? = la[j]?)
          have hrng := Lib.hid fun (x : Int) => And.intro (show (li.set i (IntKind.i8.wrap x)).length = n by rw [List.length_set]; exact hli.out.1) (hli.out.2.set i x)
          have hbs := Lib.hid (yW.out.size)
          have hxx := Lib.hid fun (q : k = 0) => (by
            have e1 := heq.out i (Nat.le_refl _)
            have e2 := (hk0.out q).1
            have hmk : i < mk.length := by rw [hn'.out]; exact hlt
            rw [List.getElem?_eq_getElem hil, e2, List.getElem?_eq_getElem hmk] at e1
            obtain ⟨b, o, e, _, hc⟩ := (hnd.out wi yW.out).at_ hmk
            exact ⟨b, o, e, by rw [hc, Option.some.inj e1]⟩ : ∃ b o, A = some ⟨b, o, none⟩ ∧ wi.cell? ⟨b, o + i, none⟩ = some (.int .i8 li[i]))
          have hxr := hli.out.2 _ (List.getElem_mem hil)
          generalize li[i] = x at *
          have hxne : (x != x) = false := by simp
          go_upto_region 15 with fail
          go_cut [124] from 112 to 123 (fun s wx => s = .bool false ∧ Drawn wi wx)
          case first =>
            clear hput hoth hbel hrest hrng cg yA yB yW
            by_cases hkz : k = 0
            · obtain ⟨b, o, rfl, cm⟩ := hxx.out hkz
              subst hkz
              clear hxx
              have g0 : (((0 : Nat) : Int) == 0) = true := rfl
              go_big_quiet (fail)
              go_wp2
              go_meet
              case rel => exact ⟨rfl, _, rfl⟩
            · have hkz' : ((k : Int) == 0) = false := by simp; omega
              clear hxx
              go_big_quiet (fail)
              go_wp2
              go_meet
              case rel => exact ⟨rfl, _, rfl⟩
          case rest =>
            obtain ⟨rfl, hd2⟩ := hcut
            obtain ⟨wu, rfl⟩ : ∃ x : World, x = wc := ⟨_, rfl⟩
            obtain ⟨cu, fu⟩ := cg.out wu hd2
            have hput2 := Lib.hid (hput.out wu hd2)
            have hoth2 := Lib.hid (hoth.out wu hd2)
            have hbel2 := Lib.hid (hbel.out wu hd2)
            clear hput hoth hbel cg hxx cg0 hd2 yA yB yW
            go_wp2
            go_roundw
            case rel => exact ⟨i + 1, li.set i _, by omega, by go_num, Lib.hid (hrng.out _), Lib.hid (hrest.out _), Lib.hid (hput2.out _), Lib.hid (hoth2.out _), Lib.hid (hbel2.out _)⟩
            case measure => first | (simp [intOf]; done) | (simp [intOf]; omega)
end Go.Proofs.Ytgpapbpkcggolaa
