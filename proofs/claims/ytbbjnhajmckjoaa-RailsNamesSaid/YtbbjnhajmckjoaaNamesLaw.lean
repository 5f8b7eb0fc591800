/- Rails: RailsNames, walked. -/
import Derived.Test.YtbbjnhajmckjoaaRampLaw
namespace Go.Proofs.Ytbbjnhajmckjoaa
open Go.RowKit Go.BigFrame flt Ieee

theorem n_rn1 : rn 1 1024 1 = 1024 := by decide +kernel
theorem n_rn2 : rn 1 1025 1 = 0 := by decide +kernel
theorem n_rn3 : rn 0 1 1 = 0 := by decide +kernel
theorem n_lag (zs : List Nat) (h : zs.map cls = (if lagno (cls 4602678819172646912) 3 then [] else lagl (cls 4602678819172646912) (cls 0) ([4620693217682128896, 4620693217682128896, 9221120237041090561].map cls))) : zs = [4616189618054758400, 4618441417868443648, 4618441417868443648] := by
  have e : (if lagno (cls 4602678819172646912) 3 then [] else lagl (cls 4602678819172646912) (cls 0) ([4620693217682128896, 4620693217682128896, 9221120237041090561].map cls)) = [some 4616189618054758400, some 4618441417868443648, some 4618441417868443648] := by decide +kernel
  rw [e] at h
  have hl : zs.length = 3 := by have := congrArg List.length h; simpa using this
  match zs, hl, h with
  | [a, b, c], _, h =>
    simp only [List.map_cons, List.map_nil, List.cons.injEq, and_true] at h
    rw [(flt.cls_some h.1).1, (flt.cls_some h.2.1).1, (flt.cls_some h.2.2).1]
theorem n_at (z : Nat) (h : cls z = atc (cls 0) (cls 4621819117588971520) (cls 13830554455654793216) (cls 4607182418800017408)) : ∀ y, (FloatKind.f64.format.order z y != some .eq) = true := fun y => by
  have e : atc (cls 0) (cls 4621819117588971520) (cls 13830554455654793216) (cls 4607182418800017408) = none := by decide +kernel
  rw [e] at h
  have := order_cls z y
  rw [show FloatKind.f64.format.order z y = double.order z y from rfl, this, h]
  rfl
theorem n_s1 (z : Nat) (h : cls z = stc (cls 4607182418800017408) (cls 4607182418800017408) (cls 0)) : (FloatKind.f64.format.order z 0 == some .eq) = true := by
  have e : stc (cls 4607182418800017408) (cls 4607182418800017408) (cls 0) = some 0 := by decide +kernel
  rw [e] at h
  have := order_cls z 0
  rw [show FloatKind.f64.format.order z 0 = double.order z 0 from rfl, this, h]
  decide +kernel
theorem n_s2 (z : Nat) (h : cls z = stc (cls 0) (cls 4607182418800017408) (cls 0)) : (FloatKind.f64.format.order z 9218868437227405311 == some .gt) = true := by
  have e : stc (cls 0) (cls 4607182418800017408) (cls 0) = some 9218868437227405312 := by decide +kernel
  rw [e] at h
  have := order_cls z 9218868437227405311
  rw [show FloatKind.f64.format.order z 9218868437227405311 = double.order z 9218868437227405311 from rfl, this, h]
  decide +kernel
theorem n_o1 : (FloatKind.f64.format.order 4616189618054758400 4616189618054758400 == some .eq) = true := by decide +kernel
theorem n_o2 : (FloatKind.f64.format.order 4618441417868443648 4618441417868443648 == some .eq) = true := by decide +kernel
theorem lit_fls {X : World} {g : Nat} {T : TypeId} (l : List Nat) (h : X.heap[g]? = some (.cells (l.map (Value.float .f64)).toArray T)) (hn : l.length ≤ 1000) : Fls X (some ⟨g, 0, none⟩) l := by
  refine ⟨by rw [List.length_map]; omega, fun r hr => ?_, fun hn => ⟨g, 0, rfl, trivial, heap_lt h, fun i r hr f u hu => ?_⟩⟩
  · obtain ⟨q, _, rfl⟩ := List.mem_map.1 hr; rfl
  · rw [List.getElem?_map] at hr
    cases hq : l[i]? with
    | none => rw [hq] at hr; cases hr
    | some q =>
      rw [hq] at hr
      obtain rfl := Option.some.inj hr
      match f, hu with
      | 0, hu =>
        have : u = .float .f64 q := by simpa [flrow] using hu.symm
        subst this
        have h1 : i * 1 + 0 = i := by omega
        simp only [World.cell?, h, Nat.zero_add]
        rw [h1]
        simp [hq]
      | f + 1, hu => simp [flrow] at hu
set_option maxHeartbeats 8000000 in
set_option maxRecDepth 100000 in
theorem names_walk (w : World) : Calls Try.prog 9 #[] w fun e w' => e = .returned (.bool true) ∧ Below w.heap.size w w' := by
  have KL1 := fun X => ladder_any 1 1024 1 X
  have KL2 := fun X => ladder_any 1 1025 1 X
  have KN := fun X => new_no n_rn3 X
  have KG : ∀ (X : World) (g : Nat), X.heap[g]? = some (.cells #[.float .f64 4620693217682128896, .float .f64 4620693217682128896, .float .f64 9221120237041090561] 86) → Calls Try.prog 40 #[.float .f64 0, .slice (some ⟨g, 0, none⟩) 3 3, .float .f64 4602678819172646912] X fun e w' => ∃ x, e = .returned (.tuple #[x, .int .i64 0]) ∧ Own w' X.heap.size 86 1 ([4616189618054758400, 4618441417868443648, 4618441417868443648].map flrow) x ∧ Below X.heap.size X w' := fun X g h => by
    have := lag_any 0 4602678819172646912 [4620693217682128896, 4620693217682128896, 9221120237041090561] (some ⟨g, 0, none⟩) 3 X (lit_fls _ h (by simp))
    refine this.mono ?_
    rintro e w' ⟨x, zs, he, hz, ho, hb⟩
    have h0 : lagno (cls 4602678819172646912) 3 = false := by decide +kernel
    have hz' := n_lag zs hz
    subst hz'
    refine ⟨x, ?_, ho, hb⟩
    rw [he, show lagno (cls 4602678819172646912) [4620693217682128896, 4620693217682128896, 9221120237041090561].length = false from h0]
    rfl
  have KF := fun X => nan_lit X
  have KAt := fun (X : World) => at_any 0 4621819117588971520 13830554455654793216 4607182418800017408 X
  have KS1 := fun (X : World) => settle_any 4607182418800017408 4607182418800017408 0 X
  have KS2 := fun (X : World) => settle_any 0 4607182418800017408 0 X
  have KW := fun X => works_any X
  rw [n_rn1] at KL1
  rw [n_rn2] at KL2
  have o1 := n_o1
  have o2 := n_o2
  go_enter Try.func9, Try.ntmps9
  go_upto_region 2 with (go_at_call 18; (with_reducible refine (KL1 _).mono ?_); rintro e w1 ⟨v1, rfl, h1, b1⟩)
  obtain ⟨A1, c1, rfl, -⟩ := h1.sl
  rw [List.length_map, ladd_len]
  go_upto_region 3 with (go_at_call 18; (with_reducible refine (KL2 _).mono ?_); rintro e w2 ⟨v2, rfl, h2, b2⟩)
  obtain ⟨A2, c2, rfl, -⟩ := h2.sl
  rw [List.length_map, ladd_len]
  have k2 := b1.trans (b2.mono b1.size)
  clear h1 h2 b1 b2 KL1 KL2
  go_upto_region 4 with (go_at_call 23; (with_reducible refine (KN _).mono ?_); rintro e w3 ⟨rfl, b3⟩)
  have k3 := k2.trans (b3.mono k2.size)
  clear k2 b3 KN
  go_upto_region 5 with (first
    | (go_at_call 42; (with_reducible refine (KF _).mono ?_); rintro e w4 ⟨rfl, hw⟩; obtain rfl := hw.symm)
    | (go_at_call 40; (with_reducible refine (KG _ _ (heap_alloc_at _ _)).mono ?_); rintro e w5 ⟨v5, rfl, h5, b5⟩))
  have k5 : Below w.heap.size w w5 := (below_al k3 _).trans (b5.mono (below_al k3 _).size)
  obtain ⟨A5, c5, rfl, -, -⟩ := h5.fls
  have h5' : Own w5 _ 86 1 ([4616189618054758400, 4618441417868443648, 4618441417868443648].map flrow) (.slice A5 3 c5) := h5
  obtain ⟨g, e0, -, -, y0, -, -⟩ := fls_put h5' rfl (show 0 < 3 by decide)
  obtain ⟨g1, e1, -, -, y1, -, -⟩ := fls_put h5' rfl (show 1 < 3 by decide)
  obtain ⟨g2, e2, -, -, y2, -, -⟩ := fls_put h5' rfl (show 2 < 3 by decide)
  subst e0
  obtain rfl : g = g1 := by simpa using e1
  obtain rfl : g = g2 := by simpa using e2
  simp only [List.getElem_cons_zero, List.getElem_cons_succ] at y0 y1 y2
  simp only [List.length_cons, List.length_nil]
  clear h5 h5' e1 e2 b5 k3 KG KF
  replace k5 := Lib.hid k5
  go_wp2_with (first
    | (go_at_call 36; (with_reducible refine (KAt _).mono ?_); rintro e w6 ⟨z1, rfl, hz, hb6⟩; have hn1 := n_at z1 hz; clear hz; replace k5 := Lib.hid (k5.out.trans (hb6.mono k5.out.size)); clear hb6)
    | (go_at_call 38; (with_reducible refine (KS1 _).mono ?_); rintro e w7 ⟨z2, rfl, hz, hb7⟩; have hn2 := n_s1 z2 hz; clear hz; replace k5 := Lib.hid (k5.out.trans (hb7.mono k5.out.size)); clear hb7)
    | (go_at_call 38; (with_reducible refine (KS2 _).mono ?_); rintro e w8 ⟨z3, rfl, hz, hb8⟩; have hn3 := n_s2 z3 hz; clear hz; replace k5 := Lib.hid (k5.out.trans (hb8.mono k5.out.size)); clear hb8)
    | (go_at_call 32; (with_reducible refine (KW _).mono ?_); rintro e w9 ⟨rfl, hb9⟩; replace k5 := Lib.hid (k5.out.trans (hb9.mono k5.out.size))))
  go_ret
  exact ⟨rfl, k5.out⟩
end Go.Proofs.Ytbbjnhajmckjoaa
