/- Idle: IdleRaces, walked. -/
import Derived.Test.YtgnhddnhcfmipaaRc12
namespace Go.Proofs.Ytgnhddnhcfmipaa
open Go.RowKit Go.BigFrame

theorem own_pre {w : World} {B : Nat} {e : TypeId} {size g m d : Nat} {xs : List (List Value)} {r : List Value} (h : Own w B e size (xs ++ [r]) (.slice (some ⟨g, 0, none⟩) m d)) : Sl (fun _ => True) w (some ⟨g, 0, none⟩) size xs := by
  obtain ⟨A, c, e', hs⟩ := h.sl
  have e1 : some (⟨g, 0, none⟩ : Addr) = A := (Value.slice.inj e').1
  rw [← e1] at hs
  have := (hs.take xs.length).mono (S' := fun _ => True) fun _ _ => trivial
  rw [List.take_left'] at this
  · exact this
  · rfl
theorem Own.row2 {w : World} {base : Nat} {e : TypeId} {rs : List (List Value)} {A : Option Addr} {n c : Nat} (h : Own w base e 2 rs (.slice A n c)) (hn : rs.length = n) {k : Nat} (hk : k < n) :
    ∃ g, A = some ⟨g, 0, none⟩ ∧ base ≤ g ∧ g < w.heap.size ∧ w.there g (k * 2) 2 ∧
      ∀ x y, Own (w.setCells g (k * 2) [x, y]) base e 2 (rs.set k [x, y]) (.slice A n c) := by
  subst hn
  obtain ⟨g, cap, hv, hg1, hg2, hg3⟩ := h.form (by omega)
  simp only [Value.slice.injEq, true_and] at hv
  obtain ⟨rfl, rfl⟩ := hv
  have hl := h.2 _ (List.getElem_mem hk)
  match hm : rs[k], hl with
  | [u0, u1], _ =>
    have c0 := h.cell hk (f := 0) (u := u0) (by rw [hm]; rfl)
    have c1 := h.cell hk (f := 1) (u := u1) (by rw [hm]; rfl)
    refine ⟨g, rfl, hg1, hg2, fun j hj => ?_, fun x y => ?_⟩
    · match j, hj with
      | 0, _ => exact ⟨by rw [c0.1]; rfl, c0.2⟩
      | 1, _ => exact ⟨by rw [c1.1]; rfl, c1.2⟩
    · have h1 := h.set hk (f := 0) (by decide) x
      rw [hm] at h1
      have hk' : k < (rs.set k ([u0, u1].set 0 x)).length := by rw [List.length_set]; exact hk
      have hl' : (rs.set k ([u0, u1].set 0 x)).length = rs.length := List.length_set
      have h2 : Own (w.setCell ⟨g, k * 2, none⟩ x) base e 2 (rs.set k ([u0, u1].set 0 x)) (.slice (some ⟨g, 0, none⟩) (rs.set k ([u0, u1].set 0 x)).length c) := by rw [hl']; exact h1
      have h3 := h2.set hk' (f := 1) (by decide) y
      rw [List.getElem_set_self, List.set_set, hl'] at h3
      exact h3
theorem Fr.grown {H : Nat} {S : Nat → Prop} {w w1 w' : World} {row : Option Nat} (h : Fr H S w w1) (hH : H ≤ w1.heap.size) (hg : w1.grownBy w' row) (hr : ∀ k, row = some k → k < H → S k) : Fr H S w w' :=
  ⟨h.g.grown hg (Nat.zero_le _) (fun _ _ => Nat.zero_le _), fun b hb hn => (hg.block b (by omega) (fun e => hn (hr b e.symm hb))).trans (h.k b hb hn)⟩
theorem Fr.cells2 {H : Nat} {S : Nat → Prop} {w w' : World} (h : Fr H S w w') {g : Nat} (o : Nat) (hg : S g) (x y : Value) : Fr H S w (w'.setCells g o [x, y]) :=
  (h.set (p := ⟨g, o, none⟩) (fun _ => hg) x).set (p := ⟨g, o + 1, none⟩) (fun _ => hg) y
theorem own_cap' {w : World} {B : Nat} {e : TypeId} {size n d : Nat} {A : Option Addr} {xs : List (List Value)} (h : Own w B e size xs (.slice A n d)) : n ≤ d := by
  rcases Nat.eq_zero_or_pos xs.length with q | q
  · obtain ⟨A', c, e', _⟩ := h.sl
    have := (Value.slice.inj e').2.1
    omega
  · obtain ⟨g, c, e', _, _, h3⟩ := h.form q
    obtain ⟨_, e2, e3⟩ := Value.slice.inj e'
    omega
theorem wrap_n {n : Nat} (h : n * 16 ≤ 140737488351232) : IntKind.i64.wrap ((n : Int) + 1) = (n : Int) + 1 := by
  rw [IntKind.wrap_i64]
  omega
/-- the lists given, the two results, the two views -/
structure Rst (w W : World) (cs : List (Int × Int)) (sch : List Int) (ls : List Pa) (wv : VW) (A B : Option Addr) (n ns g d gs ds B1 B2 p1 p2 : Nat) (v1 v2 : Value) : Prop where
  c : Cls W A cs
  s : Ints W B sch
  og : Own W w.heap.size 58 2 (cs.map crow ++ [nine]) (.slice (some ⟨g, 0, none⟩) (n + 1) d)
  os : Own W w.heap.size 3 1 (sch.map irow ++ [[.int .i64 77]]) (.slice (some ⟨gs, 0, none⟩) (ns + 1) ds)
  o1 : Own W B1 60 2 (ls.map qrow) v1
  o2 : Own W B2 60 2 (ls.map qrow) v2
  l1 : ∀ b, v1.ownBlock = some b → b < B2
  lg : g < B1
  ls : gs < B1
  h1 : W.heap[p1]? = some (.cells wv.arr 38)
  h2 : W.heap[p2]? = some (.cells wv.arr 38)
  b : Below w.heap.size w W
theorem Rst.below {w W W' : World} {cs : List (Int × Int)} {sch : List Int} {ls : List Pa} {wv : VW} {A B : Option Addr} {n ns g d gs ds B1 B2 p1 p2 : Nat} {v1 v2 : Value} (h : Rst w W cs sch ls wv A B n ns g d gs ds B1 B2 p1 p2 v1 v2) (q : Below W.heap.size W W') : Rst w W' cs sch ls wv A B n ns g d gs ds B1 B2 p1 p2 v1 v2 :=
  ⟨h.c.below q, Ints.below h.s q, h.og.below q, h.os.below q, h.o1.below q, h.o2.below q, h.l1, h.lg, h.ls, (q.block _ (heap_lt h.h1)).trans h.h1, (q.block _ (heap_lt h.h2)).trans h.h2, h.b.trans (q.mono h.b.size)⟩
set_option maxHeartbeats 8000000 in
set_option maxRecDepth 100000 in
theorem races_walk (D : Int) (cs : List (Int × Int)) (sch : List Int) (A B : Option Addr) (a b : Nat) (w : World) (hc : Cls w A cs) (hs : Ints w B sch) (hrc : cs.length * 16 ≤ 140737488351232) (hrs : sch.length * 8 ≤ 140737488351232) (hzB : B = none → b = 0) :
    Calls Try.prog 4 #[.int .i64 D, .slice A cs.length a, .slice B sch.length b] w fun e w' => e = .returned (.bool true) ∧ Below w.heap.size w w' := by
  obtain ⟨ls, wv, ec, hout⟩ := out_any D cs sch
  obtain ⟨n, hn⟩ : ∃ n, cs.length = n := ⟨_, rfl⟩
  obtain ⟨ns, hns⟩ : ∃ ns, sch.length = ns := ⟨_, rfl⟩
  have KC := calls_any cs n A a w hc hn hrc
  have hsl : Hid (ns = (sch.map irow).length) := Lib.hid (by rw [List.length_map]; exact hns.symm)
  have hap : Hid ((sch.map irow).length = ns) := Lib.hid (by rw [List.length_map]; exact hns)
  rw [hn] at hrc ⊢
  rw [hns] at hrs ⊢
  replace hn := Lib.hid hn
  replace hns := Lib.hid hns
  replace hout := Lib.hid hout
  go_enter Try.func4, Try.ntmps4
  go_upto_region 3 with (first
    | (go_at_call 19; (with_reducible refine (KC).mono ?_); rintro e w1 ⟨g, d, rfl, hO1, hb1⟩; have hs1 := Ints.below hs hb1)
    | (at_builtin; refine wpList_app_any el42 rfl _ _ rfl rfl (Own.lit (w := w1) (base := w1.heap.size) (e := 3) (size := 1) (xs := []) #[] 0 rfl rfl (by simp) (Nat.le_refl _) (by decide)) B b ns hsl.out rfl hzB (Sl.alloc hs1 _) (one_ints sch) (by rw [hap.out]; simp; omega) (by rw [size_al]; omega) ?_; intro vp w2 hx hb2 hs2 _ _)
    | (at_builtin; refine wpList_push el42 rfl _ _ rfl rfl (hx.alloc _) [.int .i64 77] w2.heap.size _ rfl (heap_alloc_at _ _) rfl (by simp [Value.oneCell']) (by simp [hap.out]; omega) (by rw [size_al] at *; omega) ?_; intro vs w3 hy hb3 hs3 _ _; obtain ⟨gs, ds, rfl, hc1, hc2⟩ := own_cap hy; simp only [List.nil_append] at hy hc1 ⊢; rw [hap.out] at hy hc1 ⊢))
  unfold maxLen at hc2
  have hbw1 : Below w1.heap.size w1 w2 := ((Below.refl _ _).alloc (Nat.le_refl _) _).trans hb2
  rw [size_al] at hs2 hs3
  have h12 : w1.heap.size ≤ w2.heap.size := by omega
  have hbw2 : Below w1.heap.size w1 w3 := (hbw1.alloc h12 _).trans hb3
  have hw01 := hb1.size
  have hb3w : Below w.heap.size w w3 := hb1.trans (hbw2.mono hw01)
  have hc3 := hc.below hb3w
  have hs3' := Ints.below hs hb3w
  have hO3 := hO1.below hbw2
  have hy3 := hy.mono hw01
  have hcg : Cls w3 (some ⟨g, 0, none⟩) cs := own_pre hO3
  have hig : Ints w3 (some ⟨gs, 0, none⟩) sch := own_pre hy3
  have hgl : g < w3.heap.size := (hO3.lt g rfl).2
  have hgsl : gs < w3.heap.size := (hy3.lt gs rfl).2
  have R1 := hout.out.race n ns (some ⟨g, 0, none⟩) (some ⟨gs, 0, none⟩) d ds w3 hcg hig hn.out hns.out (by omega)
  have R2 := fun X (q : Below w3.heap.size w3 X) => hout.out.race n ns (some ⟨g, 0, none⟩) (some ⟨gs, 0, none⟩) d ds X (hcg.below q) (Ints.below hig q) hn.out hns.out (by omega)
  replace R2 := Lib.hid R2
  clear KC hb1 hb2 hb3 hs1 hx hy hO1 hbw1 hbw2 h12 hs2 hs3 hw01 hcg hig hc hs
  go_upto_region 4 with (first
    | (go_at_call 20; (with_reducible refine (R1).mono ?_); rintro e w4 ⟨v1, rfl, ho1, hb4⟩)
    | (refine wpList_store_row rfl 38 _ _ rfl w4.heap.size wv.arr rfl rfl 38 _ (heap_alloc_at _ _) (by kernel_rfl) (by kernel_rfl) (by kernel_rfl) ?_))
  rw [setRow_alloc _ _ _ _ _ rfl]
  have hx5 := heap_alloc_at w4 (.cells wv.arr 38)
  have hd5 : Below w4.heap.size w4 (w4.alloc (.cells wv.arr 38)) := below_al (Below.refl _ _) _
  have hz5 := size_al w4 (.cells wv.arr 38)
  have hsz4 := hb4.size
  generalize w4.alloc (.cells wv.arr 38) = w5 at *
  have hb5 : Below w3.heap.size w3 w5 := hb4.trans (hd5.mono hsz4)
  have ho15 := ho1.below hd5
  have hlv1 : ∀ b, v1.ownBlock = some b → b < w5.heap.size := fun b q => (ho15.lt b q).2
  have R3 := R2.out w5 hb5
  clear R1 R2 hb4 ho1 hd5
  replace hlv1 := Lib.hid hlv1
  go_upto_region 5 with (first
    | (go_at_call 20; (with_reducible refine (R3).mono ?_); rintro e w6 ⟨v2, rfl, ho2, hb6⟩)
    | (refine wpList_store_row rfl 38 _ _ rfl w6.heap.size wv.arr rfl rfl 38 _ (heap_alloc_at _ _) (by kernel_rfl) (by kernel_rfl) (by kernel_rfl) ?_))
  rw [setRow_alloc _ _ _ _ _ rfl]
  have hx7 := heap_alloc_at w6 (.cells wv.arr 38)
  have hd7 : Below w6.heap.size w6 (w6.alloc (.cells wv.arr 38)) := below_al (Below.refl _ _) _
  have hsz6 := hb6.size
  generalize w6.alloc (.cells wv.arr 38) = w7 at *
  have hb7 : Below w5.heap.size w5 w7 := hb6.trans (hd7.mono hsz6)
  have hz57 := Lib.hid hb7.size
  have hz37 := Lib.hid (Nat.le_trans hb5.size hb7.size)
  have hb37 : Below w3.heap.size w3 w7 := hb5.trans (hb7.mono hb5.size)
  have hT : Rst w w7 cs sch ls wv A B n ns g d gs ds w3.heap.size w5.heap.size w4.heap.size w6.heap.size v1 v2 :=
    ⟨hc3.below hb37, Ints.below hs3' hb37, (hO3.mono (Nat.le_refl _)).below hb37, hy3.below hb37, ho15.below hb7, ho2.below hd7, hlv1.out, hgl, hgsl, (hb7.block _ (by omega)).trans hx5, hx7, hb3w.trans (hb37.mono hb3w.size)⟩
  clear R3 hb6 ho2 hd7 hx7 hx5 hb7 hb37 ho15 hb5 hlv1 hc3 hs3' hO3 hy3 hb3w hgl hgsl hz5 hsz4 hsz6
  have KW := hout.out.wrong n A a w7 hT.c hn.out
  have KB := begin_any D n A a w7 hrc
  have hee : (ec != ec) = false := by simp
  go_upto_if 65 with (first
    | (go_at_call 21; (with_reducible refine (KW).mono ?_); rintro e wq ⟨rfl, rfl⟩)
    | (go_at_call 22; (with_reducible refine (KB).mono ?_); rintro e w8 ⟨rb, g1, g2, g3, g4, rfl, hbb, hrb, ⟨hh1, hh2, hh3, hh4⟩, hb8, hgg⟩; replace hrb := Lib.hid hrb))
  have hRR := rr_begun hbb hrb.out hh1 hh2 hh3 hh4 hb8 hgg (by unfold maxLen; omega)
  have hT8 := hT.below hb8
  have hrl8 := heap_lt hbb
  clear KW KB hh1 hh2 hh3 hh4 hgg hee
  have hRun := hout.out.ref
  have hcw := hT.c
  have hsw := hT.s
  have hrb7 : w7.heap.size ≤ rb := by have := hrb.out; omega
  clear hrb
  replace hrb7 := Lib.hid hrb7
  go_cut [64, 65] from 64 to 71 (fun _ _ wc => ∃ vr, RF w7 wc rb ls wv vr)
  case first =>
    rcases hRun with ⟨rfl, hRun⟩ | ⟨rfl, rfl, rfl⟩
    · have K := hRun n ns a b rb g1 g2 g3 g4 A B w7 w8 hcw hsw hn.out hns.out (by omega) hRR
      clear hRun hbb hRR hT hT8 hcw hsw
      go_wp2_with (go_at_call 23; (with_reducible refine (K).mono ?_); rintro e w9 ⟨rfl, hF⟩)
      go_meet
      case rel => exact ⟨_, hF⟩
    · have y6 := cell_of_row _ _ 6 _ 56 (0, 0) hbb
      have f6 := frozen_row hbb 6
      have hb9 := heap_set hbb 6 (.slice none 0 0)
      have hd9 := hb8.setCell (p := ⟨rb, 6, none⟩) hrb7.out (.slice none 0 0)
      clear hRR hT hT8 hcw hsw
      go_wp2
      go_meet
      case rel => exact ⟨.slice none 0 0, Own.nil _ _ _ _, cell_of_row _ _ 2 _ 56 (0, 0) hb9, cell_of_row _ _ 3 _ 56 (0, 0) hb9, cell_of_row _ _ 4 _ 56 (0, 0) hb9, cell_of_row _ _ 5 _ 56 (0, 0) hb9, cell_of_row _ _ 6 _ 56 (0, 0) hb9, hd9, heap_lt hb9⟩
  obtain ⟨vr, hF⟩ := hcut
  obtain ⟨wi, rfl⟩ : ∃ x : World, x = wc := ⟨_, rfl⟩
  have hTi := hT.below hF.b
  clear hT8 hRR hbb hb8 hRun hcw hsw hrl8
  obtain ⟨m, hm⟩ : ∃ m, ls.length = m := ⟨_, rfl⟩
  obtain ⟨A1, d1, hv1, hq1⟩ := own_qs hTi.o1
  obtain ⟨A2, d2, hv2, hq2⟩ := own_qs hTi.o2
  obtain ⟨A3, d3, hv3, hq3⟩ := own_qs hF.o
  rw [hm] at hv1 hv2 hv3
  subst hv1 hv2 hv3
  have KR1 := fun (X : World) (q : Below wi.heap.size wi X) => ran_same ls m A1 A3 d1 d3 X (Sl.below' hq1 q) (Sl.below' hq3 q) hm
  have KR2 := fun (X : World) (q : Below wi.heap.size wi X) => ran_same ls m A2 A3 d2 d3 X (Sl.below' hq2 q) (Sl.below' hq3 q) hm
  have KV := fun (X : World) => alike_any wv X
  simp only [VW.arr] at KV
  have hln : (cs.map crow ++ [nine]).length = n + 1 := by rw [List.length_append, List.length_map, hn.out]; rfl
  have hlsn : (sch.map irow ++ [[Value.int .i64 77]]).length = ns + 1 := by rw [List.length_append, hap.out]; rfl
  have z9 := (hTi.og.cells hln (k := n) (Nat.lt_succ_self _) (r := nine) (by rw [List.getElem?_append_right (by rw [List.length_map, hn.out]; exact Nat.le_refl _), List.length_map, hn.out, Nat.sub_self]; rfl) (f := 1) (u := .int .i64 (-9)) rfl).1
  have z7 := (hTi.os.cells hlsn (k := ns) (Nat.lt_succ_self _) (r := [Value.int .i64 77]) (by rw [List.getElem?_append_right (by rw [hap.out]; exact Nat.le_refl _), hap.out, Nat.sub_self]; rfl) (f := 0) (u := Value.int .i64 77) rfl).1
  rw [Nat.mul_one, Nat.add_zero] at z7
  have hX : ∀ X : World, Below wi.heap.size wi X → X.cell? ⟨rb, 6, none⟩ = some (.slice A3 m d3) ∧ X.cell? ⟨rb, 2, none⟩ = some (.int .i64 wv.u) ∧ X.cell? ⟨rb, 3, none⟩ = some (.bool wv.a) ∧ X.cell? ⟨rb, 4, none⟩ = some (.int .i64 wv.s) ∧ X.cell? ⟨rb, 5, none⟩ = some (.int .i64 wv.k) ∧
      X.cell? ⟨w4.heap.size, 0, none⟩ = some (.int .i64 wv.u) ∧ X.cell? ⟨w4.heap.size, 1, none⟩ = some (.bool wv.a) ∧ X.cell? ⟨w4.heap.size, 2, none⟩ = some (.int .i64 wv.s) ∧ X.cell? ⟨w4.heap.size, 3, none⟩ = some (.int .i64 wv.k) ∧
      X.cell? ⟨w6.heap.size, 0, none⟩ = some (.int .i64 wv.u) ∧ X.cell? ⟨w6.heap.size, 1, none⟩ = some (.bool wv.a) ∧ X.cell? ⟨w6.heap.size, 2, none⟩ = some (.int .i64 wv.s) ∧ X.cell? ⟨w6.heap.size, 3, none⟩ = some (.int .i64 wv.k) ∧
      X.cell? ⟨gs, ns, none⟩ = some (.int .i64 77) ∧ X.cell? ⟨g, n * 2 + 1, none⟩ = some (.int .i64 (-9)) := fun X q => by
    have cb : ∀ j, X.cell? ⟨rb, j, none⟩ = wi.cell? ⟨rb, j, none⟩ := fun j => World.cell?_of_block (q.block rb hF.lr)
    have k1 := (q.block _ (heap_lt hTi.h1)).trans hTi.h1
    have k2 := (q.block _ (heap_lt hTi.h2)).trans hTi.h2
    exact ⟨(cb _).trans hF.c6, (cb _).trans hF.c2, (cb _).trans hF.c3, (cb _).trans hF.c4, (cb _).trans hF.c5, cell_of_row _ _ 0 _ 38 (0, 0) k1, cell_of_row _ _ 1 _ 38 (0, 0) k1, cell_of_row _ _ 2 _ 38 (0, 0) k1, cell_of_row _ _ 3 _ 38 (0, 0) k1,
      cell_of_row _ _ 0 _ 38 (0, 0) k2, cell_of_row _ _ 1 _ 38 (0, 0) k2, cell_of_row _ _ 2 _ 38 (0, 0) k2, cell_of_row _ _ 3 _ 38 (0, 0) k2,
      (World.cell?_of_block (q.block gs (hTi.os.lt gs rfl).2)).trans z7, (World.cell?_of_block (q.block g (hTi.og.lt g rfl).2)).trans z9⟩
  have hcp : n + 1 ≤ d := own_cap' hTi.og
  have hq1' : IntKind.i64.wrap ((n : Int) + 1) = (n : Int) + 1 := wrap_n hrc
  have hq2' : (0 : Int) ≤ (n : Int) + 1 := by omega
  have hq3' : (n : Int) + 1 ≤ (d : Int) := by omega
  have hq4' : (n : Int) < (n : Int) + 1 := by omega
  have hq5' : (ns : Int) < (ns : Int) + 1 := by omega
  have hq6' : (0 : Int) ≤ (n : Int) := by omega
  have hq7' : (0 : Int) ≤ (ns : Int) := by omega
  have hd1 : Below wi.heap.size wi wi.drew := (Below.refl _ _).drew
  have tok := Lib.hid trivial
  clear hln hlsn z7 z9
  go_upto_region 12 with fail
  go_cut [126] from 72 to 126 (fun v wc => v = .bool false ∧ Below wi.heap.size wi wc)
  case first =>
    have hTq := Lib.hid hTi
    have hFq := Lib.hid hF
    clear hTi hF hT hq1 hq2 hq3 hm
    go_region_held3 (fun X => X.cell? ⟨rb, 6, none⟩ = some (.slice A3 m d3) ∧ X.cell? ⟨rb, 2, none⟩ = some (.int .i64 wv.u) ∧ X.cell? ⟨rb, 3, none⟩ = some (.bool wv.a) ∧ X.cell? ⟨rb, 4, none⟩ = some (.int .i64 wv.s) ∧ X.cell? ⟨rb, 5, none⟩ = some (.int .i64 wv.k) ∧
      X.cell? ⟨w4.heap.size, 0, none⟩ = some (.int .i64 wv.u) ∧ X.cell? ⟨w4.heap.size, 1, none⟩ = some (.bool wv.a) ∧ X.cell? ⟨w4.heap.size, 2, none⟩ = some (.int .i64 wv.s) ∧ X.cell? ⟨w4.heap.size, 3, none⟩ = some (.int .i64 wv.k) ∧
      X.cell? ⟨w6.heap.size, 0, none⟩ = some (.int .i64 wv.u) ∧ X.cell? ⟨w6.heap.size, 1, none⟩ = some (.bool wv.a) ∧ X.cell? ⟨w6.heap.size, 2, none⟩ = some (.int .i64 wv.s) ∧ X.cell? ⟨w6.heap.size, 3, none⟩ = some (.int .i64 wv.k) ∧
      X.cell? ⟨gs, ns, none⟩ = some (.int .i64 77) ∧ X.cell? ⟨g, n * 2 + 1, none⟩ = some (.int .i64 (-9)))
      (first | (with_reducible exact hX _ hd1) | (with_reducible exact hX _ q1) | (with_reducible exact hX _ q2) | (with_reducible exact hX _ q3) | (with_reducible exact hX _ q4))
      (first
        | (go_at_call 24; (with_reducible refine (KR1 _ hd1).mono ?_); rintro e x1 ⟨rfl, hx1⟩; have q1 : Below wi.heap.size wi x1 := hd1.trans (hx1.below _))
        | (go_at_call 24; (with_reducible refine (KR2 _ q1).mono ?_); rintro e x2 ⟨rfl, hx2⟩; have q2 : Below wi.heap.size wi x2 := q1.trans (hx2.below _))
        | (go_at_call 17; (with_reducible refine (KV _).mono ?_); clear tok; rintro e x3 ⟨rfl, hx3⟩; have q3 : Below wi.heap.size wi x3 := q2.trans (hx3.mono q2.size))
        | (go_at_call 17; (with_reducible refine (KV _).mono ?_); rintro e x4 ⟨rfl, hx4⟩; have q4 : Below wi.heap.size wi x4 := q3.trans (hx4.mono q3.size)))
    all_goals go_wp2
    all_goals go_meet
    all_goals (case rel => exact ⟨rfl, q4⟩)
  obtain ⟨rfl, hdc⟩ := hcut
  obtain ⟨wj, rfl⟩ : ∃ x : World, x = wc := ⟨_, rfl⟩
  have hTj := hTi.below hdc
  have hB1 : w.heap.size ≤ w3.heap.size := by have := (hTj.og.lt g rfl).1; have := hTj.lg; omega
  have hO3 := hF.o.below hdc
  have y6 : wj.cell? ⟨rb, 6, none⟩ = some (.slice A3 m d3) := (World.cell?_of_block (hdc.block rb hF.lr)).trans hF.c6
  have hrj : rb < wj.heap.size := Nat.lt_of_lt_of_le hF.lr hdc.size
  have hfew := hout.out.few
  rw [hm] at hfew
  clear KR1 KR2 KV hX hd1 hq1 hq2 hq3 hTi hT hF hdc hout
  have hcd1 := Lib.hid (fun (k : Nat) (hk : k < sch.length) (W' : World) (hd : Drawn wj W') => Ints.at_ (Sl.drawn (own_pre hTj.os : Ints wj (some ⟨gs, 0, none⟩) sch) hd) hk)
  have hcd2 := Lib.hid (fun (k : Nat) (hk : k < sch.length) (W' : World) (hd : Drawn wj W') => Ints.at_ (Sl.drawn hTj.s hd) hk)
  have hcd3 := Lib.hid (fun (k : Nat) (hk : k < cs.length) (W' : World) (hd : Drawn wj W') => Cls.at_ (Sl.drawn (own_pre hTj.og : Cls wj (some ⟨g, 0, none⟩) cs) hd) hk)
  have hcd4 := Lib.hid (fun (k : Nat) (hk : k < cs.length) (W' : World) (hd : Drawn wj W') => Cls.at_ (Sl.drawn hTj.c hd) hk)
  have hm' : Hid ((ls.map qrow).length = m) := Lib.hid (by rw [List.length_map]; exact hm)
  have hO1 := hTj.o1
  have hO2 := hTj.o2
  have hl1 := hTj.l1
  have hbj := hTj.b
  clear hTj hm
  replace hO1 := Lib.hid hO1
  replace hO2 := Lib.hid hO2
  replace hO3 := Lib.hid hO3
  replace hl1 := Lib.hid hl1
  replace hbj := Lib.hid hbj
  replace y6 := Lib.hid y6
  go_upto_region 15 with fail
  go_loopw [17] (fun s17 wr => ∃ k : Nat, k ≤ ns ∧ s17 = .int .i64 k ∧ Drawn wj wr) (fun s17 _ => ns - (intOf s17).toNat)
  case atStart => exact ⟨0, by omega, rfl, Drawn.refl _⟩
  case round =>
    obtain ⟨k, hk, rfl, hd⟩ := hrel
    obtain ⟨wk, rfl⟩ : ∃ x : World, x = wr := ⟨_, rfl⟩
    by_cases hkn : k = ns
    case neg =>
      have hlt : k < ns := by omega
      have hkl : k < sch.length := by rw [hns.out]; exact hlt
      obtain ⟨b1, o1, e1, _, x0⟩ := hcd1.out k hkl wk hd
      obtain ⟨b2, o2, rfl, _, x1⟩ := hcd2.out k hkl wk hd
      simp only [Option.some.injEq, Addr.mk.injEq, and_true] at e1
      obtain ⟨rfl, rfl⟩ := e1
      rw [Nat.zero_add] at x0
      have hne : (sch[k] != sch[k]) = false := bne_self_eq_false _
      generalize sch[k] = u at *
      have hlt1 : k < ns + 1 := by omega
      clear hkn hcd1 hcd2 hcd3 hcd4
      go_wp2
      go_big_quiet (fail)
      go_wp2
      go_roundw
      case rel => exact ⟨k + 1, by omega, by go_num, hd.drewN _⟩
      case measure => simp [intOf]; omega
    subst hkn
    clear hcd1 hcd2 hap hsl
    go_upto_region 20 with fail
    go_loopw [18] (fun s18 wr => ∃ q : Nat, q ≤ n ∧ s18 = .int .i64 q ∧ Drawn wj wr) (fun s18 _ => n - (intOf s18).toNat)
    case atStart => exact ⟨0, by omega, rfl, hd⟩
    case round =>
      clear hd
      obtain ⟨q, hq, rfl, hd⟩ := hrel
      obtain ⟨wl, rfl⟩ : ∃ x : World, x = wr := ⟨_, rfl⟩
      by_cases hqn : q = n
      case neg =>
        have hlt : q < n := by omega
        have hql : q < cs.length := by rw [hn.out]; exact hlt
        obtain ⟨b1, o1, e1, _, x0, x1⟩ := hcd3.out q hql wl hd
        obtain ⟨b2, o2, rfl, _, x2, x3⟩ := hcd4.out q hql wl hd
        simp only [Option.some.injEq, Addr.mk.injEq, and_true] at e1
        obtain ⟨rfl, rfl⟩ := e1
        rw [Nat.zero_add] at x0 x1
        generalize cs[q] = u at *
        have hne1 : (u.1 != u.1) = false := bne_self_eq_false _
        have hne2 : (u.2 != u.2) = false := bne_self_eq_false _
        clear hqn hcd3 hcd4
        go_wp2
        go_big_quiet (fail)
        go_wp2
        go_roundw
        case rel => exact ⟨q + 1, by omega, by go_num, hd.drewN _⟩
        case measure => simp [intOf]; omega
      subst hqn
      clear hcd3 hcd4 hcp hq1' hq2' hq3' hq4' hq5' hq6' hq7'
      have hO1 := hO1.out.drawn hd
      have hO2 := hO2.out.drawn hd
      have hO3 := hO3.out.drawn hd
      have hbl : Below w.heap.size w wl := hd.after hbj.out
      have y6 : wl.cell? ⟨rb, 6, none⟩ = some (.slice A3 m d3) := (World.cell?_of_block (by rw [hd.heap])).trans y6.out
      have hrl : rb < wl.heap.size := by rw [hd.heap]; exact hrj
      have hF0 := Fr.refl wl.heap.size (fun b => (Value.slice A1 m d1).ownBlock = some b) wl
      have hv1 := Lib.hid fun b (q : (Value.slice A1 m d1).ownBlock = some b) => hO1.lt b q
      clear hd
      replace hO2 := Lib.hid hO2
      replace hO3 := Lib.hid hO3
      replace hbl := Lib.hid hbl
      replace y6 := Lib.hid y6
      go_upto_region 25 with fail
      go_loopw [19] (fun s19 wr => ∃ (p : Nat) (ys : List (List Value)), p ≤ m ∧ s19 = .int .i64 p ∧ ys.length = m ∧ Own wr w3.heap.size 60 2 ys (.slice A1 m d1) ∧ Fr wl.heap.size (fun b => (Value.slice A1 m d1).ownBlock = some b) wl wr) (fun s19 _ => m - (intOf s19).toNat)
      case atStart => exact ⟨0, _, by omega, rfl, hm'.out, hO1, hF0⟩
      case round =>
        clear hO1 hF0
        obtain ⟨p, ys, hp, rfl, hys, hO1, hF0⟩ := hrel
        obtain ⟨wp, rfl⟩ : ∃ x : World, x = wr := ⟨_, rfl⟩
        by_cases hpm : p = m
        case neg =>
          have hlt : p < m := by omega
          obtain ⟨ga, rfl, hg1, hg2, hth, hset⟩ := hO1.row2 hys hlt
          have hset1 := hset (.int .i64 0) (.int .i64 (-1))
          have hfr := hF0.cells2 (g := ga) (p * 2) rfl (.int .i64 0) (.int .i64 (-1))
          clear hset hO1 hF0 hpm
          go_wp2_with (refine wpList_store_mid rfl 60 _ _ rfl ga (p * 2) #[.int .i64 0, .int .i64 (-1)] rfl rfl hth (by kernel_rfl) (by kernel_rfl) ?_)
          go_roundw
          case rel => exact ⟨p + 1, _, by omega, by go_num, by rw [List.length_set]; exact hys, hset1, hfr⟩
          case measure => simp [intOf]; omega
        subst hpm
        have hS0 : ∀ b, (Value.slice A1 p d1).ownBlock = some b → b < wl.heap.size → (Value.slice A1 p d1).ownBlock = some b := fun _ h _ => h
        go_upto_region 29 with fail
        go_loopw [20, 9] (fun s20 s9 wr => ∃ (j : Nat) (ys : List (List Value)), j ≤ 20 ∧ s20 = .int .i64 j ∧ ys.length = p + j ∧ Own wr w3.heap.size 60 2 ys s9 ∧ Fr wl.heap.size (fun b => (Value.slice A1 p d1).ownBlock = some b) wl wr ∧ (∀ b, s9.ownBlock = some b → b < wl.heap.size → (Value.slice A1 p d1).ownBlock = some b)) (fun s20 _ _ => 20 - (intOf s20).toNat)
        case atStart => exact ⟨0, _, by omega, rfl, hys, hO1, hF0, hS0⟩
        case round =>
          clear hO1 hF0 hS0 hys
          obtain ⟨j, ys, hj, rfl, hys, hO1, hF0, hS0⟩ := hrel
          obtain ⟨wq, rfl⟩ : ∃ x : World, x = wr := ⟨_, rfl⟩
          replace hys := Lib.hid hys
          have hsq := hF0.size
          have hw3 : w3.heap.size ≤ wl.heap.size := by have := hz37.out; have := hrb7.out; omega
          by_cases hjm : j = 20
          case neg =>
            have hlt : j < 20 := by omega
            replace hS0 := Lib.hid hS0
            replace hsq := Lib.hid hsq
            go_wp2_with (at_builtin; refine wpList_push_at el45 rfl _ _ rfl rfl (hO1.alloc _) [.int .i64 0, .int .i64 (-2)] wq.heap.size 60 rfl (heap_alloc_at _ _) rfl (by simp [Value.oneCell']) (by rw [hys.out]; omega) (by have := hsq.out; rw [size_al]; omega) ?_; intro v' wz ho5 hb5 hs5 _ hg5 hat)
            have hF1 : Fr wl.heap.size (fun b => (Value.slice A1 p d1).ownBlock = some b) wl (wq.alloc (.cells #[.int .i64 0, .int .i64 (-2)] 60)) := hF0.trans (Fr.of ((below_al (Below.refl _ _) _).mono hsq.out))
            have hF2 := hF1.grown hF1.size hg5 hS0.out
            have hS2 : ∀ b, v'.ownBlock = some b → b < wl.heap.size → (Value.slice A1 p d1).ownBlock = some b := fun b h1 h2 => by
              rcases hat with h | h
              · exact hS0.out b (h ▸ h1) h2
              · rw [h] at h1
                have e := Option.some.inj h1
                have e2 := hF1.size
                omega
            clear hat hg5 hb5 hs5 hF1 hF0 hO1
            go_roundw
            case rel => exact ⟨j + 1, _, by omega, by go_num, by rw [List.length_append, hys.out]; rfl, ho5, hF2, hS2⟩
            case measure => simp [intOf]; omega
          subst hjm
          obtain ⟨A', c', rfl, _⟩ := hO1.sl
          rw [hys.out]
          have hnS : ∀ g, w5.heap.size ≤ g → ¬ (Value.slice A1 p d1).ownBlock = some g := fun g h1 h2 => by have := hl1.out g h2; omega
          obtain ⟨X2, y2, e2, hQ2⟩ := own_qs (hO2.out.keep fun g hg => hF0.k g (hO2.out.lt g hg).2 (hnS g (hO2.out.lt g hg).1))
          obtain ⟨X3, y3, e3, hQ3⟩ := own_qs (hO3.out.keep fun g hg => hF0.k g (hO3.out.lt g hg).2 (hnS g (Nat.le_trans hz57.out (hO3.out.lt g hg).1)))
          obtain rfl := (Value.slice.inj e2).1
          obtain rfl := (Value.slice.inj e3).1
          have y6' : wq.cell? ⟨rb, 6, none⟩ = some (.slice A3 p d3) := (World.cell?_of_block (hF0.k rb hrl (hnS rb (Nat.le_trans hz57.out hrb7.out)))).trans y6.out
          have KR := ran_same ls p A2 A3 d2 d3 wq hQ2 hQ3 (by have := hm'.out; rwa [List.length_map] at this)
          have hbz : Below w.heap.size w wq := hbl.out.trans (hF0.below hbl.out.size fun b h => Nat.le_trans hB1 (hv1.out b h).1)
          have hge : (20 : Int) ≤ (p : Int) + 20 := by omega
          replace hbz := Lib.hid hbz
          clear hO1 hF0 hS0 hys hQ2 hQ3 e2 e3 hnS hO2 hO3 hv1 hl1 hm' y6 hw3
          go_wp2_with (go_at_call 24; (with_reducible refine (KR).mono ?_); rintro e wy ⟨rfl, hdy⟩)
          go_ret
          exact ⟨rfl, hdy.after hbz.out⟩
end Go.Proofs.Ytgnhddnhcfmipaa
