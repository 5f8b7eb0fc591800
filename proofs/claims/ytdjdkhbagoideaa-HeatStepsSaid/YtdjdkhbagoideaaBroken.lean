/- Heat: HeatBroken, walked. -/
import Derived.Test.YtdjdkhbagoideaaOwn
import Derived.Test.YtdjdkhbagoideaaAwk
namespace Go.Proofs.Ytdjdkhbagoideaa
open Go.RowKit Go.BigFrame flt Ieee

def frow (p : Nat × Nat) : List Value := [.float .f64 p.1, .float .f64 p.2]
def Fls (w : World) (A : Option Addr) (l : List (Nat × Nat)) : Prop := Sl (fun _ => True) w A 2 (l.map frow)
theorem Fls.at_ {w : World} {A : Option Addr} {l : List (Nat × Nat)} (h : Fls w A l) {k : Nat} (hk : k < l.length) :
    ∃ b o, A = some ⟨b, o, none⟩ ∧ b < w.heap.size ∧ w.cell? ⟨b, o + k * 2, none⟩ = some (.float .f64 l[k].1) ∧ w.cell? ⟨b, o + k * 2 + 1, none⟩ = some (.float .f64 l[k].2) := by
  obtain ⟨b, o, e, _, hl, hc⟩ := Sl.at_ h (k := k) (by simpa using hk)
  exact ⟨b, o, e, hl, hc 0 _ (by simp [frow]), hc 1 _ (by simp [frow])⟩
def Bls (w : World) (A : Option Addr) (l : List Bool) : Prop := Sl (fun _ => True) w A 1 (l.map orow)
theorem Bls.at_ {w : World} {A : Option Addr} {l : List Bool} (h : Bls w A l) {k : Nat} (hk : k < l.length) :
    ∃ b o, A = some ⟨b, o, none⟩ ∧ b < w.heap.size ∧ w.cell? ⟨b, o + k, none⟩ = some (.bool l[k]) := by
  obtain ⟨b, o, e, _, hl, hc⟩ := Sl.at_ h (k := k) (by simpa using hk)
  refine ⟨b, o, e, hl, ?_⟩
  have := hc 0 (.bool l[k]) (by simp [orow])
  simpa using this
theorem own_tps {w : World} {B g n c : Nat} {Z : Zn} (h : Own w B 27 3 (Z.tr.map tprow ++ [markT]) (.slice (some ⟨g, 0, none⟩) n c)) : Tps w (some ⟨g, 0, none⟩) Z.tr := by
  obtain ⟨A, c', e', hs⟩ := h.sl
  have e1 : some (⟨g, 0, none⟩ : Addr) = A := (Value.slice.inj e').1
  rw [← e1] at hs
  have := (hs.take (Z.tr.map tprow).length).mono (S' := fun _ => True) fun _ _ => trivial
  rw [List.take_left' rfl] at this
  exact this
theorem nanLit : isNaN 9221120237041090561 = true ∧ badArg 9221120237041090561 4607182418800017408 = false := by decide +kernel
/-- two watches, alike -/
structure Duo (W wr : World) (Z : Zn) (B1 g1 B2 g2 : Nat) (v1 o1 v2 o2 : Value) (s1 s2 : Hs) : Prop where
  a : Wt wr B1 g1 Z v1 o1 s1
  b : Wt wr B2 g2 Z v2 o2 s2
  w : Below W.heap.size W wr
  l1 : W.heap.size ≤ B1
  l2 : g1 < B2
theorem Duo.stepa {W wr w' : World} {Z : Zn} {B1 g1 B2 g2 : Nat} {v1 o1 v2 o2 : Value} {s1 s2 s' : Hs} (h : Duo W wr Z B1 g1 B2 g2 v1 o1 v2 o2 s1 s2) (ha : Wt w' B1 g1 Z v1 o1 s') (hf : Fr wr.heap.size (fun b => b = g1 ∨ o1.ownBlock = some b) wr w') : Duo W w' Z B1 g1 B2 g2 v1 o1 v2 o2 s' s2 := by
  have hlo : ∀ b, (b = g1 ∨ o1.ownBlock = some b) → b ≤ g1 := fun b e => by
    rcases e with e | e
    · omega
    · exact Nat.le_of_lt (h.a.og b e).1
  have hhi : ∀ b, (b = g1 ∨ o1.ownBlock = some b) → W.heap.size ≤ b := fun b e => by
    rcases e with e | e
    · have := h.a.hB; have := h.l1; omega
    · have := (h.a.on.lt b e).1; have := h.l1; omega
  have hl2 := h.l2
  have hB2 := h.b.hB
  refine ⟨ha, h.b.keep (hf.k _ (heap_lt h.b.hb) (fun e => by have := hlo _ e; omega)) (fun b e => hf.k b (h.b.tr.lt b e).2 (fun q => by have := hlo _ q; have := (h.b.tr.lt b e).1; omega)) (fun b e => hf.k b (h.b.on.lt b e).2 (fun q => by have := hlo _ q; have := (h.b.on.lt b e).1; omega)), h.w.trans (hf.below h.w.size hhi), h.l1, h.l2⟩
theorem Duo.stepb {W wr w' : World} {Z : Zn} {B1 g1 B2 g2 : Nat} {v1 o1 v2 o2 : Value} {s1 s2 s' : Hs} (h : Duo W wr Z B1 g1 B2 g2 v1 o1 v2 o2 s1 s2) (hb : Wt w' B2 g2 Z v2 o2 s') (hf : Fr wr.heap.size (fun b => b = g2 ∨ o2.ownBlock = some b) wr w') : Duo W w' Z B1 g1 B2 g2 v1 o1 v2 o2 s1 s' := by
  have hhi : ∀ b, (b = g2 ∨ o2.ownBlock = some b) → g1 < b := fun b e => by
    have := h.l2
    rcases e with e | e
    · have := h.b.hB; omega
    · have := (h.b.on.lt b e).1; omega
  have hlo := h.a.hB
  have hl1 := h.l1
  refine ⟨h.a.keep (hf.k _ (heap_lt h.a.hb) (fun e => by have := hhi _ e; omega)) (fun b e => hf.k b (h.a.tr.lt b e).2 (fun q => by have := hhi _ q; have := h.a.vg b e; omega)) (fun b e => hf.k b (h.a.on.lt b e).2 (fun q => by have := hhi _ q; have := (h.a.og b e).1; omega)), hb, h.w.trans (hf.below h.w.size (fun b e => by have := hhi b e; omega)), h.l1, h.l2⟩
theorem Duo.below {W wr w' : World} {Z : Zn} {B1 g1 B2 g2 : Nat} {v1 o1 v2 o2 : Value} {s1 s2 : Hs} (h : Duo W wr Z B1 g1 B2 g2 v1 o1 v2 o2 s1 s2) (hb : Below wr.heap.size wr w') : Duo W w' Z B1 g1 B2 g2 v1 o1 v2 o2 s1 s2 :=
  ⟨h.a.below hb, h.b.below hb, h.w.trans (hb.mono h.w.size), h.l1, h.l2⟩
theorem Duo.above {W wr w' : World} {Z : Zn} {B1 g1 B2 g2 : Nat} {v1 o1 v2 o2 : Value} {s1 s2 : Hs} (h : Duo W wr Z B1 g1 B2 g2 v1 o1 v2 o2 s1 s2) (hb : Below (g2 + 1) wr w') : Duo W w' Z B1 g1 B2 g2 v1 o1 v2 o2 s1 s2 := by
  have e1 := h.l1
  have e2 := h.l2
  have e3 := h.a.hB
  have e4 := h.b.hB
  refine ⟨h.a.keep (hb.block _ (by omega)) (fun b e => hb.block _ (by have := h.a.vg b e; omega)) (fun b e => hb.block _ (by have := (h.a.og b e).1; omega)), h.b.keep (hb.block _ (by omega)) (fun b e => hb.block _ (by have := h.b.vg b e; omega)) (fun b e => hb.block _ (by have := (h.b.og b e).1; omega)), h.w.trans (hb.mono (by omega)), h.l1, h.l2⟩
theorem Duo.lt {W wr : World} {Z : Zn} {B1 g1 B2 g2 : Nat} {v1 o1 v2 o2 : Value} {s1 s2 : Hs} (h : Duo W wr Z B1 g1 B2 g2 v1 o1 v2 o2 s1 s2) : g2 < wr.heap.size ∧ g1 < g2 := ⟨heap_lt h.b.hb, Nat.lt_of_lt_of_le h.l2 h.b.hB⟩
/-- what a step tells, in memory behind g -/
def Tm (w : World) (g : Nat) (t : Tl) (p : Value) : Prop :=
  ∃ P A cc, p = .pointer (some ⟨P, 0, none⟩) ∧ g < P ∧ w.heap[P]? = some (.cells (sarr t.d t.br t.lv t.sh (.slice A t.ev.length cc)) 37) ∧ Own w (g + 1) 65 2 (t.ev.map erow) (.slice A t.ev.length cc)
theorem Tm.keep {w w' : World} {g : Nat} {t : Tl} {p : Value} (h : Tm w g t p) (hk : ∀ b, g < b → b < w.heap.size → w'.heap[b]? = w.heap[b]?) : Tm w' g t p := by
  obtain ⟨P, A, cc, rfl, h1, h2, h3⟩ := h
  exact ⟨P, A, cc, rfl, h1, (hk P h1 (heap_lt h2)).trans h2, h3.keep fun b e => hk b (h3.lt b e).1 (h3.lt b e).2⟩
def z37 : Array Value := #[.float .f64 0, .bool false, .int .i64 0, .bool false, .slice none 0 0]
theorem rows37 {w : World} {P : Nat} {a b c d e : Value} (h : w.heap[P]? = some (.cells #[a, b, c, d, e] 37)) :
    w.cell? ⟨P, 0, none⟩ = some a ∧ w.cell? ⟨P, 1, none⟩ = some b ∧ w.cell? ⟨P, 2, none⟩ = some c ∧ w.cell? ⟨P, 3, none⟩ = some d ∧ w.cell? ⟨P, 4, none⟩ = some e ∧
    w.frozen? ⟨P, 0, none⟩ = false ∧ w.frozen? ⟨P, 1, none⟩ = false ∧ w.frozen? ⟨P, 2, none⟩ = false ∧ w.frozen? ⟨P, 3, none⟩ = false ∧ w.frozen? ⟨P, 4, none⟩ = false := by
  refine ⟨?_, ?_, ?_, ?_, ?_, frozen_row h 0, frozen_row h 1, frozen_row h 2, frozen_row h 3, frozen_row h 4⟩
  · rw [cell_of_row _ _ 0 _ 37 (0, 0) h]; rfl
  · rw [cell_of_row _ _ 1 _ 37 (0, 0) h]; rfl
  · rw [cell_of_row _ _ 2 _ 37 (0, 0) h]; rfl
  · rw [cell_of_row _ _ 3 _ 37 (0, 0) h]; rfl
  · rw [cell_of_row _ _ 4 _ 37 (0, 0) h]; rfl
theorem fin_a {W w6 : World} {Z : Zn} {B1 g1 B2 g2 B n c td : Nat} {tb ts : Bool} {tl : Int} {te : List (Nat × Bool)} {A : Option Addr} {v1 o1 v2 o2 : Value} {s1 s2 : Hs} (hD : Duo W w6 Z B1 g1 B2 g2 v1 o1 v2 o2 s1 s2) (hO : Own w6 B 65 2 (te.map erow) (.slice A n c)) (hB : g2 < B) (hn : te.length = n) :
    Tm (w6.alloc (.cells #[.float .f64 td, .bool tb, .int .i64 tl, .bool ts, .slice A n c] 37)) g2 ⟨td, tb, tl, ts, te⟩ (.pointer (some ⟨w6.heap.size, 0, none⟩)) ∧ Duo W (w6.alloc (.cells #[.float .f64 td, .bool tb, .int .i64 tl, .bool ts, .slice A n c] 37)) Z B1 g1 B2 g2 v1 o1 v2 o2 s1 s2 := by
  subst hn
  exact ⟨⟨_, A, c, rfl, hD.lt.1, heap_alloc_at _ _, (hO.alloc _).mono hB⟩, hD.below (below_al (Below.refl _ _) _)⟩
theorem fin_b {W w6 : World} {Z : Zn} {B1 g1 B2 g2 B n c td P : Nat} {tb ts : Bool} {tl : Int} {te : List (Nat × Bool)} {A : Option Addr} {v1 o1 v2 o2 : Value} {s1 s2 : Hs} (hD : Duo W w6 Z B1 g1 B2 g2 v1 o1 v2 o2 s1 s2) (hO : Own w6 B 65 2 (te.map erow) (.slice A n c)) (hP : g2 < P) (hB : P < B) (hn : te.length = n) (hr : w6.heap[P]? = some (.cells z37 37)) :
    Tm (((((w6.setCell ⟨P, 0, none⟩ (.float .f64 td)).setCell ⟨P, 1, none⟩ (.bool tb)).setCell ⟨P, 2, none⟩ (.int .i64 tl)).setCell ⟨P, 3, none⟩ (.bool ts)).setCell ⟨P, 4, none⟩ (.slice A n c)) g2 ⟨td, tb, tl, ts, te⟩ (.pointer (some ⟨P, 0, none⟩)) ∧
    Duo W (((((w6.setCell ⟨P, 0, none⟩ (.float .f64 td)).setCell ⟨P, 1, none⟩ (.bool tb)).setCell ⟨P, 2, none⟩ (.int .i64 tl)).setCell ⟨P, 3, none⟩ (.bool ts)).setCell ⟨P, 4, none⟩ (.slice A n c)) Z B1 g1 B2 g2 v1 o1 v2 o2 s1 s2 := by
  subst hn
  have hb : Below P w6 (((((w6.setCell ⟨P, 0, none⟩ (.float .f64 td)).setCell ⟨P, 1, none⟩ (.bool tb)).setCell ⟨P, 2, none⟩ (.int .i64 tl)).setCell ⟨P, 3, none⟩ (.bool ts)).setCell ⟨P, 4, none⟩ (.slice A te.length c)) :=
    (((((Below.refl P w6).setCell (Nat.le_refl _) _).setCell (Nat.le_refl _) _).setCell (Nat.le_refl _) _).setCell (Nat.le_refl _) _).setCell (Nat.le_refl _) _
  refine ⟨⟨_, A, c, rfl, hP, heap_set (heap_set (heap_set (heap_set (heap_set hr 0 _) 1 _) 2 _) 3 _) 4 _, (hO.keep fun b e => ?_).mono (show g2 + 1 ≤ B by omega)⟩, hD.above (hb.mono hP)⟩
  have := (hO.lt b e).1
  have hne : b ≠ P := by omega
  rw [Below.heap_setCell _ _ _ b hne, Below.heap_setCell _ _ _ b hne, Below.heap_setCell _ _ _ b hne, Below.heap_setCell _ _ _ b hne, Below.heap_setCell _ _ _ b hne]
set_option maxHeartbeats 8000000 in
set_option maxRecDepth 100000 in
theorem broken_walk (Z : Zn) (l : List (Nat × Nat)) (wh : List Bool) (A A1 A2 : Option Addr) (c c1 c2 : Nat) (W : World) (hT : Tps W A Z.tr) (hr : Z.tr.length * 24 ≤ 140737488351232) (hl : Fls W A1 l) (hw : Bls W A2 wh) :
    Calls Try.prog 6 #[.agg (zarr Z (.slice A Z.tr.length c)), .slice A1 l.length c1, .slice A2 wh.length c2] W fun e w' => e = .returned (.bool true) ∧ Below W.heap.size W w' := by
  have KA := awake_any
  have KO := fun (X : World) (q : Below W.heap.size W X) => own_any Z A c Z.tr.length X (hT.below q) rfl hr
  have hcl := Lib.hid (fun (k : Nat) (hk : k < l.length) (X : World) (q : Below W.heap.size W X) => (show Fls X A1 l from Sl.below' hl q).at_ hk)
  have hcw := Lib.hid (fun (k : Nat) (hk : k < wh.length) (X : World) (q : Below W.heap.size W X) => (show Bls X A2 wh from Sl.below' hw q).at_ hk)
  obtain ⟨n, hn⟩ : ∃ n, Z.tr.length = n := ⟨_, rfl⟩
  have KN1 := fun (g c : Nat) (X : World) (h : Tps X (some ⟨g, 0, none⟩) Z.tr) (ho : okZ Z = false) => new_no Z (some ⟨g, 0, none⟩) c n X h hn ho
  have KN2 := fun (g c : Nat) (X : World) (h : Tps X (some ⟨g, 0, none⟩) Z.tr) (ho : okZ Z = true) => new_yes Z (some ⟨g, 0, none⟩) c n X h hn ho
  rw [hn] at KO ⊢
  have hb0 := below_al (Below.refl W.heap.size W) (.cells (zarr Z (.slice A n c)) 44)
  have hx0 := heap_alloc_at W (.cells (zarr Z (.slice A n c)) 44)
  unfold zarr at KO KN1 KN2 hb0 hx0 ⊢
  clear hT hl hw
  cases ho : okZ Z with
  | false =>
    go_enter Try.func6, Try.ntmps6
    go_upto_region 3 with (first
      | (refine wpList_load_row rfl 44 _ rfl W.heap.size rfl 44 _ (0, 0) _ hx0 Try.underlying44 rfl (by kernel_rfl) ?_)
      | (go_at_call 10; (with_reducible refine (KO _ hb0).mono ?_); rintro e w1 ⟨gv, cv, rfl, hO1, hb1⟩; have h01 := hb0.trans (hb1.mono hb0.size); have hx1 := (hb1.block _ (heap_lt hx0)).trans hx0)
      | (go_at_call 7; (with_reducible refine (KN1 gv cv w1 (own_tps hO1) ho).mono ?_); rintro e w2 ⟨rfl, hb2⟩; have h02 := h01.trans (hb2.mono h01.size); have hx2 := (hb2.block _ (heap_lt hx1)).trans hx1)
      | (refine wpList_load_row rfl 44 _ rfl W.heap.size rfl 44 _ (0, 0) _ hx2 Try.underlying44 rfl (by kernel_rfl) ?_)
      | (go_at_call 10; (with_reducible refine (KO _ h02).mono ?_); rintro e w3 ⟨gv3, cv3, rfl, hO3, hb3⟩; have h03 := h02.trans (hb3.mono h02.size))
      | (go_at_call 7; (with_reducible refine (KN1 gv3 cv3 w3 (own_tps hO3) ho).mono ?_); rintro e w4 ⟨rfl, hb4⟩; have h04 := h03.trans (hb4.mono h03.size)))
    have KAw := KA w4
    replace h04 := Lib.hid h04
    clear hx0 hb0 hO1 hb1 h01 hx1 hb2 h02 hx2 hO3 hb3 h03 hb4 KO KN1 KN2
    go_wp2_with (go_at_call 9; (with_reducible refine (KAw).mono ?_); rintro e w9 ⟨rfl, hb9⟩)
    go_ret
    exact ⟨rfl, h04.out.trans (hb9.mono h04.out.size)⟩
  | true =>
    have hZ := okZ_zok ho
    go_enter Try.func6, Try.ntmps6
    go_upto_region 3 with (first
      | (refine wpList_load_row rfl 44 _ rfl W.heap.size rfl 44 _ (0, 0) _ hx0 Try.underlying44 rfl (by kernel_rfl) ?_)
      | (go_at_call 10; (with_reducible refine (KO _ hb0).mono ?_); rintro e w1 ⟨gv, cv, rfl, hO1, hb1⟩; have h01 := hb0.trans (hb1.mono hb0.size); have hx1 := (hb1.block _ (heap_lt hx0)).trans hx0)
      | (go_at_call 7; (with_reducible refine (KN2 gv cv w1 (own_tps hO1) ho).mono ?_); rintro e w2 ⟨g1, v1, o1, rfl, hWa, hb2⟩; have h02 := h01.trans (hb2.mono h01.size); have hx2 := (hb2.block _ (heap_lt hx1)).trans hx1)
      | (refine wpList_load_row rfl 44 _ rfl W.heap.size rfl 44 _ (0, 0) _ hx2 Try.underlying44 rfl (by kernel_rfl) ?_)
      | (go_at_call 10; (with_reducible refine (KO _ h02).mono ?_); rintro e w3 ⟨gv3, cv3, rfl, hO3, hb3⟩; have h03 := h02.trans (hb3.mono h02.size))
      | (go_at_call 7; (with_reducible refine (KN2 gv3 cv3 w3 (own_tps hO3) ho).mono ?_); rintro e w4 ⟨g2, v2, o2, rfl, hWb, hb4⟩; have h04 := h03.trans (hb4.mono h03.size)))
    have hD : Duo W w4 Z w1.heap.size g1 w3.heap.size g2 v1 o1 v2 o2 (hs0 n) (hs0 n) :=
      ⟨(hWa.below hb3).below hb4, hWb, h04, h01.size, Nat.lt_of_lt_of_le (heap_lt hWa.hb) hb3.size⟩
    have hk0 : Hok Z (hs0 n) := by rw [← hn]; exact hok0 Z hZ
    clear hx0 hb0 hO1 hb1 h01 hx1 hb2 h02 hx2 hO3 hb3 h03 hb4 KO KN1 KN2 hWa hWb h04
    generalize w1.heap.size = B1 at *
    generalize w3.heap.size = B2 at *
    have hnl := nanLit
    clear hn
    go_upto_region 6 with fail
    go_loopw [11] (fun s11 wr => ∃ (i : Nat) (s : Hs), i ≤ l.length ∧ s11 = .int .i64 i ∧ Hok Z s ∧ Duo W wr Z B1 g1 B2 g2 v1 o1 v2 o2 s s) (fun s11 _ => l.length - (intOf s11).toNat)
    case atStart => exact ⟨0, hs0 n, by omega, rfl, hk0, hD⟩
    case round =>
      clear hk0 hD
      obtain ⟨i, s, hi, rfl, hk, hD⟩ := hrel
      obtain ⟨wk, rfl⟩ : ∃ x : World, x = wr := ⟨_, rfl⟩
      by_cases hend : i < l.length ∧ i < 80
      case neg =>
        have KAw := KA wk
        have hbw := Lib.hid hD.w
        clear hD hcl hcw
        by_cases h1 : i < l.length
        · have h2 : ¬ i < 80 := fun q => hend ⟨h1, q⟩
          have h1' : (i : Int) < (l.length : Int) := by omega
          have h2' : ¬ (i : Int) < 80 := by omega
          clear hend h1 h2 hi
          go_wp2_with (go_at_call 9; (with_reducible refine (KAw).mono ?_); rintro e w9 ⟨rfl, hb9⟩)
          go_ret
          exact ⟨rfl, hbw.out.trans (hb9.mono hbw.out.size)⟩
        · have h1' : ¬ (i : Int) < (l.length : Int) := by omega
          clear hend h1 hi
          go_wp2_with (go_at_call 9; (with_reducible refine (KAw).mono ?_); rintro e w9 ⟨rfl, hb9⟩)
          go_ret
          exact ⟨rfl, hbw.out.trans (hb9.mono hbw.out.size)⟩
      obtain ⟨hil, hi8⟩ := hend
      have hil' : (i : Int) < (l.length : Int) := by omega
      have hi8' : (i : Int) < 80 := by omega
      go_upto_region 8 with fail
      go_cut [68] from 54 to 68 (fun v wc => wc = wk ∧ ∃ C : Bool, v = .bool C ∧ (C = true → s.sh = false))
      case first =>
        clear hcl KA hi hil hi8 hil' 
        have KS := shut_any hD.a
        generalize s.sh = sh at *
        by_cases hwi : i < wh.length
        · obtain ⟨b, o, rfl, hbl, hcb⟩ := hcw.out i hwi wk hD.w
          have hwi' : (i : Int) < (wh.length : Int) := by omega
          generalize wh[i] = bb at *
          clear hcw hD
          cases bb with
          | false =>
            go_wp2
            go_meet
            case rel => exact ⟨rfl, false, rfl, fun q => by cases q⟩
          | true =>
            go_wp2_with (go_at_call 16; (with_reducible refine (KS).mono ?_); rintro e w5 ⟨rfl, rfl⟩)
            go_meet
            case rel => exact ⟨rfl, !sh, rfl, fun q => by simpa using q⟩
        · have hwi' : ¬ (i : Int) < (wh.length : Int) := by omega
          clear hcw hD KS
          go_wp2
          go_meet
          case rel => exact ⟨rfl, false, rfl, fun q => by cases q⟩
      obtain ⟨rfl, C, rfl, hC⟩ := hcut
      obtain ⟨wk, rfl⟩ : ∃ x : World, x = wc := ⟨_, rfl⟩
      go_upto_if 68 with fail
      go_cut [12, 13] from 69 to 91 (fun _ _ wc => Duo W wc Z B1 g1 B2 g2 v1 o1 v2 o2 s s)
      case first =>
        clear hcl hcw KA hi hil hi8 hil' 
        cases C with
        | false =>
          replace hD := Lib.hid hD
          go_wp2
          go_meet
          case rel => exact hD.out
        | true =>
          have hs := hC rfl
          have KT := step_any hD.a hZ hk 9221120237041090561 4607182418800017408
          have q1 : code s 9221120237041090561 4607182418800017408 = 0 := by unfold code; rw [hs, hnl.2]; rfl
          have q2 : nxt Z s 9221120237041090561 4607182418800017408 = s := by unfold nxt; rw [hs, hnl.2, hnl.1]; rfl
          have q3 : told Z s 9221120237041090561 4607182418800017408 = ⟨s.h, true, s.lv, false, []⟩ := by unfold told; rw [hs, hnl.2, hnl.1]; rfl
          rw [q1, q2, q3] at KT
          simp only [sarr, List.map_nil] at KT
          replace hD := Lib.hid hD
          obtain ⟨sh, hsh⟩ : ∃ x, s.h = x := ⟨_, rfl⟩
          obtain ⟨sl, hsl⟩ : ∃ x, s.lv = x := ⟨_, rfl⟩
          rw [hsh, hsl] at KT
          clear q1 q2 q3 hsh hsl hs hC
          go_upto_region 10 with (first
            | (go_at_call 18; (with_reducible refine (nan_lit _).mono ?_); rintro e w5 ⟨rfl, rfl⟩)
            | (go_at_call 8; (with_reducible refine (KT).mono ?_); rintro e w6 ⟨tv, rfl, hO, hW6, hF6⟩; obtain ⟨tA, tc, rfl, -⟩ := hO.sl; rw [List.length_nil] at hO ⊢)
            | (refine wpList_store_row rfl 37 _ _ rfl w6.heap.size #[.float .f64 sh, .bool true, .int .i64 sl, .bool false, .slice tA 0 tc] rfl rfl 37 _ (heap_alloc_at _ _) (by kernel_rfl) (by kernel_rfl) (by kernel_rfl) ?_))
          (try rw [setRow_alloc _ _ _ _ _ rfl])
          (try simp only [Act.put])
          have hx := heap_alloc_at w6 (.cells #[.float .f64 sh, .bool true, .int .i64 sl, .bool false, .slice tA 0 tc] 37)
          have hD7 := (hD.out.stepa hW6 hF6).below (below_al (Below.refl _ _) (.cells #[.float .f64 sh, .bool true, .int .i64 sl, .bool false, .slice tA 0 tc] 37))
          generalize w6.alloc (.cells #[.float .f64 sh, .bool true, .int .i64 sl, .bool false, .slice tA 0 tc] 37) = w7 at *
          have c1 : w7.cell? ⟨w6.heap.size, 1, none⟩ = some (.bool true) := by rw [cell_of_row _ _ 1 _ 37 (0, 0) hx]; rfl
          have c3 : w7.cell? ⟨w6.heap.size, 3, none⟩ = some (.bool false) := by rw [cell_of_row _ _ 3 _ 37 (0, 0) hx]; rfl
          have c4 : w7.cell? ⟨w6.heap.size, 4, none⟩ = some (.slice tA 0 tc) := by rw [cell_of_row _ _ 4 _ 37 (0, 0) hx]; rfl
          replace hD7 := Lib.hid hD7
          clear hx hO hW6 hF6 KT hD
          go_wp2
          go_meet
          case rel => exact hD7.out
      obtain ⟨wn, rfl⟩ : ∃ x : World, x = wc := ⟨_, rfl⟩
      clear hD hC
      have hD := hcut
      clear hcut
      go_upto_region 12 with fail
      go_cut [14, 15] from 92 to 106 (fun p q wc => q = .int .i64 (code s l[i].1 l[i].2) ∧ Tm wc g2 (told Z s l[i].1 l[i].2) p ∧ Duo W wc Z B1 g1 B2 g2 v1 o1 v2 o2 (nxt Z s l[i].1 l[i].2) s)
      case first =>
        clear KA hi hi8 hi8' hcw hnl
        obtain ⟨b, o, rfl, -⟩ := hcl.out i hil wn hD.w
        have hX := fun (X : World) (q : Below W.heap.size W X) => (show X.cell? ⟨b, o + i * 2, none⟩ = some (.float .f64 l[i].1) ∧ X.cell? ⟨b, o + i * 2 + 1, none⟩ = some (.float .f64 l[i].2) by
          obtain ⟨b', o', e, _, h1, h2⟩ := hcl.out i hil X q
          obtain ⟨rfl, rfl⟩ : b = b' ∧ o = o' := by simpa using e
          exact ⟨h1, h2⟩)
        obtain ⟨fx, hfx⟩ : ∃ x, l[i].1 = x := ⟨_, rfl⟩
        obtain ⟨fy, hfy⟩ : ∃ x, l[i].2 = x := ⟨_, rfl⟩
        rw [hfx, hfy] at hX
        have hid : Hid (l[i].1 = fx ∧ l[i].2 = fy) := Lib.hid ⟨hfx, hfy⟩
        clear hcl hfx hfy
        have hst : ∀ (p : Addr) (v : Nat) (W : World), (store p (.float .f64 v)).run Try.prog W = stored Try.prog W p (.float .f64 v) .plain := fun p v W => run_store Try.prog W p _ _ rfl
        have hlt := hD.lt
        have hda : Below (g2 + 1) wn wn.drew := (Below.refl _ _).drew
        have hdb : Below (g2 + 1) wn (wn.alloc (.cells z37 37)).drew := (below_al (Below.refl wn.heap.size wn) _).drew.mono hlt.1
        have hDa := hD.above hda
        have hDb := hD.above hdb
        have KTa := step_any hDa.a hZ hk fx fy
        have KTb := step_any hDb.a hZ hk fx fy
        obtain ⟨⟨td, tb, tl, ts, te⟩, ht⟩ : ∃ t, told Z s fx fy = t := ⟨_, rfl⟩
        obtain ⟨cd, hcd⟩ : ∃ t, code s fx fy = t := ⟨_, rfl⟩
        obtain ⟨s', hs'⟩ : ∃ t, nxt Z s fx fy = t := ⟨_, rfl⟩
        rw [ht, hcd, hs'] at KTa KTb
        simp only [sarr, z37] at KTa KTb hdb hDb
        have hid2 : Hid (told Z s fx fy = ⟨td, tb, tl, ts, te⟩ ∧ code s fx fy = cd ∧ nxt Z s fx fy = s') := Lib.hid ⟨ht, hcd, hs'⟩
        have hza := hX _ hDa.w
        have hzb := hX _ hDb.w
        have hrow0 : (wn.alloc (.cells #[.float .f64 0, .bool false, .int .i64 0, .bool false, .slice none 0 0] 37)).drew.heap[wn.heap.size]? = some (.cells #[.float .f64 0, .bool false, .int .i64 0, .bool false, .slice none 0 0] 37) := heap_alloc_at _ _
        have hPB : Hid (wn.heap.size < (wn.alloc (.cells #[.float .f64 0, .bool false, .int .i64 0, .bool false, .slice none 0 0] 37)).drew.heap.size) := Lib.hid (heap_lt hrow0)
        have hPA : Hid (g2 < wn.drew.heap.size) := Lib.hid hlt.1
        replace hrow0 := Lib.hid hrow0
        have hnot : Hid (∀ b, wn.heap.size ≤ b → ¬ (b = g1 ∨ o1.ownBlock = some b)) := Lib.hid fun b hb e => by
          rcases e with e | e
          · have := hlt.1; have := hlt.2; omega
          · have := (hD.a.og b e).1; have := hlt.1; have := hlt.2; omega
        replace hlt := Lib.hid hlt
        have hWs : Hid (W.heap.size ≤ wn.heap.size) := Lib.hid hD.w.size
        clear ht hcd hs' hD hk hZ
        generalize hne : te.length = ne at *
        replace hne := Lib.hid hne
        go_region_held3 (fun X => X.cell? ⟨b, o + i * 2, none⟩ = some (.float .f64 fx) ∧ X.cell? ⟨b, o + i * 2 + 1, none⟩ = some (.float .f64 fy))
          (first | (with_reducible exact hza) | (with_reducible exact hzb) | (refine hX _ ?_; with_reducible exact q1) | (refine hX _ ?_; with_reducible exact below_al q1 _) | (refine hX _ ?_; exact ((((q1.setCell hWs.out _).setCell hWs.out _).setCell hWs.out _).setCell hWs.out _).setCell hWs.out _))
          (first
            | (go_at_call 8; (with_reducible refine (KTa).mono ?_); rintro e w6 ⟨tv, rfl, hO, hW6, hF6⟩; obtain ⟨tA, tc, rfl, -⟩ := hO.sl; rw [List.length_map, hne.out] at hO ⊢; have hD2 := hDa.stepa hW6 hF6; have q1 : Below W.heap.size W w6 := hD2.w)
            | (go_at_call 8; (with_reducible refine (KTb).mono ?_); rintro e w6 ⟨tv, rfl, hO, hW6, hF6⟩; obtain ⟨tA, tc, rfl, -⟩ := hO.sl; rw [List.length_map, hne.out] at hO ⊢; have hD2 := hDb.stepa hW6 hF6; have q1 : Below W.heap.size W w6 := hD2.w; have hr6 : w6.heap[wn.heap.size]? = some (.cells #[.float .f64 0, .bool false, .int .i64 0, .bool false, .slice none 0 0] 37) := (hF6.k _ (heap_lt hrow0.out) (fun e => hnot.out _ (Nat.le_refl _) e)).trans hrow0.out; obtain ⟨y0, y1, y2, y3, y4, f0, f1, f2, f3, f4⟩ := rows37 hr6; replace hr6 := Lib.hid hr6))
        all_goals go_wp2
        all_goals go_meet
        all_goals obtain ⟨e1, e2⟩ := hid.out
        all_goals obtain ⟨e3, e4, e5⟩ := hid2.out
        all_goals rw [e1, e2, e3, e4, e5]
        all_goals (case rel => first
          | (have h6 := hr6.out
             refine ⟨rfl, ?_⟩
             exact fin_b hD2 hO hlt.out.1 hPB.out hne.out h6)
          | (refine ⟨rfl, ?_⟩
             exact fin_a hD2 hO hPA.out hne.out))
      obtain ⟨rfl, hT1, hD⟩ := hcut
      obtain ⟨wm, rfl⟩ : ∃ x : World, x = wc := ⟨_, rfl⟩
      obtain ⟨pa, rfl⟩ : ∃ x : Value, x = u14 := ⟨_, rfl⟩
      go_upto_region 13 with fail
      go_cut [16, 17] from 107 to 121 (fun p q wc => q = .int .i64 (code s l[i].1 l[i].2) ∧ Tm wc g2 (told Z s l[i].1 l[i].2) p ∧ Duo W wc Z B1 g1 B2 g2 v1 o1 v2 o2 (nxt Z s l[i].1 l[i].2) (nxt Z s l[i].1 l[i].2) ∧ Tm wc g2 (told Z s l[i].1 l[i].2) pa)
      case first =>
        clear KA hi hi8 hi8' hcw hnl
        obtain ⟨b, o, rfl, -⟩ := hcl.out i hil wm hD.w
        have hX := fun (X : World) (q : Below W.heap.size W X) => (show X.cell? ⟨b, o + i * 2, none⟩ = some (.float .f64 l[i].1) ∧ X.cell? ⟨b, o + i * 2 + 1, none⟩ = some (.float .f64 l[i].2) by
          obtain ⟨b', o', e, _, h1, h2⟩ := hcl.out i hil X q
          obtain ⟨rfl, rfl⟩ : b = b' ∧ o = o' := by simpa using e
          exact ⟨h1, h2⟩)
        obtain ⟨fx, hfx⟩ : ∃ x, l[i].1 = x := ⟨_, rfl⟩
        obtain ⟨fy, hfy⟩ : ∃ x, l[i].2 = x := ⟨_, rfl⟩
        rw [hfx, hfy] at hX
        have hid : Hid (l[i].1 = fx ∧ l[i].2 = fy) := Lib.hid ⟨hfx, hfy⟩
        have hpa : Hid (Tm wm g2 (told Z s fx fy) pa) := Lib.hid (by rw [← hfx, ← hfy]; exact hT1)
        obtain ⟨sa, hsa⟩ : ∃ x, nxt Z s l[i].1 l[i].2 = x := ⟨_, rfl⟩
        rw [hsa] at hD
        rw [hfx, hfy] at hsa
        clear hcl hfx hfy hT1
        have hst : ∀ (p : Addr) (v : Nat) (W : World), (store p (.float .f64 v)).run Try.prog W = stored Try.prog W p (.float .f64 v) .plain := fun p v W => run_store Try.prog W p _ _ rfl
        have hlt := hD.lt
        have hda : Below (g2 + 1) wm wm.drew := (Below.refl _ _).drew
        have hdb : Below (g2 + 1) wm (wm.alloc (.cells z37 37)).drew := (below_al (Below.refl wm.heap.size wm) _).drew.mono hlt.1
        have hDa := hD.above hda
        have hDb := hD.above hdb
        have KTa := step_any hDa.b hZ hk fx fy
        have KTb := step_any hDb.b hZ hk fx fy
        obtain ⟨⟨td, tb, tl, ts, te⟩, ht⟩ : ∃ t, told Z s fx fy = t := ⟨_, rfl⟩
        obtain ⟨cd, hcd⟩ : ∃ t, code s fx fy = t := ⟨_, rfl⟩
        obtain ⟨s', hs'⟩ : ∃ t, nxt Z s fx fy = t := ⟨_, rfl⟩
        obtain rfl : sa = s' := hsa.symm.trans hs'
        rw [ht, hcd, hs'] at KTa KTb
        simp only [sarr, z37] at KTa KTb hdb hDb
        have hid2 : Hid (told Z s fx fy = ⟨td, tb, tl, ts, te⟩ ∧ code s fx fy = cd ∧ nxt Z s fx fy = sa) := Lib.hid ⟨ht, hcd, hs'⟩
        have hza := hX _ hDa.w
        have hzb := hX _ hDb.w
        have hrow0 : (wm.alloc (.cells #[.float .f64 0, .bool false, .int .i64 0, .bool false, .slice none 0 0] 37)).drew.heap[wm.heap.size]? = some (.cells #[.float .f64 0, .bool false, .int .i64 0, .bool false, .slice none 0 0] 37) := heap_alloc_at _ _
        have hPB : Hid (wm.heap.size < (wm.alloc (.cells #[.float .f64 0, .bool false, .int .i64 0, .bool false, .slice none 0 0] 37)).drew.heap.size) := Lib.hid (heap_lt hrow0)
        have hPA : Hid (g2 < wm.drew.heap.size) := Lib.hid hlt.1
        replace hrow0 := Lib.hid hrow0
        have hnot : Hid (∀ b, wm.heap.size ≤ b → ¬ (b = g2 ∨ o2.ownBlock = some b)) := Lib.hid fun b hb e => by
          rcases e with e | e
          · have := hlt.1; have := hlt.2; omega
          · have := (hD.b.og b e).1; have := hlt.1; have := hlt.2; omega
        have hno2 : Hid (∀ b, g2 < b → ¬ (b = g2 ∨ o2.ownBlock = some b)) := Lib.hid fun b hb e => by
          rcases e with e | e
          · omega
          · have := (hD.b.og b e).1; omega
        have hqb : Hid (∀ b, b < wm.heap.size → (wm.alloc (.cells #[.float .f64 0, .bool false, .int .i64 0, .bool false, .slice none 0 0] 37)).drew.heap[b]? = wm.heap[b]?) := Lib.hid fun b h => ((below_al (Below.refl wm.heap.size wm) _).drew).block b h
        replace hlt := Lib.hid hlt
        have hWs : Hid (W.heap.size ≤ wm.heap.size) := Lib.hid hD.w.size
        clear ht hcd hs' hD hk hZ hsa
        generalize hne : te.length = ne at *
        replace hne := Lib.hid hne
        go_region_held3 (fun X => X.cell? ⟨b, o + i * 2, none⟩ = some (.float .f64 fx) ∧ X.cell? ⟨b, o + i * 2 + 1, none⟩ = some (.float .f64 fy))
          (first | (with_reducible exact hza) | (with_reducible exact hzb) | (refine hX _ ?_; with_reducible exact q1) | (refine hX _ ?_; with_reducible exact below_al q1 _) | (refine hX _ ?_; exact ((((q1.setCell hWs.out _).setCell hWs.out _).setCell hWs.out _).setCell hWs.out _).setCell hWs.out _))
          (first
            | (go_at_call 8; (with_reducible refine (KTa).mono ?_); rintro e w6 ⟨tv, rfl, hO, hW6, hF6⟩; obtain ⟨tA, tc, rfl, -⟩ := hO.sl; rw [List.length_map, hne.out] at hO ⊢; have hD2 := hDa.stepb hW6 hF6; have q1 : Below W.heap.size W w6 := hD2.w)
            | (go_at_call 8; (with_reducible refine (KTb).mono ?_); rintro e w6 ⟨tv, rfl, hO, hW6, hF6⟩; obtain ⟨tA, tc, rfl, -⟩ := hO.sl; rw [List.length_map, hne.out] at hO ⊢; have hD2 := hDb.stepb hW6 hF6; have q1 : Below W.heap.size W w6 := hD2.w; have hr6 : w6.heap[wm.heap.size]? = some (.cells #[.float .f64 0, .bool false, .int .i64 0, .bool false, .slice none 0 0] 37) := (hF6.k _ (heap_lt hrow0.out) (fun e => hnot.out _ (Nat.le_refl _) e)).trans hrow0.out; obtain ⟨y0, y1, y2, y3, y4, f0, f1, f2, f3, f4⟩ := rows37 hr6; replace hr6 := Lib.hid hr6))
        all_goals go_wp2
        all_goals go_meet
        all_goals obtain ⟨e1, e2⟩ := hid.out
        all_goals obtain ⟨e3, e4, e5⟩ := hid2.out
        all_goals rw [e1, e2, e3, e4, e5]
        all_goals (case rel => first
          | (have h6 := hr6.out
             refine ⟨rfl, ?_⟩
             have hb := fin_b (td := td) (tb := tb) (tl := tl) (ts := ts) hD2 hO hlt.out.1 hPB.out hne.out h6
             refine ⟨hb.1, hb.2, ?_⟩
             rw [e3] at hpa
             exact hpa.out.keep fun b h1 h2 => (by
               have hnb : b ≠ wm.heap.size := Nat.ne_of_lt h2
               rw [Below.heap_setCell _ _ _ b hnb, Below.heap_setCell _ _ _ b hnb, Below.heap_setCell _ _ _ b hnb, Below.heap_setCell _ _ _ b hnb, Below.heap_setCell _ _ _ b hnb]
               exact (hF6.k b (Nat.lt_trans h2 hPB.out) (hno2.out b h1)).trans (hqb.out b h2)))
          | (refine ⟨rfl, ?_⟩
             have ha := fin_a (td := td) (tb := tb) (tl := tl) (ts := ts) hD2 hO hPA.out hne.out
             refine ⟨ha.1, ha.2, ?_⟩
             rw [e3] at hpa
             exact hpa.out.keep fun b h1 h2 => ((below_al (Below.refl w6.heap.size w6) _).block b (Nat.lt_of_lt_of_le h2 hF6.size)).trans (hF6.k b h2 (hno2.out b h1))))
      obtain ⟨rfl, hT2, hD, hT1⟩ := hcut
      obtain ⟨wq, rfl⟩ : ∃ x : World, x = wc := ⟨_, rfl⟩
      have hk' := nxt_ok hZ hk l[i].1 l[i].2
      generalize nxt Z s l[i].1 l[i].2 = sn at *
      generalize code s l[i].1 l[i].2 = cd at *
      generalize told Z s l[i].1 l[i].2 = t at *
      obtain ⟨td, tb, tl, ts, te⟩ := t
      obtain ⟨P1, A3, d3, rfl, hP1, hr1, hO1⟩ := hT1
      obtain ⟨P2, A4, d4, rfl, hP2, hr2, hO2⟩ := hT2
      simp only [sarr] at hr1 hr2 hO1 hO2
      obtain ⟨ne, hne⟩ : ∃ x, te.length = x := ⟨_, rfl⟩
      have hnm : ne ≤ 9223372036854775807 := by
        obtain ⟨_, _, _, hs⟩ := hO1.sl
        have := hs.1
        rw [List.length_map, hne] at this
        exact this
      rw [hne] at hr1 hr2 hO1 hO2
      have hfr : Below (wq.heap.size) wq wq := Below.refl _ _
      obtain ⟨x0, x1, x2, x3, x4, -⟩ := rows37 hr1
      obtain ⟨z0, z1, z2, z3, z4, -⟩ := rows37 hr2
      have hrows := Lib.hid (fun (k : Nat) (hk : k < ne) (X : World) (q : Drawn wq X) => (show ∃ b1 b2, A3 = some ⟨b1, 0, none⟩ ∧ A4 = some ⟨b2, 0, none⟩ ∧ X.cell? ⟨b1, k * 2, none⟩ = some (.int .i64 (te[k]'(hne ▸ hk)).1) ∧ X.cell? ⟨b1, k * 2 + 1, none⟩ = some (.bool (te[k]'(hne ▸ hk)).2) ∧ X.cell? ⟨b2, k * 2, none⟩ = some (.int .i64 (te[k]'(hne ▸ hk)).1) ∧ X.cell? ⟨b2, k * 2 + 1, none⟩ = some (.bool (te[k]'(hne ▸ hk)).2) from by
        have hkt : k < te.length := hne ▸ hk
        obtain ⟨b1, c1', e1, -⟩ := own_form0 hO1 (by rw [List.length_map]; omega)
        obtain ⟨b2, c2', e2, -⟩ := own_form0 hO2 (by rw [List.length_map]; omega)
        rw [e1] at hO1
        rw [e2] at hO2
        rw [List.length_map, hne] at hO1 hO2
        have hrw : (te.map erow)[k]? = some (erow te[k]) := by rw [List.getElem?_map, List.getElem?_eq_getElem hkt]; rfl
        refine ⟨b1, b2, (Value.slice.inj e1).1, (Value.slice.inj e2).1, ?_, ?_, ?_, ?_⟩
        · exact ((hO1.drawn q).cells (by rw [List.length_map]; exact hne) hk hrw (f := 0) rfl).1
        · exact ((hO1.drawn q).cells (by rw [List.length_map]; exact hne) hk hrw (f := 1) rfl).1
        · exact ((hO2.drawn q).cells (by rw [List.length_map]; exact hne) hk hrw (f := 0) rfl).1
        · exact ((hO2.drawn q).cells (by rw [List.length_map]; exact hne) hk hrw (f := 1) rfl).1))
      have n1 : (cd != cd) = false := by simp
      have n2 : (tb != tb) = false := by simp
      have n3 : (tl != tl) = false := by simp
      have n4 : (ts != ts) = false := by simp
      have n5 : ((ne : Int) != (ne : Int)) = false := by simp
      have hcl4 := Lib.hid (fun (X : World) (q : Drawn wq X) => (show X.cell? ⟨P1, 4, none⟩ = some (.slice A3 ne d3) ∧ X.cell? ⟨P2, 4, none⟩ = some (.slice A4 ne d4) by obtain ⟨m, rfl⟩ := q; exact ⟨x4, z4⟩))
      replace hD := Lib.hid hD
      replace hk' := Lib.hid hk'
      clear hr1 hr2 hO1 hO2 hfr hk hcl hcw KA
      go_upto_region 17 with (go_at_call 19; (with_reducible refine (bits_same _ _).mono ?_); rintro e w9 ⟨rfl, rfl⟩)
      go_loopw [18] (fun s18 wr => ∃ k : Nat, k ≤ ne ∧ s18 = .int .i64 k ∧ Drawn wq wr) (fun s18 _ => ne - (intOf s18).toNat)
      case atStart => exact ⟨0, by omega, rfl, Drawn.refl _⟩
      case round =>
        clear x0 x1 x2 x3 x4 z0 z1 z2 z3 z4
        obtain ⟨k, hkn, rfl, hd⟩ := hrel
        obtain ⟨wz, rfl⟩ : ∃ x : World, x = wr := ⟨_, rfl⟩
        obtain ⟨x4, z4⟩ := hcl4.out wz hd
        by_cases hend : k = ne
        · subst hend
          replace hd := Lib.hid hd
          go_wp2
          go_roundw
          case rel => exact ⟨i + 1, sn, by omega, by go_num, hk'.out, hD.out.below (hd.out.below _)⟩
          case measure => first | (simp [intOf]; done) | (simp [intOf]; omega)
        · have hlt : k < ne := by omega
          obtain ⟨b1, b2, rfl, rfl, a1, a2, a3, a4⟩ := hrows.out k hlt wz hd
          have hlt' : (k : Int) < (ne : Int) := by omega
          obtain ⟨tk, htk⟩ : ∃ x, (te[k]'(hne ▸ hlt)).1 = x := ⟨_, rfl⟩
          obtain ⟨tv, htv⟩ : ∃ x, (te[k]'(hne ▸ hlt)).2 = x := ⟨_, rfl⟩
          rw [htk] at a1 a3
          rw [htv] at a2 a4
          have m1 : ((tk : Int) != (tk : Int)) = false := by simp
          have m2 : (tv != tv) = false := by simp
          clear htk htv hrows hcl4 hend
          go_upto_region 19 with fail
          go_big_quiet (fail)
          go_wp2
          go_roundw
          case rel => exact ⟨k + 1, by omega, by go_num, hd.trans ⟨nq, rfl⟩⟩
          case measure => first | (simp [intOf]; done) | (simp [intOf]; omega)
end Go.Proofs.Ytdjdkhbagoideaa
