/- Heat: HeatCalm, walked. -/
import Derived.Test.YtdjdkhbagoideaaCalm0
namespace Go.Proofs.Ytdjdkhbagoideaa
open Go.RowKit Go.BigFrame flt Ieee

theorem cell_lt {w : World} {a : Addr} {v : Value} (h : w.cell? a = some v) : a.block < w.heap.size := by
  rcases Nat.lt_or_ge a.block w.heap.size with q | q
  · exact q
  · unfold World.cell? at h
    rw [Array.getElem?_eq_none q] at h
    cases h
/-- a watch, the zone as it was given, and which are on by the law's own list -/
structure Cal (W wr : World) (Z : Zn) (V : Value) (B g : Nat) (v vo : Value) (s : Hs) (G : Nat) (on : List Bool) (n : Nat) : Prop where
  a : Wt wr B g Z v vo s
  z : wr.heap[W.heap.size]? = some (.cells (zarr Z V) 44)
  o : Own wr (g + 1) 4 1 (on.map orow) (.slice (some ⟨G, 0, none⟩) n n)
  w : Below W.heap.size W wr
  l : W.heap.size < B
theorem Cal.lt {W wr : World} {Z : Zn} {V : Value} {B g G n : Nat} {v vo : Value} {s : Hs} {on : List Bool} (h : Cal W wr Z V B g v vo s G on n) : B ≤ g ∧ g < G ∧ G < wr.heap.size := by
  have h1 := h.o.lt G rfl
  exact ⟨h.a.hB, h1.1, h1.2⟩
theorem Cal.keep {W wr w' : World} {Z : Zn} {V : Value} {B g G n : Nat} {v vo : Value} {s s' : Hs} {on : List Bool} (h : Cal W wr Z V B g v vo s G on n) (ha : Wt w' B g Z v vo s') (hb : Below W.heap.size W w') (hk : ∀ b, b = W.heap.size ∨ b = G → w'.heap[b]? = wr.heap[b]?) : Cal W w' Z V B g v vo s' G on n :=
  ⟨ha, (hk _ (Or.inl rfl)).trans h.z, h.o.keep (fun b e => hk b (Or.inr (Option.some.inj e).symm)), hb, h.l⟩
theorem Cal.step {W wr w' : World} {Z : Zn} {V : Value} {B g G n : Nat} {v vo : Value} {s s' : Hs} {on : List Bool} (h : Cal W wr Z V B g v vo s G on n) (ha : Wt w' B g Z v vo s') (hf : Fr wr.heap.size (fun b => b = g ∨ vo.ownBlock = some b) wr w') : Cal W w' Z V B g v vo s' G on n := by
  obtain ⟨l1, l2, l3⟩ := h.lt
  have l0 := h.l
  have hS : ∀ b, (b = g ∨ vo.ownBlock = some b) → B ≤ b ∧ b ≤ g := fun b e => by
    rcases e with e | e
    · omega
    · have := h.a.on.lt b e
      have := h.a.og b e
      omega
  refine h.keep ha (h.w.trans (hf.below h.w.size fun b e => by have := hS b e; omega)) fun b e => ?_
  refine hf.k b ?_ fun q => ?_
  · rcases e with e | e
    · rw [e]; exact heap_lt h.z
    · rw [e]; exact l3
  · have := hS b q
    rcases e with e | e <;> omega
theorem Cal.above {W wr w' : World} {Z : Zn} {V : Value} {B g G n : Nat} {v vo : Value} {s : Hs} {on : List Bool} (h : Cal W wr Z V B g v vo s G on n) (hb : Below (G + 1) wr w') : Cal W w' Z V B g v vo s G on n := by
  obtain ⟨l1, l2, l3⟩ := h.lt
  have l0 := h.l
  refine h.keep (h.a.keep (hb.block _ (by omega)) (fun b e => hb.block _ (by have := h.a.vg b e; omega)) (fun b e => hb.block _ (by have := (h.a.og b e).1; omega))) (h.w.trans (hb.mono (by omega))) fun b e => hb.block b ?_
  rcases e with e | e <;> omega
theorem Cal.below {W wr w' : World} {Z : Zn} {V : Value} {B g G n : Nat} {v vo : Value} {s : Hs} {on : List Bool} (h : Cal W wr Z V B g v vo s G on n) (hb : Below wr.heap.size wr w') : Cal W w' Z V B g v vo s G on n :=
  h.above (hb.mono h.lt.2.2)
theorem Cal.put {W wr : World} {Z : Zn} {V : Value} {B g G n k : Nat} {v vo : Value} {s : Hs} {on : List Bool} (h : Cal W wr Z V B g v vo s G on n) (hn : on.length = n) (hk : k < n) (x : Bool) :
    ∃ u0, wr.cell? ⟨G, k, none⟩ = some (.bool u0) ∧ wr.frozen? ⟨G, k, none⟩ = false ∧ on[k]? = some u0 ∧ Cal W (wr.setCell ⟨G, k, none⟩ (.bool x)) Z V B g v vo s G (on.set k x) n := by
  obtain ⟨l1, l2, l3⟩ := h.lt
  have l0 := h.l
  obtain ⟨g', u, e1, _, _, h3, h4, h5, h6⟩ := h.o.row1 (by rw [List.length_map]; exact hn) hk
  have eg : G = g' := by simpa using e1
  subst eg
  have hk' : k < on.length := by omega
  rw [List.getElem?_map, List.getElem?_eq_getElem hk'] at h5
  obtain rfl : u = .bool on[k] := by simpa [orow] using h5.symm
  have hne : ∀ b, b ≠ G → (wr.setCell ⟨G, k, none⟩ (.bool x)).heap[b]? = wr.heap[b]? := fun b e => Below.heap_setCell wr _ _ b e
  refine ⟨on[k], h3, h4, List.getElem?_eq_getElem hk', ?_, ?_, ?_, ?_, h.l⟩
  · exact h.a.keep (hne _ (by omega)) (fun b e => hne _ (by have := h.a.vg b e; omega)) (fun b e => hne _ (by have := (h.a.og b e).1; omega))
  · exact (hne _ (by omega)).trans h.z
  · have := h6 (.bool x)
    rw [List.map_set]
    exact this
  · exact h.w.setCell (p := ⟨G, k, none⟩) (by show W.heap.size ≤ G; omega) _
theorem Cal.cell {W wr : World} {Z : Zn} {V : Value} {B g G n k : Nat} {v vo : Value} {s : Hs} {on : List Bool} (h : Cal W wr Z V B g v vo s G on n) (hn : on.length = n) (hk : k < n) : wr.cell? ⟨G, k, none⟩ = some (.bool (on[k]'(hn ▸ hk))) := by
  obtain ⟨u0, h1, _, h2, _⟩ := h.put hn hk true
  rw [List.getElem?_eq_getElem (hn ▸ hk)] at h2
  rw [h1, Option.some.inj h2]
theorem calm_a {W w6 : World} {Z : Zn} {V : Value} {B g G m B' c td : Nat} {n : Nat} {tb ts : Bool} {tl : Int} {te : List (Nat × Bool)} {A : Option Addr} {v vo : Value} {s : Hs} {on : List Bool} (hD : Cal W w6 Z V B g v vo s G on m) (hO : Own w6 B' 65 2 (te.map erow) (.slice A n c)) (hB : G < B') (hn : te.length = n) :
    Tm (w6.alloc (.cells #[.float .f64 td, .bool tb, .int .i64 tl, .bool ts, .slice A n c] 37)) G ⟨td, tb, tl, ts, te⟩ (.pointer (some ⟨w6.heap.size, 0, none⟩)) ∧ Cal W (w6.alloc (.cells #[.float .f64 td, .bool tb, .int .i64 tl, .bool ts, .slice A n c] 37)) Z V B g v vo s G on m := by
  subst hn
  exact ⟨⟨_, A, c, rfl, hD.lt.2.2, heap_alloc_at _ _, (hO.alloc _).mono hB⟩, hD.below (below_al (Below.refl _ _) _)⟩
theorem calm_b {W w6 : World} {Z : Zn} {V : Value} {B g G m B' c td P : Nat} {n : Nat} {tb ts : Bool} {tl : Int} {te : List (Nat × Bool)} {A : Option Addr} {v vo : Value} {s : Hs} {on : List Bool} (hD : Cal W w6 Z V B g v vo s G on m) (hO : Own w6 B' 65 2 (te.map erow) (.slice A n c)) (hP : G < P) (hB : P < B') (hn : te.length = n) (hr : w6.heap[P]? = some (.cells z37 37)) :
    Tm (((((w6.setCell ⟨P, 0, none⟩ (.float .f64 td)).setCell ⟨P, 1, none⟩ (.bool tb)).setCell ⟨P, 2, none⟩ (.int .i64 tl)).setCell ⟨P, 3, none⟩ (.bool ts)).setCell ⟨P, 4, none⟩ (.slice A n c)) G ⟨td, tb, tl, ts, te⟩ (.pointer (some ⟨P, 0, none⟩)) ∧
    Cal W (((((w6.setCell ⟨P, 0, none⟩ (.float .f64 td)).setCell ⟨P, 1, none⟩ (.bool tb)).setCell ⟨P, 2, none⟩ (.int .i64 tl)).setCell ⟨P, 3, none⟩ (.bool ts)).setCell ⟨P, 4, none⟩ (.slice A n c)) Z V B g v vo s G on m := by
  subst hn
  have hb : Below P w6 (((((w6.setCell ⟨P, 0, none⟩ (.float .f64 td)).setCell ⟨P, 1, none⟩ (.bool tb)).setCell ⟨P, 2, none⟩ (.int .i64 tl)).setCell ⟨P, 3, none⟩ (.bool ts)).setCell ⟨P, 4, none⟩ (.slice A te.length c)) :=
    (((((Below.refl P w6).setCell (Nat.le_refl _) _).setCell (Nat.le_refl _) _).setCell (Nat.le_refl _) _).setCell (Nat.le_refl _) _).setCell (Nat.le_refl _) _
  refine ⟨⟨_, A, c, rfl, hP, heap_set (heap_set (heap_set (heap_set (heap_set hr 0 _) 1 _) 2 _) 3 _) 4 _, (hO.keep fun b e => ?_).mono (show G + 1 ≤ B' by omega)⟩, hD.above (hb.mono hP)⟩
  have := (hO.lt b e).1
  have hne : b ≠ P := by omega
  rw [Below.heap_setCell _ _ _ b hne, Below.heap_setCell _ _ _ b hne, Below.heap_setCell _ _ _ b hne, Below.heap_setCell _ _ _ b hne, Below.heap_setCell _ _ _ b hne]
theorem evs_same : ∀ (l : List Bool) (i : Nat), evs i l l = []
  | [], _ => rfl
  | x :: l, i => by simp [evs, evs_same l]
/-- what a step tells that is taken -/
theorem told_ok {Z : Zn} {s : Hs} {x secs : Nat} (hZ : Zok Z) (hs : Hok Z s) (h : code s x secs = 0) :
    (told Z s x secs).br = isNaN x ∧ 0 ≤ (told Z s x secs).lv ∧ (told Z s x secs).lv ≤ Z.mo ∧ (told Z s x secs).lv = (nxt Z s x secs).lv ∧ (told Z s x secs).ev = evs 0 s.on (nxt Z s x secs).on ∧
    (isNaN x = true → nxt Z s x secs = s ∧ (told Z s x secs).ev = [] ∧ (told Z s x secs).lv = s.lv) ∧
    (isNaN x = false → nxt Z s x secs = stepd Z s x secs ∧ (told Z s x secs).d = (stepd Z s x secs).h ∧ (told Z s x secs).sh = (stepd Z s x secs).sh) := by
  have hk := nxt_ok hZ hs x secs
  unfold code at h
  have h1 : s.sh = false := by
    cases hq : s.sh with
    | false => rfl
    | true => rw [hq] at h; simp at h
  have h2 : badArg x secs = false := by
    cases hq : badArg x secs with
    | false => rfl
    | true => rw [h1, hq] at h; simp at h
  cases hn : isNaN x with
  | true =>
    have e1 : told Z s x secs = ⟨s.h, true, s.lv, false, []⟩ := by unfold told; rw [h1, h2, hn]; rfl
    have e2 : nxt Z s x secs = s := by unfold nxt; rw [h1, h2, hn]; rfl
    rw [e1, e2, evs_same]
    exact ⟨rfl, hs.lv.1, hs.lv.2, rfl, rfl, fun _ => ⟨rfl, rfl, rfl⟩, fun q => by cases q⟩
  | false =>
    have e1 : told Z s x secs = ⟨(stepd Z s x secs).h, false, (stepd Z s x secs).lv, (stepd Z s x secs).sh, evs 0 s.on (stepd Z s x secs).on⟩ := by unfold told; rw [h1, h2, hn]; rfl
    have e2 : nxt Z s x secs = stepd Z s x secs := by unfold nxt; rw [h1, h2, hn]; rfl
    rw [e2] at hk
    rw [e1, e2]
    refine ⟨rfl, hk.lv.1, hk.lv.2, rfl, rfl, ?_, ?_⟩
    · intro q
      cases q
    · intro _
      exact ⟨rfl, rfl, rfl⟩
theorem told_no {Z : Zn} {s : Hs} {x secs : Nat} (h : code s x secs ≠ 0) : told Z s x secs = ⟨0, false, 0, false, []⟩ ∧ nxt Z s x secs = s ∧ (code s x secs == 5) = s.sh := by
  unfold code at h ⊢
  cases h1 : s.sh with
  | true => exact ⟨by unfold told; rw [h1]; rfl, by unfold nxt; rw [h1]; rfl, rfl⟩
  | false =>
    cases h2 : badArg x secs with
    | true => exact ⟨by unfold told; rw [h1, h2]; rfl, by unfold nxt; rw [h1, h2]; rfl, rfl⟩
    | false => rw [h1, h2] at h; exact absurd rfl h
/-- what the level is where no one says otherwise -/
theorem lvl_says (Z : Zn) (s : Hs) (x secs : Nat) (on : List Bool) (h : on = (stepd Z s x secs).on) :
    (anyk 2 Z.tr on = true → (stepd Z s x secs).lv = Z.mo) ∧ (anyk 2 Z.tr on = false → anyk 1 Z.tr on = false → (stepd Z s x secs).lv = if s.lv - 1 < 0 then 0 else s.lv - 1) ∧ (stepd Z s x secs).sh = anyk 3 Z.tr on := by
  subst h
  have e1 : (stepd Z s x secs).on = ons (feelh Z s x) Z.tr s.on := rfl
  have e2 : (stepd Z s x secs).lv = if anyk 2 Z.tr (ons (feelh Z s x) Z.tr s.on) then Z.mo else if anyk 1 Z.tr (ons (feelh Z s x) Z.tr s.on) then lvl (wish Z s (feelh Z s x) secs) Z.mo else (if s.lv - 1 < 0 then 0 else s.lv - 1) := rfl
  rw [e1, e2]
  refine ⟨fun h => by rw [h]; rfl, fun h h' => by rw [h, h']; rfl, rfl⟩
/-- a trip that is on is not below where it falls off, one that is off not where it goes on -/
theorem on_says {Z : Zn} {s : Hs} {x secs : Nat} (hZ : Zok Z) (hs : Hok Z (stepd Z s x secs)) (hl : s.on.length = Z.tr.length) {k : Nat} (hk : k < Z.tr.length) (hk' : k < (stepd Z s x secs).on.length) :
    ((stepd Z s x secs).on[k] = true → lt (stepd Z s x secs).h (fsub Z.tr[k].a Z.tr[k].b) = false) ∧ ((stepd Z s x secs).on[k] = false → ge (stepd Z s x secs).h Z.tr[k].a = false) := by
  have e1 : (stepd Z s x secs).on = ons (stepd Z s x secs).h Z.tr s.on := rfl
  have e2 := ons_at (stepd Z s x secs).h Z.tr s.on k hk (by omega) (by rw [← e1]; exact hk')
  have ht := hZ.tr _ (List.getElem_mem hk)
  have := on_right (b := s.on[k]'(by omega)) hs.h ht.1 ht.2.1
  rw [← e2] at this
  exact this
/-- what a step tells, in memory at P, behind G -/
structure Tq (w : World) (G P : Nat) (A : Option Addr) (n c td : Nat) (tb : Bool) (tl : Int) (ts : Bool) (te : List (Nat × Bool)) : Prop where
  r : w.heap[P]? = some (.cells #[.float .f64 td, .bool tb, .int .i64 tl, .bool ts, .slice A n c] 37)
  o : Own w (G + 1) 65 2 (te.map erow) (.slice A n c)
  p : G < P
theorem Tq.keep {w w' : World} {G P n c td : Nat} {A : Option Addr} {tb ts : Bool} {tl : Int} {te : List (Nat × Bool)} (h : Tq w G P A n c td tb tl ts te) (hk : ∀ b, G < b → b < w.heap.size → w'.heap[b]? = w.heap[b]?) : Tq w' G P A n c td tb tl ts te :=
  ⟨(hk P h.p (heap_lt h.r)).trans h.r, h.o.keep fun b e => hk b (h.o.lt b e).1 (h.o.lt b e).2, h.p⟩
theorem Tq.below {w w' : World} {G P n c td : Nat} {A : Option Addr} {tb ts : Bool} {tl : Int} {te : List (Nat × Bool)} (h : Tq w G P A n c td tb tl ts te) (d : Below w.heap.size w w') : Tq w' G P A n c td tb tl ts te :=
  h.keep fun b _ hb => d.block b hb
theorem Tq.set {w : World} {G P n c td k : Nat} {A : Option Addr} {tb ts : Bool} {tl : Int} {te : List (Nat × Bool)} (h : Tq w G P A n c td tb tl ts te) (x : Value) : Tq (w.setCell ⟨G, k, none⟩ x) G P A n c td tb tl ts te :=
  h.keep fun b hb _ => Below.heap_setCell w _ _ b (fun e => by have e' : b = G := e; omega)
theorem Tq.rows {w : World} {G P n c td : Nat} {A : Option Addr} {tb ts : Bool} {tl : Int} {te : List (Nat × Bool)} (h : Tq w G P A n c td tb tl ts te) (hn : te.length = n) {k : Nat} (hk : k < n) :
    ∃ b, A = some ⟨b, 0, none⟩ ∧ G < b ∧ ∀ j (hj : j < te.length), w.cell? ⟨b, j * 2, none⟩ = some (.int .i64 te[j].1) ∧ w.cell? ⟨b, j * 2 + 1, none⟩ = some (.bool te[j].2) := by
  have ho := h.o
  obtain ⟨b, c', e, h1, -⟩ := own_form0 ho (by rw [List.length_map]; omega)
  rw [e] at ho
  refine ⟨b, (Value.slice.inj e).1, h1, fun j hj => ?_⟩
  have hrw : (te.map erow)[j]? = some (erow te[j]) := by rw [List.getElem?_map, List.getElem?_eq_getElem hj]; rfl
  rw [List.length_map] at ho
  exact ⟨(ho.cells (by rw [List.length_map]) hj hrw (f := 0) rfl).1, (ho.cells (by rw [List.length_map]) hj hrw (f := 1) rfl).1⟩
theorem Cal.zcell {W wr : World} {Z : Zn} {V : Value} {B g G n : Nat} {v vo : Value} {s : Hs} {on : List Bool} (h : Cal W wr Z V B g v vo s G on n) : wr.cell? ⟨W.heap.size, 5, none⟩ = some (.int .i64 Z.mo) ∧ wr.cell? ⟨W.heap.size, 6, none⟩ = some V := by
  constructor
  · rw [cell_of_row _ _ 5 _ 44 (0, 0) h.z]; rfl
  · rw [cell_of_row _ _ 6 _ 44 (0, 0) h.z]; rfl
end Go.Proofs.Ytdjdkhbagoideaa
