/- Rails: what each law asks first (works), walked. -/
import Derived.Test.YtbbjnhajmckjoaaNw
import Derived.Test.YtbbjnhajmckjoaaAt
import Derived.Test.YtbbjnhajmckjoaaMove2
namespace Go.Proofs.Ytbbjnhajmckjoaa
open Go.RowKit Go.Maps

theorem lit_sl {w : World} {g size : Nat} {xs : List (List Value)} {cs : Array Value} {T : TypeId} (h : w.heap[g]? = some (.cells cs T)) (hc : cs.toList = xs.flatten) (hr : ∀ r ∈ xs, r.length = size) (hn : xs.length ≤ 9223372036854775807) : Sl (fun _ => True) w (some ⟨g, 0, none⟩) size xs := by
  refine ⟨hn, hr, fun _ => ⟨g, 0, rfl, trivial, heap_lt h, fun i r hri f u hu => ?_⟩⟩
  rw [Nat.zero_add, cell_of_row _ _ (i * size + f) _ T (0, 0) h, ← Array.getElem?_toList, hc]
  exact flat_get xs hr i r hri f u hu
theorem lit_pts {w : World} {g : Nat} (l : List Pt) {cs : Array Value} {T : TypeId} (h : w.heap[g]? = some (.cells cs T)) (hc : cs.toList = (l.map prow).flatten) (hn : l.length ≤ 9223372036854775807) : Pts w (some ⟨g, 0, none⟩) l :=
  lit_sl h hc (prow_len l) (by rw [List.length_map]; exact hn)
theorem lit_ints {w : World} {g : Nat} (l : List Int) {cs : Array Value} {T : TypeId} (h : w.heap[g]? = some (.cells cs T)) (hc : cs.toList = (l.map irow).flatten) (hn : l.length ≤ 9223372036854775807) : Ints w (some ⟨g, 0, none⟩) l :=
  lit_sl h hc (fun r hr => by obtain ⟨n, _, rfl⟩ := List.mem_map.1 hr; rfl) (by rw [List.length_map]; exact hn)
theorem w_meet : meet 800 1000 50 [(810, 990), (900, 2000)] = (900, 0) := by decide +kernel
theorem w_rn : rn 800 1000 50 ≠ 0 := by decide +kernel
theorem w_ask1 : askd 800 1000 50 [] 0 0 1 (900, 950) = ⟨0, [(1, (900, 950))], 900, 1⟩ := by
  have h1 : setr 800 1000 50 (ins 1 (900, 950) []) = (900, 0) := by decide +kernel
  have h2 : turn 0 900 0 = 1 := by decide +kernel
  unfold askd
  rw [if_neg (by decide)]
  unfold layd
  rw [h1]
  simp only [if_true, h2]
  rfl
theorem w_ask2 : askd 800 1000 50 [(1, (900, 950))] 900 1 2 (800, 890) = ⟨191, [(1, (900, 950))], 900, 1⟩ := by
  have h1 : setr 800 1000 50 (ins 2 (800, 890) [(1, (900, 950))]) = (0, 191) := by decide +kernel
  unfold askd
  rw [if_neg (by decide)]
  unfold layd
  rw [h1]
  rfl
theorem w_moves : moves [(-1, 0), (0, 100)] [500, 400] [900, 300] = ([(0, 900), (1, 300)], 0) := by decide +kernel
theorem w_holds : holds [(-1, 0), (0, 100)] [500, 401] = (1, 192) := by decide +kernel
theorem w_at (z : Nat) (h : flt.cls z = atc (flt.cls 0) (flt.cls 4621819117588971520) (flt.cls 4611686018427387904) (flt.cls 4613937818241073152)) : z = 4618441417868443648 := by
  have e : atc (flt.cls 0) (flt.cls 4621819117588971520) (flt.cls 4611686018427387904) (flt.cls 4613937818241073152) = some 4618441417868443648 := by decide +kernel
  rw [e] at h
  exact (flt.cls_some h).1
theorem w_settle (z : Nat) (h : flt.cls z = stc (flt.cls 0) (flt.cls 4621819117588971520) (flt.cls 4616189618054758400)) : z = 4612811918334230528 := by
  have e : stc (flt.cls 0) (flt.cls 4621819117588971520) (flt.cls 4616189618054758400) = some 4612811918334230528 := by decide +kernel
  rw [e] at h
  exact (flt.cls_some h).1
theorem own_form0' {w : World} {base : Nat} {e : TypeId} {v : Value} (h : Own w base e 2 ([(0, 900), (1, 300)].map prow) v) : ∃ g c, v = .slice (some ⟨g, 0, none⟩) 2 c ∧ base ≤ g ∧ g < w.heap.size := by
  obtain ⟨g, c, e, h1, h2, _⟩ := h.form (by simp)
  exact ⟨g, c, e, h1, h2⟩
theorem own_cell0 {w : World} {base g c : Nat} {e : TypeId} (h : Own w base e 2 ([(0, 900), (1, 300)].map prow) (.slice (some ⟨g, 0, none⟩) 2 c)) : w.cell? ⟨g, 1, none⟩ = some (.int .i64 900) :=
  (h.cell (k := 0) (by simp) (f := 1) (u := .int .i64 900) rfl).1
theorem cell_lt' {w : World} {a : Addr} {v : Value} (h : w.cell? a = some v) : a.block < w.heap.size := by
  rcases Nat.lt_or_ge a.block w.heap.size with q | q
  · exact q
  · unfold World.cell? at h
    rw [Array.getElem?_eq_none q] at h
    cases h
set_option maxHeartbeats 8000000 in
set_option maxRecDepth 100000 in
theorem works_any (w : World) : Calls Try.prog 32 #[] w fun e w' => e = .returned (.bool true) ∧ Below w.heap.size w w' := by
  have KM : ∀ (X : World) (g : Nat) (T : TypeId), X.heap[g]? = some (.cells #[.int .i64 810, .int .i64 990, .int .i64 900, .int .i64 2000] T) → Calls Try.prog 21 #[.agg #[.int .i64 800, .int .i64 1000, .int .i64 50], .slice (some ⟨g, 0, none⟩) 2 2] X fun e w' => e = .returned (.tuple #[.int .i64 900, .int .i64 0]) ∧ Below X.heap.size X w' := fun X g T h => by
    have := meet_any 800 1000 50 [(810, 990), (900, 2000)] (some ⟨g, 0, none⟩) 2 X (lit_pts _ h rfl (by simp))
    rw [w_meet] at this
    exact this
  have KN := fun X => new_yes w_rn X
  have KA1 : ∀ (X : World) (g b : Nat), St X g b 800 1000 50 [] 0 0 → Calls Try.prog 24 #[.pointer (some ⟨g, 0, none⟩), .int .i64 1, .agg #[.int .i64 900, .int .i64 950]] X fun e w' => e = .returned (.int .i64 0) ∧ Fr X.heap.size (fun x => x = g) X w' ∧ ∃ b', St w' g b' 800 1000 50 [(1, (900, 950))] 900 1 ∧ (b' = b ∨ X.heap.size ≤ b') := fun X g b h => by
    have := ask_any h 1 (900, 950) (by decide)
    rw [w_ask1] at this
    exact this
  have KA2 : ∀ (X : World) (g b : Nat), St X g b 800 1000 50 [(1, (900, 950))] 900 1 → Calls Try.prog 24 #[.pointer (some ⟨g, 0, none⟩), .int .i64 2, .agg #[.int .i64 800, .int .i64 890]] X fun e w' => e = .returned (.int .i64 191) ∧ Fr X.heap.size (fun x => x = g) X w' ∧ ∃ b', St w' g b' 800 1000 50 [(1, (900, 950))] 900 1 ∧ (b' = b ∨ X.heap.size ≤ b') := fun X g b h => by
    have := ask_any h 2 (800, 890) (by decide)
    rw [w_ask2] at this
    exact this
  have KMv : ∀ (X : World) (g1 g2 g3 : Nat), X.heap[g1]? = some (.cells #[.int .i64 (-1), .int .i64 0, .int .i64 0, .int .i64 100] 42) → X.heap[g2]? = some (.cells #[.int .i64 500, .int .i64 400] 2) → X.heap[g3]? = some (.cells #[.int .i64 900, .int .i64 300] 2) →
      Calls Try.prog 14 #[.slice (some ⟨g1, 0, none⟩) 2 2, .slice (some ⟨g2, 0, none⟩) 2 2, .slice (some ⟨g3, 0, none⟩) 2 2] X fun e w' => ∃ v, e = .returned (.tuple #[v, .int .i64 0]) ∧ Own w' X.heap.size 39 2 ([(0, 900), (1, 300)].map prow) v ∧ Below X.heap.size X w' := fun X g1 g2 g3 h1 h2 h3 => by
    have := moves_any [(-1, 0), (0, 100)] [500, 400] [900, 300] (some ⟨g1, 0, none⟩) (some ⟨g2, 0, none⟩) (some ⟨g3, 0, none⟩) 2 2 2 X (lit_pts _ h1 rfl (by simp)) (lit_ints _ h2 rfl (by simp)) (lit_ints _ h3 rfl (by simp)) (by simp) (by simp)
    rw [w_moves] at this
    exact this
  have KH : ∀ (X : World) (g1 g2 : Nat), X.heap[g1]? = some (.cells #[.int .i64 (-1), .int .i64 0, .int .i64 0, .int .i64 100] 42) → X.heap[g2]? = some (.cells #[.int .i64 500, .int .i64 401] 2) →
      Calls Try.prog 12 #[.slice (some ⟨g1, 0, none⟩) 2 2, .slice (some ⟨g2, 0, none⟩) 2 2] X fun e w' => e = .returned (.tuple #[.int .i64 1, .int .i64 192]) ∧ Below X.heap.size X w' := fun X g1 g2 h1 h2 => by
    have := holds_any [(-1, 0), (0, 100)] [500, 401] (some ⟨g1, 0, none⟩) (some ⟨g2, 0, none⟩) 2 2 X (lit_pts _ h1 rfl (by simp)) (lit_ints _ h2 rfl (by simp)) (by simp)
    rw [w_holds] at this
    exact this
  have KAt := fun (X : World) => (at_any 0 4621819117588971520 4611686018427387904 4613937818241073152 X).mono (R' := fun e w' => e = .returned (.float .f64 4618441417868443648) ∧ Below X.heap.size X w') fun e w' ⟨z, h1, h2, h3⟩ => ⟨by rw [h1, w_at z h2], h3⟩
  have KSt := fun (X : World) => (settle_any 0 4621819117588971520 4616189618054758400 X).mono (R' := fun e w' => e = .returned (.float .f64 4612811918334230528) ∧ Below X.heap.size X w') fun e w' ⟨z, h1, h2, h3⟩ => ⟨by rw [h1, w_settle z h2], h3⟩
  go_enter Try.func32, Try.ntmps32
  go_upto_region 6 with (first
    | (go_at_call 21; (with_reducible refine (KM _ _ _ (heap_alloc_at' _ _ _ (by rw [size_al]))).mono ?_); rintro e w1 ⟨rfl, hb1⟩
       have k1 : Below w.heap.size w w1 := (below_al (below_al (Below.refl _ _) _) _).trans (hb1.mono (by rw [size_al, size_al]; omega))
       have hx1 := (hb1.block w.heap.size (by rw [size_al, size_al]; omega)).trans (heap_alloc (heap_alloc_at _ _))
       have y0 : w1.cell? ⟨w.heap.size, 0, none⟩ = some (.int .i64 800) := (by rw [cell_of_row _ _ 0 _ 49 (0, 0) hx1]; rfl)
       have y1 : w1.cell? ⟨w.heap.size, 1, none⟩ = some (.int .i64 1000) := (by rw [cell_of_row _ _ 1 _ 49 (0, 0) hx1]; rfl)
       have y2 : w1.cell? ⟨w.heap.size, 2, none⟩ = some (.int .i64 50) := (by rw [cell_of_row _ _ 2 _ 49 (0, 0) hx1]; rfl))
    | (go_at_call 23; (with_reducible refine (KN _).mono ?_); rintro e w2 ⟨g, b, rfl, hS, hg, -, hb2⟩))
  have k2 : Below w.heap.size w w2 := k1.trans (hb2.mono k1.size)
  have hgw : Hid (w.heap.size ≤ g) := Lib.hid (Nat.le_trans k1.size hg)
  clear hx1 y0 y1 y2 hb1 hb2 KM KN k1 hg
  go_upto_region 7 with (go_at_call 24; (with_reducible refine (KA1 _ _ _ hS).mono ?_); rintro e w3 ⟨rfl, hf3, b3, hS3, -⟩)
  have k3 : Below w.heap.size w w3 := k2.trans (hf3.below k2.size fun x e => by rw [e]; exact hgw.out)
  clear hS hf3 k2 KA1
  go_upto_region 8 with (go_at_call 24; (with_reducible refine (KA2 _ _ _ hS3).mono ?_); rintro e w4 ⟨rfl, hf4, b4, hS4, -⟩)
  have k4 : Below w.heap.size w w4 := k3.trans (hf4.below k3.size fun x e => by rw [e]; exact hgw.out)
  clear hS3 hf4 k3 KA2
  go_upto_region 9 with fail
  have hl := heap_alloc_at w4 (.cells #[.int .i64 (-1), .int .i64 0, .int .i64 0, .int .i64 100] 42)
  have k5 := below_al k4 (.cells #[.int .i64 (-1), .int .i64 0, .int .i64 0, .int .i64 100] 42)
  have hS5 := hS4.below (below_al (Below.refl _ _) (.cells #[.int .i64 (-1), .int .i64 0, .int .i64 0, .int .i64 100] 42))
  generalize w4.alloc (.cells #[.int .i64 (-1), .int .i64 0, .int .i64 0, .int .i64 100] 42) = w5 at *
  clear hS4 k4
  generalize w4.heap.size = gl at *
  have hgl := heap_lt hl
  go_upto_region 10 with (go_at_call 14; (with_reducible refine (KMv _ _ _ _ (heap_alloc (heap_alloc hl)) (heap_alloc (heap_alloc_at _ _)) (heap_alloc_at' _ _ _ (by rw [size_al]))).mono ?_); rintro e w6 ⟨v, rfl, hO, hb6⟩)
  have h56 := below_al (below_al (Below.refl w5.heap.size w5) (.cells #[.int .i64 500, .int .i64 400] 2)) (.cells #[.int .i64 900, .int .i64 300] 2)
  have b56 : Below w5.heap.size w5 w6 := h56.trans (hb6.mono h56.size)
  have k6 : Below w.heap.size w w6 := k5.trans (b56.mono k5.size)
  have hS6 := hS5.below b56
  have hl6 := (b56.block _ hgl).trans hl
  obtain ⟨gm, cm, rfl, -, -⟩ := own_form0' hO
  have ym := own_cell0 hO
  have hgm := cell_lt' ym
  clear hS5 hl k5 h56 b56 hb6 KMv hgl hO
  go_upto_region 11 with (go_at_call 12; (with_reducible refine (KH _ _ _ (heap_alloc hl6) (heap_alloc_at _ _)).mono ?_); rintro e w7 ⟨rfl, hb7⟩)
  have h67 := below_al (Below.refl w6.heap.size w6) (.cells #[.int .i64 500, .int .i64 401] 2)
  have b67 : Below w6.heap.size w6 w7 := h67.trans (hb7.mono h67.size)
  have k7 : Below w.heap.size w w7 := k6.trans (b67.mono k6.size)
  have hS7 := hS6.below b67
  have ym7 := (b67.cell (p := ⟨gm, 1, none⟩) hgm).trans ym
  have KV := volts_any hS7
  have KT := turns_any hS7
  clear hS6 hl6 k6 h67 b67 hb7 KH hgm ym hS7
  replace k7 := Lib.hid k7
  go_wp2_with (first
    | (go_at_call 26; (with_reducible refine (KV).mono ?_); rintro e w8 ⟨rfl, rfl⟩)
    | (go_at_call 28; (with_reducible refine (KT).mono ?_); rintro e w8 ⟨rfl, rfl⟩)
    | (go_at_call 36; (with_reducible refine (KAt _).mono ?_); rintro e w8 ⟨rfl, hb8⟩)
    | (go_at_call 38; (with_reducible refine (KSt _).mono ?_); rintro e w9 ⟨rfl, hb9⟩))
  go_ret
  have k8 := k7.out.trans (hb8.mono k7.out.size)
  exact ⟨rfl, k8.trans (hb9.mono k8.size)⟩
end Go.Proofs.Ytbbjnhajmckjoaa
