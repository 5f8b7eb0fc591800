/- Idle: what the statements ask first: a use is taken, given back, and swept; walked. -/
import Derived.Test.YtgnhddnhcfmipaaDoes2
namespace Go.Proofs.Ytgnhddnhcfmipaa
open Go.RowKit Go.BigFrame

/-- a word of the call's own at g -/
structure Wrd (w W : World) (g : Nat) (d : Int) (x : VW) : Prop where
  word : W.heap[g]? = some (.cells #[.int .i64 d, .int .u64 x.num] 100)
  lo : w.heap.size ≤ g
  b : Below w.heap.size w W
theorem Wrd.set {w W W' : World} {g : Nat} {d : Int} {x y : VW} (h : Wrd w W g d x) (hb : Below W.heap.size (W.setCell ⟨g, 1, none⟩ (.int .u64 y.num)) W') : Wrd w W' g d y :=
  ⟨(hb.block g (heap_lt h.word)).trans (heap_set h.word 1 _), h.lo, (h.b.setCell (p := ⟨g, 1, none⟩) h.lo _).trans (hb.mono h.b.size)⟩
theorem Wrd.below {w W W' : World} {g : Nat} {d : Int} {x : VW} (h : Wrd w W g d x) (hb : Below W.heap.size W W') : Wrd w W' g d x :=
  ⟨(hb.block g (heap_lt h.word)).trans h.word, h.lo, h.b.trans (hb.mono h.b.size)⟩
theorem wrd_get {w W : World} {g : Nat} {d : Int} {x y : VW} {code : Int} (now : Int) (h : Wrd w W g d x) (hx : x.ok) (hd : 0 ≤ d ∧ d ≤ 2147483647) (hw : wants 1 d now x = (y, code)) : Calls Try.prog 14 #[.pointer (some ⟨g, 0, none⟩), .int .i64 now] W fun e w' => e = .returned (.int .i64 code) ∧ Wrd w w' g d y := by
  have q := wget_any g now d x hx hd W h.word
  rw [hw] at q
  exact q.mono fun _ _ ⟨h1, h2⟩ => ⟨h1, h.set h2⟩
theorem wrd_put {w W : World} {g : Nat} {d : Int} {x y : VW} {code : Int} (now : Int) (h : Wrd w W g d x) (hx : x.ok) (hd : 0 ≤ d ∧ d ≤ 2147483647) (hw : wants 2 d now x = (y, code)) : Calls Try.prog 15 #[.pointer (some ⟨g, 0, none⟩), .int .i64 now] W fun e w' => e = .returned (.int .i64 code) ∧ Wrd w w' g d y := by
  have q := wput_any g now d x hx hd W h.word
  rw [hw] at q
  exact q.mono fun _ _ ⟨h1, h2⟩ => ⟨h1, h.set h2⟩
theorem wrd_sweep {w W : World} {g : Nat} {d : Int} {x y : VW} {code : Int} (now : Int) (h : Wrd w W g d x) (hx : x.ok) (hd : 0 ≤ d ∧ d ≤ 2147483647) (hw : wants 3 d now x = (y, code)) : Calls Try.prog 16 #[.pointer (some ⟨g, 0, none⟩), .int .i64 now] W fun e w' => e = .returned (.int .i64 code) ∧ Wrd w w' g d y := by
  have q := wsweep_any g now d x hx hd W h.word
  rw [hw] at q
  exact q.mono fun _ _ ⟨h1, h2⟩ => ⟨h1, h.set h2⟩
theorem wrd_view {w W : World} {g : Nat} {d : Int} {x : VW} (h : Wrd w W g d x) (hx : x.ok) : Calls Try.prog 18 #[.pointer (some ⟨g, 0, none⟩)] W fun e w' => e = .returned (.agg #[.int .i64 x.u, .bool x.a, .int .i64 x.s, .int .i64 x.k]) ∧ Wrd w w' g d x :=
  (wview_any g x hx W (cell_of_row _ _ 1 _ 100 (0, 0) h.word)).mono fun _ _ ⟨h1, h2⟩ => ⟨h1, h.below h2⟩
theorem isTick5 : isTick 5 = true := by decide
theorem new5 (W : World) : Calls Try.prog 11 #[.int .i64 5] W fun e w' => e = .returned (.tuple #[.pointer (some ⟨W.heap.size, 0, none⟩), .int .i64 0]) ∧ Wrd W w' W.heap.size 5 ⟨0, false, 0, 0⟩ :=
  (new_any 5 W).mono fun _ _ h => by
    rcases h with ⟨h, _⟩ | ⟨_, h1, h2⟩
    · rw [isTick5] at h; cases h
    · subst h2
      refine ⟨h1, ?_, Nat.le_refl _, below_al (Below.refl _ _) _⟩
      have e : (⟨0, false, 0, 0⟩ : VW).num = 0 := by decide +kernel
      rw [e]
      exact heap_alloc_at _ _
theorem ok_of {x : VW} (h : (0 ≤ x.u ∧ x.u ≤ 65535) ∧ (0 ≤ x.s ∧ x.s ≤ 2147483647) ∧ 0 ≤ x.k ∧ x.k ≤ 65535) : x.ok := ⟨h.1.1, h.1.2, h.2.1.1, h.2.1.2, h.2.2.1, h.2.2.2⟩
set_option maxHeartbeats 4000000 in
set_option maxRecDepth 100000 in
theorem awake_any (W : World) : Calls Try.prog 36 #[] W fun e w' => e = .returned (.bool true) ∧ Below W.heap.size W w' := by
  have k0 : (⟨0, false, 0, 0⟩ : VW).ok := ok_of (by decide)
  have k1 : (⟨1, true, 0, 1⟩ : VW).ok := ok_of (by decide)
  have k2 : (⟨0, true, 3, 1⟩ : VW).ok := ok_of (by decide)
  have k3 : (⟨0, false, 3, 1⟩ : VW).ok := ok_of (by decide)
  have hd : (0 : Int) ≤ 5 ∧ (5 : Int) ≤ 2147483647 := by decide
  have K1 := fun W' h => wrd_get (w := W) (W := W') (g := W.heap.size) (d := 5) (x := ⟨0, false, 0, 0⟩) (y := ⟨1, true, 0, 1⟩) (code := 0) 0 h k0 hd (by decide +kernel)
  have K2 := fun W' h => wrd_put (w := W) (W := W') (g := W.heap.size) (d := 5) (x := ⟨1, true, 0, 1⟩) (y := ⟨0, true, 3, 1⟩) (code := 0) 3 h k1 hd (by decide +kernel)
  have K3 := fun W' h => wrd_sweep (w := W) (W := W') (g := W.heap.size) (d := 5) (x := ⟨0, true, 3, 1⟩) (y := ⟨0, true, 3, 1⟩) (code := 0) 7 h k2 hd (by decide +kernel)
  have K4 := fun W' h => wrd_view (w := W) (W := W') (g := W.heap.size) (d := 5) (x := ⟨0, true, 3, 1⟩) h k2
  have K5 := fun W' h => wrd_sweep (w := W) (W := W') (g := W.heap.size) (d := 5) (x := ⟨0, true, 3, 1⟩) (y := ⟨0, false, 3, 1⟩) (code := 0) 8 h k2 hd (by decide +kernel)
  have K6 := fun W' h => wrd_view (w := W) (W := W') (g := W.heap.size) (d := 5) (x := ⟨0, false, 3, 1⟩) h k3
  have K7 := fun W' h => wrd_put (w := W) (W := W') (g := W.heap.size) (d := 5) (x := ⟨0, false, 3, 1⟩) (y := ⟨0, false, 3, 1⟩) (code := 230) 9 h k3 hd (by decide +kernel)
  have tok1 := Lib.hid trivial
  have tok2 := Lib.hid trivial
  have tok3 := Lib.hid trivial
  have tok4 := Lib.hid trivial
  have f1 : ∀ W, (Instr.field 38 (.agg #[.int .i64 0, .bool true, .int .i64 3, .int .i64 1]) 1).run Try.prog W = .ok (.bool true) W := fun _ => by kernel_rfl
  have f2 : ∀ W, (Instr.field 38 (.agg #[.int .i64 0, .bool false, .int .i64 3, .int .i64 1]) 1).run Try.prog W = .ok (.bool false) W := fun _ => by kernel_rfl
  have f3 : ∀ W, (Instr.field 38 (.agg #[.int .i64 0, .bool false, .int .i64 3, .int .i64 1]) 3).run Try.prog W = .ok (.int .i64 1) W := fun _ => by kernel_rfl
  clear k0 k1 k2 k3 hd
  go_enter Try.func36, Try.ntmps36
  go_wp2_with (first
    | (go_at_call 11; (with_reducible refine (new5 _).mono ?_); rintro e w1 ⟨rfl, h1⟩)
    | (go_at_call 14; (with_reducible refine (K1 _ h1).mono ?_); rintro e w2 ⟨rfl, h2⟩)
    | (go_at_call 15; clear tok1; (with_reducible refine (K2 _ h2).mono ?_); rintro e w3 ⟨rfl, h3⟩)
    | (go_at_call 16; clear tok2; (with_reducible refine (K3 _ h3).mono ?_); rintro e w4 ⟨rfl, h4⟩)
    | (go_at_call 18; clear tok3; (with_reducible refine (K4 _ h4).mono ?_); rintro e w5 ⟨rfl, h5⟩)
    | (go_at_call 16; (with_reducible refine (K5 _ h5).mono ?_); rintro e w6 ⟨rfl, h6⟩)
    | (go_at_call 18; clear tok4; (with_reducible refine (K6 _ h6).mono ?_); rintro e w7 ⟨rfl, h7⟩)
    | (go_at_call 15; (with_reducible refine (K7 _ h7).mono ?_); rintro e w8 ⟨rfl, h8⟩)
    | (go_at_call 18; (with_reducible refine (K6 _ h8).mono ?_); rintro e w9 ⟨rfl, h9⟩))
  go_ret
  exact ⟨rfl, h9.b⟩
end Go.Proofs.Ytgnhddnhcfmipaa
