/- Idle: a call that is carried out (does, Get, Put, Sweep), walked. -/
import Derived.Test.YtgnhddnhcfmipaaStep4
import Derived.Test.YtgnhddnhcfmipaaStep3
import Derived.Test.YtgnhddnhcfmipaaStep5
namespace Go.Proofs.Ytgnhddnhcfmipaa
open Go.RowKit Go.BigFrame

theorem step_first (kind : Int) (hk : kind = 1 ∨ kind = 2 ∨ kind = 3) (b o g : Nat) (now was nxt code tries d : Int) (done : Bool) (v : VW) (hv : v.ok) (hn : 0 ≤ now ∧ now ≤ 2147483647) (hd : 0 ≤ d ∧ d ≤ 2147483647) (w : World) (h : AC w b o g kind now was nxt false done code tries d v.num) :
    Calls Try.prog 45 #[.pointer (some ⟨b, o, none⟩)] w fun e w' => e = .returned (.tuple #[]) ∧
      Below w.heap.size (if (act kind d now v).1.num = v.num then (((w.setCell ⟨b, o + 3, none⟩ (.int .u64 v.num)).setCell ⟨b, o + 4, none⟩ (.int .u64 v.num)).setCell ⟨b, o + 7, none⟩ (.int .i64 (act kind d now v).2)).setCell ⟨b, o + 6, none⟩ (.bool true)
        else ((w.setCell ⟨b, o + 3, none⟩ (.int .u64 v.num)).setCell ⟨b, o + 4, none⟩ (.int .u64 (act kind d now v).1.num)).setCell ⟨b, o + 5, none⟩ (.bool true)) w' := by
  rcases hk with rfl | rfl | rfl
  · exact step_get b o g now was nxt code tries d done v hv hn hd w h
  · exact step_put b o g now was nxt code tries d done v hv hn hd w h
  · exact step_sweep b o g now was nxt code tries d done v hv hn hd w h
theorem AC.of {W : World} {b g : Nat} {kind now d x : Int} (hne : g ≠ b) (hb : W.heap[b]? = some (.cells #[.pointer (some ⟨g, 0, none⟩), .int .u8 kind, .int .i64 now, .int .u64 0, .int .u64 0, .bool false, .bool false, .int .i64 0, .int .i64 0] 106))
    (hg : W.heap[g]? = some (.cells #[.int .i64 d, .int .u64 x] 100)) : AC W b 0 g kind now 0 0 false false 0 0 d x :=
  ⟨hne, cell_of_row _ _ 0 _ 106 (0, 0) hb, cell_of_row _ _ 1 _ 106 (0, 0) hb, cell_of_row _ _ 2 _ 106 (0, 0) hb, cell_of_row _ _ 3 _ 106 (0, 0) hb, cell_of_row _ _ 4 _ 106 (0, 0) hb, cell_of_row _ _ 5 _ 106 (0, 0) hb, cell_of_row _ _ 6 _ 106 (0, 0) hb, cell_of_row _ _ 7 _ 106 (0, 0) hb, cell_of_row _ _ 8 _ 106 (0, 0) hb,
    fun _ => frozen_row hb _, cell_of_row _ _ 0 _ 100 (0, 0) hg, cell_of_row _ _ 1 _ 100 (0, 0) hg, frozen_row hg _⟩
/-- a store of what is there -/
theorem Below.stay {B : Nat} {w w' : World} (h : Below B w w') {g : Nat} {a c : Value} {t : TypeId} (hg : w.heap[g]? = some (.cells #[a, c] t)) : Below B (w.setCell ⟨g, 1, none⟩ c) w' := by
  refine ⟨h.os, h.tape, h.output, by rw [size_set]; exact h.size, fun k hk => ?_⟩
  rw [h.block k hk]
  by_cases e : k = g
  · subst e
    rw [heap_set hg 1 c, hg]
    rfl
  · have q : ∀ x, w.heap[k]? = some x → (w.setCell ⟨g, 1, none⟩ c).heap[k]? = some x := fun x hx => heap_set_far hx e _
    cases hx : w.heap[k]? with
    | some x => exact (q x hx).symm
    | none =>
      have : w.heap.size ≤ k := Array.getElem?_eq_none_iff.mp hx
      exact (Array.getElem?_eq_none (by rw [size_set]; exact this)).symm
/-- where the loop of 'does' stands -/
def At (b g : Nat) (kind now d x x' code : Int) (w wr : World) : Prop :=
  (AC wr b 0 g kind now 0 0 false false 0 0 d x ∧ Below b w wr) ∨
  (¬ x' = x ∧ AC wr b 0 g kind now x x' true false 0 0 d x ∧ Below b w wr) ∨
  (x' = x ∧ AC wr b 0 g kind now x x' false true code 0 d x ∧ Below b w wr) ∨
  (¬ x' = x ∧ AC wr b 0 g kind now x x' false true 0 1 d x' ∧ Below b (w.setCell ⟨g, 1, none⟩ (.int .u64 x')) wr)
def left (b : Nat) (wr : World) : Nat :=
  match wr.cell? ⟨b, 6, none⟩ with
  | some (.bool true) => 0
  | _ => match wr.cell? ⟨b, 5, none⟩ with
    | some (.bool true) => 1
    | _ => 2
theorem left_ac {wr : World} {b g : Nat} {kind now was nxt : Int} {has done : Bool} {code tries d x : Int} (h : AC wr b 0 g kind now was nxt has done code tries d x) : left b wr = if done then 0 else if has then 1 else 2 := by
  have c5 : wr.cell? ⟨b, 5, none⟩ = some (.bool has) := h.c5
  have c6 : wr.cell? ⟨b, 6, none⟩ = some (.bool done) := h.c6
  unfold left
  rw [c5, c6]
  cases done <;> cases has <;> rfl
theorem At.one {b g : Nat} {kind now d x x' code : Int} {w wr w1 : World} (hb : b = w.heap.size) (h : AC wr b 0 g kind now 0 0 false false 0 0 d x) (q : Below b w wr)
    (t : Below wr.heap.size (if x' = x then (((wr.setCell ⟨b, 0 + 3, none⟩ (.int .u64 x)).setCell ⟨b, 0 + 4, none⟩ (.int .u64 x)).setCell ⟨b, 0 + 7, none⟩ (.int .i64 code)).setCell ⟨b, 0 + 6, none⟩ (.bool true)
      else ((wr.setCell ⟨b, 0 + 3, none⟩ (.int .u64 x)).setCell ⟨b, 0 + 4, none⟩ (.int .u64 x')).setCell ⟨b, 0 + 5, none⟩ (.bool true)) w1) : At b g kind now d x x' code w w1 ∧ left b w1 < left b wr := by
  have l0 := left_ac h
  have hq : b ≤ wr.heap.size := by rw [hb]; exact q.size
  by_cases e : x' = x
  · rw [if_pos e] at t
    have h1 := ((((h.set3 x).set4 x).set7 code).set6 true)
    have h2 := h1.on (t.mono (by simp only [size_set]; exact Nat.le_refl _))
    have q1 := ((((q.setCell (p := ⟨b, 0 + 3, none⟩) (Nat.le_refl _) (.int .u64 x)).setCell (p := ⟨b, 0 + 4, none⟩) (Nat.le_refl _) (.int .u64 x)).setCell (p := ⟨b, 0 + 7, none⟩) (Nat.le_refl _) (.int .i64 code)).setCell (p := ⟨b, 0 + 6, none⟩) (Nat.le_refl _) (.bool true)).trans (t.mono hq)
    refine ⟨Or.inr (Or.inr (Or.inl ⟨e, by rw [e]; exact h2, q1⟩)), ?_⟩
    rw [left_ac h2, l0]
    decide
  · rw [if_neg e] at t
    have h1 := (((h.set3 x).set4 x').set5 true)
    have h2 := h1.on (t.mono (by simp only [size_set]; exact Nat.le_refl _))
    have q1 := (((q.setCell (p := ⟨b, 0 + 3, none⟩) (Nat.le_refl _) (.int .u64 x)).setCell (p := ⟨b, 0 + 4, none⟩) (Nat.le_refl _) (.int .u64 x')).setCell (p := ⟨b, 0 + 5, none⟩) (Nat.le_refl _) (.bool true)).trans (t.mono hq)
    refine ⟨Or.inr (Or.inl ⟨e, h2, q1⟩), ?_⟩
    rw [left_ac h2, l0]
    decide
theorem At.two {b g : Nat} {kind now d x x' code : Int} {w wr w1 : World} (hb : b = w.heap.size) (h : AC wr b 0 g kind now x x' true false 0 0 d x) (q : Below b w wr) (e : ¬ x' = x)
    (t : Below wr.heap.size ((((wr.setCell ⟨b, 0 + 8, none⟩ (.int .i64 (0 + 1))).setCell ⟨g, 1, none⟩ (.int .u64 x')).setCell ⟨b, 0 + 6, none⟩ (.bool true)).setCell ⟨b, 0 + 5, none⟩ (.bool false)) w1) : At b g kind now d x x' code w w1 ∧ left b w1 < left b wr := by
  have l0 := left_ac h
  have hq : b ≤ wr.heap.size := by rw [hb]; exact q.size
  have h1 := ((((h.set8 (0 + 1)).setw x').set6 true).set5 false)
  have h2 := h1.on (t.mono (by simp only [size_set]; exact Nat.le_refl _))
  have q1 := (((Below.both (q.setCell (p := ⟨b, 0 + 8, none⟩) (Nat.le_refl _) (.int .i64 (0 + 1))) ⟨g, 1, none⟩ (.int .u64 x')).setCell (p := ⟨b, 0 + 6, none⟩) (Nat.le_refl _) (.bool true)).setCell (p := ⟨b, 0 + 5, none⟩) (Nat.le_refl _) (.bool false)).trans (t.mono hq)
  refine ⟨Or.inr (Or.inr (Or.inr ⟨e, h2, q1⟩)), ?_⟩
  rw [left_ac h2, l0]
  decide
set_option maxHeartbeats 2000000 in
theorem does_any (kind : Int) (hk : kind = 1 ∨ kind = 2 ∨ kind = 3) (g : Nat) (now d : Int) (v : VW) (hv : v.ok) (hd : 0 ≤ d ∧ d ≤ 2147483647) (hn : 0 ≤ now ∧ now ≤ 2147483647) (w : World) (h : w.heap[g]? = some (.cells #[.int .i64 d, .int .u64 v.num] 100)) :
    Calls Try.prog 42 #[.pointer (some ⟨g, 0, none⟩), .int .u8 kind, .int .i64 now] w fun e w' => e = .returned (.int .i64 (act kind d now v).2) ∧
      Below w.heap.size (w.setCell ⟨g, 1, none⟩ (.int .u64 (act kind d now v).1.num)) w' := by
  have S := fun b wr hA => step_first kind hk b 0 g now 0 0 0 0 d false v hv hn hd wr hA
  have T := fun b wr x x' hA => step_hit b 0 g kind now x' 0 0 d x false (by decide) wr hA
  have lg := heap_lt h
  have ht : isTick now = true := (isTick_iff now).mpr hn
  have h0 : AC (w.alloc (.cells #[.pointer (some ⟨g, 0, none⟩), .int .u8 kind, .int .i64 now, .int .u64 0, .int .u64 0, .bool false, .bool false, .int .i64 0, .int .i64 0] 106)) w.heap.size 0 g kind now 0 0 false false 0 0 d v.num :=
    AC.of (by omega) (heap_alloc_at _ _) (heap_alloc h)
  have h1 := Lib.hid h0
  have hc : Hid ((act kind d now v).1.num = v.num ∨ (act kind d now v).2 = 0) := Lib.hid (by
    by_cases e : (act kind d now v).1 = v
    · exact Or.inl (by rw [e])
    · exact Or.inr (act_code e))
  have hst : Hid (∀ c w', v.num = c → Below w.heap.size w w' → Below w.heap.size (w.setCell ⟨g, 1, none⟩ (.int .u64 c)) w') := Lib.hid (fun c w' e t => by subst e; exact Below.stay t h)
  clear h0 h hv hn hd hk
  generalize (act kind d now v).1.num = x' at *
  generalize (act kind d now v).2 = code at *
  generalize v.num = x at *
  generalize hB : w.heap.size = B at *
  go_enter Try.func42, Try.ntmps42
  go_wp2_with (first
    | (go_at_call 41; (with_reducible refine (tick_any _ _).mono ?_); rintro e w1 ⟨rfl, rfl⟩))
  go_loopw [20] (fun _ wr => At B g kind now d x x' code w wr) (fun _ wr => left B wr)
  case atStart => exact Or.inl ⟨h1.out, by rw [← hB]; exact below_al (Below.refl _ _) _⟩
  case round =>
    have hat := hrel
    clear h1
    rcases hat with ⟨hA, q⟩ | ⟨e, hA, q⟩ | ⟨e, hA, q⟩ | ⟨e, hA, q⟩
    · have K := S B wr hA
      have c6 : wr.cell? ⟨B, 6, none⟩ = some (.bool false) := hA.c6
      go_wp2_with (go_at_call 45; (with_reducible refine K.mono ?_); rintro e w1 ⟨rfl, hb⟩; replace hb := Lib.hid hb)
      go_roundw
      case rel => exact (At.one hB.symm hA q hb.out).1
      case measure => exact (At.one hB.symm hA q hb.out).2
    · have K := T B wr x x' hA
      have c6 : wr.cell? ⟨B, 6, none⟩ = some (.bool false) := hA.c6
      replace e := Lib.hid e
      go_wp2_with (go_at_call 45; (with_reducible refine K.mono ?_); rintro e w1 ⟨rfl, hb⟩; replace hb := Lib.hid hb)
      go_roundw
      case rel => exact (At.two hB.symm hA q e.out hb.out).1
      case measure => exact (At.two (code := code) hB.symm hA q e.out hb.out).2
    · have c6 : wr.cell? ⟨B, 6, none⟩ = some (.bool true) := hA.c6
      have c7 : wr.cell? ⟨B, 7, none⟩ = some (.int .i64 code) := hA.c7
      replace e := Lib.hid e
      go_wp2
      go_ret
      exact ⟨rfl, hst.out _ _ e.out.symm q⟩
    · have c6 : wr.cell? ⟨B, 6, none⟩ = some (.bool true) := hA.c6
      have c7 : wr.cell? ⟨B, 7, none⟩ = some (.int .i64 0) := hA.c7
      have hc0 : Hid (0 = code) := Lib.hid (by rcases hc.out with r | r; exact absurd r e; exact r.symm)
      replace e := Lib.hid e
      go_wp2
      go_ret
      exact ⟨ret_i64 hc0.out, q⟩
/-- what comes of a call: the word, the code -/
def wants (kind d now : Int) (v : VW) : VW × Int := if isTick now = true then act kind d now v else (v, 1)
theorem wants_ok {kind d now : Int} {v : VW} (h : v.ok) : (wants kind d now v).1.ok := by
  unfold wants
  split
  · rename_i q
    exact act_ok h ((isTick_iff now).mp q)
  · exact h
set_option maxHeartbeats 2000000 in
theorem does_all (kind : Int) (hk : kind = 1 ∨ kind = 2 ∨ kind = 3) (g : Nat) (now d : Int) (v : VW) (hv : v.ok) (hd : 0 ≤ d ∧ d ≤ 2147483647) (w : World) (h : w.heap[g]? = some (.cells #[.int .i64 d, .int .u64 v.num] 100)) :
    Calls Try.prog 42 #[.pointer (some ⟨g, 0, none⟩), .int .u8 kind, .int .i64 now] w fun e w' => e = .returned (.int .i64 (wants kind d now v).2) ∧
      Below w.heap.size (w.setCell ⟨g, 1, none⟩ (.int .u64 (wants kind d now v).1.num)) w' := by
  by_cases ht : isTick now = true
  · unfold wants
    rw [if_pos ht]
    exact does_any kind hk g now d v hv hd ((isTick_iff now).mp ht) w h
  · unfold wants
    rw [if_neg ht]
    replace ht : isTick now = false := by cases e : isTick now <;> simp_all
    have hb : Hid (Below w.heap.size (w.setCell ⟨g, 1, none⟩ (.int .u64 v.num)) w) := Lib.hid (Below.stay (Below.refl _ _) h)
    simp only
    generalize v.num = x at *
    clear h hk hv hd
    go_enter Try.func42, Try.ntmps42
    go_wp2_with (first
      | (go_at_call 41; (with_reducible refine (tick_any _ _).mono ?_); rintro e w1 ⟨rfl, rfl⟩))
    go_ret
    exact ⟨rfl, hb.out⟩
set_option maxHeartbeats 2000000 in
theorem wget_any (g : Nat) (now d : Int) (v : VW) (hv : v.ok) (hd : 0 ≤ d ∧ d ≤ 2147483647) (w : World) (h : w.heap[g]? = some (.cells #[.int .i64 d, .int .u64 v.num] 100)) :
    Calls Try.prog 14 #[.pointer (some ⟨g, 0, none⟩), .int .i64 now] w fun e w' => e = .returned (.int .i64 (wants 1 d now v).2) ∧
      Below w.heap.size (w.setCell ⟨g, 1, none⟩ (.int .u64 (wants 1 d now v).1.num)) w' := by
  have K := does_all 1 (by decide) g now d v hv hd w h
  generalize (wants 1 d now v).2 = code at *
  generalize (wants 1 d now v).1.num = x at *
  generalize v.num = x0 at *
  clear h
  go_enter Try.func14, Try.ntmps14
  go_wp2_with (go_at_call 42; (with_reducible refine K.mono ?_); rintro e w1 ⟨rfl, hb⟩)
  go_ret
  exact ⟨rfl, hb⟩
set_option maxHeartbeats 2000000 in
theorem wput_any (g : Nat) (now d : Int) (v : VW) (hv : v.ok) (hd : 0 ≤ d ∧ d ≤ 2147483647) (w : World) (h : w.heap[g]? = some (.cells #[.int .i64 d, .int .u64 v.num] 100)) :
    Calls Try.prog 15 #[.pointer (some ⟨g, 0, none⟩), .int .i64 now] w fun e w' => e = .returned (.int .i64 (wants 2 d now v).2) ∧
      Below w.heap.size (w.setCell ⟨g, 1, none⟩ (.int .u64 (wants 2 d now v).1.num)) w' := by
  have K := does_all 2 (by decide) g now d v hv hd w h
  generalize (wants 2 d now v).2 = code at *
  generalize (wants 2 d now v).1.num = x at *
  generalize v.num = x0 at *
  clear h
  go_enter Try.func15, Try.ntmps15
  go_wp2_with (go_at_call 42; (with_reducible refine K.mono ?_); rintro e w1 ⟨rfl, hb⟩)
  go_ret
  exact ⟨rfl, hb⟩
set_option maxHeartbeats 2000000 in
theorem wsweep_any (g : Nat) (now d : Int) (v : VW) (hv : v.ok) (hd : 0 ≤ d ∧ d ≤ 2147483647) (w : World) (h : w.heap[g]? = some (.cells #[.int .i64 d, .int .u64 v.num] 100)) :
    Calls Try.prog 16 #[.pointer (some ⟨g, 0, none⟩), .int .i64 now] w fun e w' => e = .returned (.int .i64 (wants 3 d now v).2) ∧
      Below w.heap.size (w.setCell ⟨g, 1, none⟩ (.int .u64 (wants 3 d now v).1.num)) w' := by
  have K := does_all 3 (by decide) g now d v hv hd w h
  generalize (wants 3 d now v).2 = code at *
  generalize (wants 3 d now v).1.num = x at *
  generalize v.num = x0 at *
  clear h
  go_enter Try.func16, Try.ntmps16
  go_wp2_with (go_at_call 42; (with_reducible refine K.mono ?_); rintro e w1 ⟨rfl, hb⟩)
  go_ret
  exact ⟨rfl, hb⟩
end Go.Proofs.Ytgnhddnhcfmipaa
