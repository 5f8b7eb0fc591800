/- Idle: a step that has read, walked: the word is compared and swapped. -/
import Derived.Test.YtgnhddnhcfmipaaStep
import Derived.Deep.CutBlock
namespace Go.Proofs.Ytgnhddnhcfmipaa
open Go.RowKit Go.BigFrame

set_option maxHeartbeats 4000000 in
set_option maxRecDepth 100000 in
theorem step_hit (b o g : Nat) (kind now nxt code tries d x : Int) (done : Bool) (ht : 0 ≤ tries ∧ tries < 9223372036854775807) (w : World) (h : AC w b o g kind now x nxt true done code tries d x) :
    Calls Try.prog 45 #[.pointer (some ⟨b, o, none⟩)] w fun e w' => e = .returned (.tuple #[]) ∧
      Below w.heap.size ((((w.setCell ⟨b, o + 8, none⟩ (.int .i64 (tries + 1))).setCell ⟨g, 1, none⟩ (.int .u64 nxt)).setCell ⟨b, o + 6, none⟩ (.bool true)).setCell ⟨b, o + 5, none⟩ (.bool false)) w' := by
  have ht1 : IntKind.i64.wrap (tries + 1) = tries + 1 := by rw [IntKind.wrap_i64]; omega
  have h1 := h.set8 (tries + 1)
  have c5 := h.c5
  have c8 : w.cell? ⟨b, o + 7 + 1, none⟩ = some (.int .i64 tries) := h.c8
  have f8 : w.frozen? ⟨b, o + 7 + 1, none⟩ = false := h.f 8
  have lt := h.lt
  clear h ht
  go_enter Try.func45, Try.ntmps45
  go_upto_region 2 with fail
  generalize hw1 : w.setCell ⟨b, o + 8, none⟩ (.int .i64 (tries + 1)) = w1 at *
  have hs1 := Lib.hid (show w1.heap.size = w.heap.size by rw [← hw1, size_set])
  have hX : ∀ W y done, AC W b o g kind now x nxt true done code (tries + 1) d y → W.cell? ⟨b, o, none⟩ = some (.pointer (some ⟨g, 0, none⟩)) ∧ W.cell? ⟨b, o + 3, none⟩ = some (.int .u64 x) ∧ W.cell? ⟨b, o + 4, none⟩ = some (.int .u64 nxt) :=
    fun W y _ h => ⟨h.c0, h.c3, h.c4⟩
  clear c5 c8 f8 ht1
  have hd1 := h1.drew
  clear lt
  go_region_held3 (fun W => W.cell? ⟨b, o, none⟩ = some (.pointer (some ⟨g, 0, none⟩)) ∧ W.cell? ⟨b, o + 3, none⟩ = some (.int .u64 x) ∧ W.cell? ⟨b, o + 4, none⟩ = some (.int .u64 nxt))
    (first | (with_reducible exact hX _ _ _ hd1) | (with_reducible exact hX _ _ _ h3) | (with_reducible exact hX _ _ _ (h3.set6 _)))
    (first
      | (go_at_call 59; (with_reducible refine (cas_any g x x nxt _ hd1.w1 hd1.wf).mono ?_); rintro e w3 ⟨rfl, hw3⟩; rw [if_pos rfl] at hw3; have h3 : AC w3 b o g kind now x nxt true done code (tries + 1) d nxt := (by (rw [hw3]; exact hd1.setw _)); have k6 : w3.cell? ⟨b, o + 5 + 1, none⟩ = some (.bool done) := h3.c6; have f6 : w3.frozen? ⟨b, o + 5 + 1, none⟩ = false := h3.f 6; rw [decide_eq_true rfl]; replace hw3 := Lib.hid hw3))
  clear hX
  generalize hw4 : w3.setCell ⟨b, o + 6, none⟩ (.bool true) = w4 at *
  have h4 : AC w4 b o g kind now x nxt true true code (tries + 1) d nxt := by rw [← hw4]; exact h3.set6 _
  have k5 := h4.c5
  have f5 : w4.frozen? ⟨b, o + 4 + 1, none⟩ = false := h4.f 5
  clear h3 h4 k6 f6 hd1 h1
  go_wp2
  refine bodyPost_ret (results_none rfl _ _ _) rfl ?_
  refine ⟨rfl, ?_⟩
  rw [← hs1.out]
  refine Below.both ?_ _ _
  rw [← hw4, hw3.out, hw1]
  exact Below.both (Below.both (Below.refl _ _).drew _ _) _ _
set_option maxHeartbeats 4000000 in
set_option maxRecDepth 100000 in
theorem step_miss (b o g : Nat) (kind now nxt code tries d x was : Int) (hne : ¬ x = was) (done : Bool) (ht : 0 ≤ tries ∧ tries < 9223372036854775807) (w : World) (h : AC w b o g kind now was nxt true done code tries d x) :
    Calls Try.prog 45 #[.pointer (some ⟨b, o, none⟩)] w fun e w' => e = .returned (.tuple #[]) ∧
      Below w.heap.size (((w.setCell ⟨b, o + 8, none⟩ (.int .i64 (tries + 1))).setCell ⟨b, o + 6, none⟩ (.bool false)).setCell ⟨b, o + 5, none⟩ (.bool false)) w' := by
  have ht1 : IntKind.i64.wrap (tries + 1) = tries + 1 := by rw [IntKind.wrap_i64]; omega
  have h1 := h.set8 (tries + 1)
  have c5 := h.c5
  have c8 : w.cell? ⟨b, o + 7 + 1, none⟩ = some (.int .i64 tries) := h.c8
  have f8 : w.frozen? ⟨b, o + 7 + 1, none⟩ = false := h.f 8
  have lt := h.lt
  clear h ht
  replace hne := Lib.hid hne
  go_enter Try.func45, Try.ntmps45
  go_upto_region 2 with fail
  generalize hw1 : w.setCell ⟨b, o + 8, none⟩ (.int .i64 (tries + 1)) = w1 at *
  have hs1 := Lib.hid (show w1.heap.size = w.heap.size by rw [← hw1, size_set])
  have hX : ∀ W y done, AC W b o g kind now was nxt true done code (tries + 1) d y → W.cell? ⟨b, o, none⟩ = some (.pointer (some ⟨g, 0, none⟩)) ∧ W.cell? ⟨b, o + 3, none⟩ = some (.int .u64 was) ∧ W.cell? ⟨b, o + 4, none⟩ = some (.int .u64 nxt) :=
    fun W y _ h => ⟨h.c0, h.c3, h.c4⟩
  clear c5 c8 f8 ht1
  have hd1 := h1.drew
  clear lt
  go_region_held3 (fun W => W.cell? ⟨b, o, none⟩ = some (.pointer (some ⟨g, 0, none⟩)) ∧ W.cell? ⟨b, o + 3, none⟩ = some (.int .u64 was) ∧ W.cell? ⟨b, o + 4, none⟩ = some (.int .u64 nxt))
    (first | (with_reducible exact hX _ _ _ hd1) | (with_reducible exact hX _ _ _ h3) | (with_reducible exact hX _ _ _ (h3.set6 _)))
    (first
      | (go_at_call 59; (with_reducible refine (cas_any g x was nxt _ hd1.w1 hd1.wf).mono ?_); rintro e w3 ⟨rfl, hw3⟩; rw [if_neg hne.out] at hw3; have h3 : AC w3 b o g kind now was nxt true done code (tries + 1) d x := (by (rw [hw3]; exact hd1)); have k6 : w3.cell? ⟨b, o + 5 + 1, none⟩ = some (.bool done) := h3.c6; have f6 : w3.frozen? ⟨b, o + 5 + 1, none⟩ = false := h3.f 6; rw [decide_eq_false hne.out]; replace hw3 := Lib.hid hw3))
  clear hX
  generalize hw4 : w3.setCell ⟨b, o + 6, none⟩ (.bool false) = w4 at *
  have h4 : AC w4 b o g kind now was nxt true false code (tries + 1) d x := by rw [← hw4]; exact h3.set6 _
  have k5 := h4.c5
  have f5 : w4.frozen? ⟨b, o + 4 + 1, none⟩ = false := h4.f 5
  clear h3 h4 k6 f6 hd1 h1
  go_wp2
  refine bodyPost_ret (results_none rfl _ _ _) rfl ?_
  refine ⟨rfl, ?_⟩
  rw [← hs1.out]
  refine Below.both ?_ _ _
  rw [← hw4, hw3.out, hw1]
  exact Below.both (Below.refl _ _).drew _ _
end Go.Proofs.Ytgnhddnhcfmipaa
