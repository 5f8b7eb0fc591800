/- Rails: scripts of steps, opened. -/
import Derived.Test.YtbbjnhajmckjoaaOpen3
import Derived.Test.YtbbjnhajmckjoaaOpen2
namespace Go.Proofs.Ytbbjnhajmckjoaa
open Go.ChangeShapes Go.WideShapes Go.ChangeAt Go.RowKit Go.Deep

/-- a step of RailsSets' script -/
structure Sp where
  who : Int
  dr : Bool
  by_ : Int
  lo : Int
  hi : Int
def sprow (s : Sp) : List Value := [.int .i64 s.who, .bool s.dr, .int .i64 s.by_, .int .i64 s.lo, .int .i64 s.hi]
theorem cells4 : Try.prog.cellsOf 4 = 1 := by kernel_rfl
theorem cells71 : Try.prog.cellsOf 71 = 5 := by kernel_rfl
set_option maxRecDepth 100000 in
theorem want_trod {H : Type} {enc : TypeId × Value → H} {W : World} {n : Nat} {cs : List Value} {x : DataW H × List MemPlace} (h : DataW.trod enc Try.prog W 0 (fun _ => true) true n 57 cs = some x) : ∃ a b : Int, cs = [.int .i64 a, .int .i64 b] := by
  obtain ⟨xs, m, rfl, _, hlen, hxl, hf⟩ := DataW.trod_struct Try.underlying57 h
  rw [cells57] at hlen
  match cs, hlen with
  | [v0, v1], _ =>
    have q0 := hf 0 _ rfl
    have q1 := hf 1 _ rfl
    match xs, hxl with
    | [y0, y1], _ =>
      have r0 : DataW.trod enc Try.prog W 0 (fun _ => true) true m 2 (([v0, v1].drop 0).take (Try.prog.cellsOf 2)) = some y0 := q0
      have r1 : DataW.trod enc Try.prog W 0 (fun _ => true) true m 2 (([v0, v1].drop 1).take (Try.prog.cellsOf 2)) = some y1 := q1
      rw [cells2] at r0 r1
      simp only [List.drop_zero, List.drop_succ_cons, List.take_succ_cons, List.take_zero] at r0 r1
      obtain ⟨a, h0, _⟩ := DataW.trod_int Try.underlying2 r0
      obtain ⟨b, h1, _⟩ := DataW.trod_int Try.underlying2 r1
      simp only [List.cons.injEq, and_true] at h0 h1
      exact ⟨a, b, by rw [h0, h1]⟩
set_option maxRecDepth 100000 in
theorem step_trod {H : Type} {enc : TypeId × Value → H} {W : World} {n : Nat} {cs : List Value} {x : DataW H × List MemPlace} (h : DataW.trod enc Try.prog W 0 (fun _ => true) true n 71 cs = some x) : ∃ s : Sp, cs = sprow s ∧ (Lit.int .i64 s.by_).wf = true := by
  obtain ⟨xs, m, rfl, _, hlen, hxl, hf⟩ := DataW.trod_struct Try.underlying71 h
  rw [cells71] at hlen
  match cs, hlen with
  | [v0, v1, v2, v3, v4], _ =>
    have q0 := hf 0 _ rfl
    have q1 := hf 1 _ rfl
    have q2 := hf 2 _ rfl
    have q3 := hf 3 _ rfl
    match xs, hxl with
    | [y0, y1, y2, y3], _ =>
      have r0 : DataW.trod enc Try.prog W 0 (fun _ => true) true m 3 (([v0, v1, v2, v3, v4].drop 0).take (Try.prog.cellsOf 3)) = some y0 := q0
      have r1 : DataW.trod enc Try.prog W 0 (fun _ => true) true m 4 (([v0, v1, v2, v3, v4].drop 1).take (Try.prog.cellsOf 4)) = some y1 := q1
      have r2 : DataW.trod enc Try.prog W 0 (fun _ => true) true m 3 (([v0, v1, v2, v3, v4].drop 2).take (Try.prog.cellsOf 3)) = some y2 := q2
      have r3 : DataW.trod enc Try.prog W 0 (fun _ => true) true m 57 (([v0, v1, v2, v3, v4].drop 3).take (Try.prog.cellsOf 57)) = some y3 := q3
      rw [cells3] at r0 r2
      rw [cells4] at r1
      rw [cells57] at r3
      simp only [List.drop_zero, List.drop_succ_cons, List.take_succ_cons, List.take_zero] at r0 r1 r2 r3
      obtain ⟨a, h0, _⟩ := DataW.trod_int Try.underlying3 r0
      obtain ⟨b, h1, _⟩ := DataW.trod_bool Try.underlying4 r1
      obtain ⟨c, h2, _, hw⟩ := DataW.trod_int Try.underlying3 r2
      obtain ⟨p, q, h3⟩ := want_trod r3
      simp only [List.cons.injEq, and_true] at h0 h1 h2 h3
      exact ⟨⟨a, b, c, p, q⟩, by rw [h0, h1, h2, h3.1, h3.2]; rfl, hw⟩
def Sps (w : World) (A : Option Addr) (l : List Sp) : Prop := Sl (fun _ => True) w A 5 (l.map sprow)
theorem Sps.at_ {w : World} {A : Option Addr} {l : List Sp} (h : Sps w A l) {k : Nat} (hk : k < l.length) :
    ∃ b o, A = some ⟨b, o, none⟩ ∧ b < w.heap.size ∧ w.cell? ⟨b, o + k * 5, none⟩ = some (.int .i64 l[k].who) ∧ w.cell? ⟨b, o + k * 5 + 1, none⟩ = some (.bool l[k].dr) ∧ w.cell? ⟨b, o + k * 5 + 2, none⟩ = some (.int .i64 l[k].by_) ∧ w.cell? ⟨b, o + k * 5 + 3, none⟩ = some (.int .i64 l[k].lo) ∧ w.cell? ⟨b, o + k * 5 + 4, none⟩ = some (.int .i64 l[k].hi) := by
  obtain ⟨b, o, e, _, hl, hc⟩ := Sl.at_ h (k := k) (by simpa using hk)
  refine ⟨b, o, e, hl, ?_, ?_, ?_, ?_, ?_⟩
  · have := hc 0 (.int .i64 l[k].who) (by simp [sprow])
    rw [Nat.add_zero] at this; exact this
  · exact hc 1 (.bool l[k].dr) (by simp [sprow])
  · exact hc 2 (.int .i64 l[k].by_) (by simp [sprow])
  · exact hc 3 (.int .i64 l[k].lo) (by simp [sprow])
  · exact hc 4 (.int .i64 l[k].hi) (by simp [sprow])
theorem Sps.le {w : World} {A : Option Addr} {l : List Sp} (h : Sps w A l) : l.length ≤ 9223372036854775807 := by
  have := Sl.le h; simpa using this
theorem steps_trod {H : Type} {enc : TypeId × Value → H} {W : World} {n : Nat} {cs : List Value} {x : DataW H × List MemPlace} (h : DataW.trod enc Try.prog W 0 (fun _ => true) true n 60 cs = some x) :
    ∃ (A : Option Addr) (l : List Sp) (c : Nat), cs = [.slice A l.length c] ∧ Sps W A l ∧ (∀ s ∈ l, (Lit.int .i64 s.by_).wf = true) := by
  obtain ⟨A, l, c, h1, h2, _, _, h3, _⟩ := rows_trod sprow (fun s => (Lit.int .i64 s.by_).wf = true) Try.underlying60 cells71 (by decide) (fun _ => rfl) (fun n cs x h => step_trod h) h
  exact ⟨A, l, c, h1, h2, h3⟩
end Go.Proofs.Ytbbjnhajmckjoaa
