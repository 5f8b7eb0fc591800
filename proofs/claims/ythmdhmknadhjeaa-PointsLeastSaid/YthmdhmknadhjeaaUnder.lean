/- Points: Under: a range over slices.Backward. -/
import Derived.RangeFuncNested
import Derived.RangeFuncBound
import Derived.RangeFuncCalls
import Derived.RangeFuncLeaves
import Derived.RangeFuncBox
import Derived.Shelf.Abstract
import Derived.Shelf.RegionOpen
import Derived.WalkKit
import Derived.OwnWalkIn
import Derived.TacticsInMore
import Derived.LoopNIn
import Derived.LoopIn
import Derived.Outline
import Derived.Test.YthmdhmknadhjeaaBase3
namespace Go.Proofs.Ythmdhmknadhjeaa
open Go.RowKit Go.Shelf

/-- the greatest place below k whose volts are no more than v; -1: there is none -/
def lst (l : List Pt) (v : Int) : Nat → Int
  | 0 => -1
  | k + 1 => if (l.getD k (0, 0)).2 ≤ v then (k : Int) else lst l v k
def und (l : List Pt) (v : Int) : Int × Int :=
  if (check l).2 ≠ 0 then (0, 280) else if lst l v l.length < 0 then (0, 6) else (lst l v l.length, 0)

def upto {α : Type} (f : Nat → α) (k : Nat) : List α := (List.range k).map f
theorem upto_succ {α : Type} (f : Nat → α) (k : Nat) : upto f (k + 1) = upto f k ++ [f k] := by simp [upto, List.range_succ]
theorem upto_length {α : Type} (f : Nat → α) (k : Nat) : (upto f k).length = k := by simp [upto]
/-- what a round keeps: what lay below n₀, and the iterator's own box -/
def KpB (n₀ Bs : Nat) (W W' : World) : Prop := Below n₀ W W' ∧ W'.heap[Bs]? = W.heap[Bs]?
theorem KpB.refl (n₀ Bs : Nat) (W : World) : KpB n₀ Bs W W := ⟨Below.refl _ _, rfl⟩
theorem KpB.trans {n₀ Bs : Nat} {A B C : World} (h : KpB n₀ Bs A B) (k : KpB n₀ Bs B C) : KpB n₀ Bs A C := ⟨h.1.trans k.1, k.2.trans h.2⟩
theorem box_cell {W W' : World} {B : Nat} {v : Value} (h : W'.heap[B]? = W.heap[B]?) (hc : W.cell? ⟨B, 0, none⟩ = some v) : W'.cell? ⟨B, 0, none⟩ = some v := by rw [← hc]; exact World.cell?_of_block h
/-- the k-th from behind -/
def bk (l : List Pt) (k : Nat) : Nat × Pt := (l.length - 1 - k, l.getD (l.length - 1 - k) (0, 0))
abbrev encb (x : Nat × Pt) : Array Value := #[.int .i64 (x.1 : Int), .agg #[.int .i64 x.2.1, .int .i64 x.2.2]]

section
attribute [local go_sem] Oper.semAt_some

set_option maxRecDepth 100000 in
set_option maxHeartbeats 2000000 in
theorem back_walk (n : Nat) (hn : 1 ≤ n) (l Bs n₀ b off c : Nat) (zs : List Pt) (hlen : zs.length ≤ 9223372036854775807) (hb : b < n₀) (J Jx : List (Nat × Pt) → World → Prop)
    (hY : ∀ pre x W, J pre W → pre.length < zs.length → YieldAt Fence.wide (n - 1) Try.prog l (encb x) W fun e W' =>
      (e = .returned (.bool true) ∧ J (pre ++ [x]) W' ∧ KpB n₀ Bs W W') ∨ (e = .returned (.bool false) ∧ Jx (pre ++ [x]) W'))
    (W : World) (hBs : W.cell? ⟨Bs, 0, none⟩ = some (.slice (some ⟨b, off, none⟩) zs.length c))
    (hc : ∀ j, j < zs.length → W.cell? ⟨b, off + j * 2, none⟩ = some (.int .i64 (zs.getD j (0, 0)).1) ∧ W.cell? ⟨b, off + j * 2 + 1, none⟩ = some (.int .i64 (zs.getD j (0, 0)).2)) (h0 : J [] W) :
    CallsIn Fence.wide n Try.prog 63 #[.func (.yield l) #[] #[], .pointer (some ⟨Bs, 0, none⟩)] W fun e W' => (∃ v, e = .returned v) ∧
      ((∃ ys, ys = upto (bk zs) zs.length ∧ J ys W') ∨ (∃ pre, (∃ k, k ≤ zs.length ∧ pre = upto (bk zs) k) ∧ Jx pre W')) := by
  refine callsIn_of_wp Try.func63 rfl trivial ?_ rfl
  simp only [Try.ntmps63, List.size_toArray, List.length_cons, List.length_nil, Nat.reduceAdd, Nat.reduceSub, Array.replicate_succ, Array.replicate_zero, List.push_toArray, List.append_toArray, List.nil_append, List.cons_append]
  gi_wp2
  gi_loopw [3] (fun i wr => ∃ m : Nat, m ≤ zs.length ∧ i = .int .i64 ((m : Int) - 1) ∧ J (upto (bk zs) (zs.length - m)) wr ∧ KpB n₀ Bs W wr)
    (fun i _ => (intOf i + 1).toNat)
  case atStart => exact ⟨zs.length, Nat.le_refl _, rfl, by rw [Nat.sub_self]; exact h0, KpB.refl _ _ _⟩
  case round =>
    obtain ⟨m, hm, rfl, hJs, hnx⟩ := hrel
    have hBs' := box_cell hnx.2 hBs
    cases m with
    | zero =>
      gi_wp2
      go_end0
      exact ⟨⟨_, rfl⟩, .inl ⟨_, rfl, hJs⟩⟩
    | succ m =>
      have hx : bk zs (zs.length - (m + 1)) = (m, zs.getD m (0, 0)) := by
        unfold bk
        rw [show zs.length - 1 - (zs.length - (m + 1)) = m by omega]
      obtain ⟨c1, c2⟩ := hc m (by omega)
      have c1' := (hnx.1.cell (p := ⟨b, off + m * 2, none⟩) hb).trans c1
      have c2' := (hnx.1.cell (p := ⟨b, off + m * 2 + 1, none⟩) hb).trans c2
      obtain ⟨fn, tmps, assign, body, hy, hR⟩ := hY _ (m, zs.getD m (0, 0)) wr hJs (by rw [upto_length]; omega)
      dsimp only [encb] at hy
      have hx := Lib.hid hx
      clear c1 c2 hc
      have em : ((m + 1 : Nat) : Int) - 1 = (m : Int) := by omega
      rw [em]
      clear em
      generalize (zs.getD m (0, 0)).1 = q1 at *
      generalize (zs.getD m (0, 0)).2 = q2 at *
      have hml : m < zs.length := hm
      gi_wp2
      refine hR.mono ?_
      rintro e W3 (⟨rfl, hJ3, hk3⟩ | ⟨rfl, hJx3⟩)
      · gi_wp2
        go_roundw
        case rel => exact ⟨m, by omega, rfl, by rw [show zs.length - m = zs.length - (m + 1) + 1 by omega, upto_succ, hx.out]; exact hJ3, hnx.trans hk3⟩
        case measure => simp [intOf]
      · gi_wp2
        refine bodyPost_ret (results_none rfl _ _ _) rfl ?_
        exact ⟨⟨_, rfl⟩, .inr ⟨_, ⟨zs.length - m, by omega, by rw [show zs.length - m = zs.length - (m + 1) + 1 by omega, upto_succ, hx.out]⟩, hJx3⟩⟩

theorem back_stops (n : Nat) (hn : 1 ≤ n) (Bs n₀ b off c : Nat) (zs : List Pt) (hlen : zs.length ≤ 9223372036854775807) (w : World) (hBs : Bs < w.heap.size) (hb : b < n₀) (hn₀ : n₀ ≤ w.heap.size)
    (hBc : w.cell? ⟨Bs, 0, none⟩ = some (.slice (some ⟨b, off, none⟩) zs.length c))
    (hc : ∀ j, j < zs.length → w.cell? ⟨b, off + j * 2, none⟩ = some (.int .i64 (zs.getD j (0, 0)).1) ∧ w.cell? ⟨b, off + j * 2 + 1, none⟩ = some (.int .i64 (zs.getD j (0, 0)).2)) :
    SeqStopsK Fence.wide n Try.prog 63 #[.pointer (some ⟨Bs, 0, none⟩)] encb (KpB n₀ Bs) (fun ys => ys = upto (bk zs) zs.length) (fun pre => ∃ k, k ≤ zs.length ∧ pre = upto (bk zs) k) zs.length w := fun l J Jx W hW _ _ hY h0 =>
  back_walk n hn l Bs n₀ b off c zs hlen hb J Jx hY W ((hW.cell (p := ⟨Bs, 0, none⟩) hBs).trans hBc)
    (fun j hj => ⟨(hW.cell (p := ⟨b, off + j * 2, none⟩) (by show b < _; omega)).trans (hc j hj).1, (hW.cell (p := ⟨b, off + j * 2 + 1, none⟩) (by show b < _; omega)).trans (hc j hj).2⟩) h0

/-- what has come is above v -/
def Above (v : Int) (pre : List (Nat × Pt)) : Prop := ∀ p ∈ pre, ¬ p.2.2 ≤ v
/-- the last that has come is the first that is not -/
def Hit (v : Int) (s : Nat) (pre : List (Nat × Pt)) (W : World) : Prop :=
  ∃ ini last, pre = ini ++ [last] ∧ Above v ini ∧ last.2.2 ≤ v ∧ Boxed W (s + 1) 3 (.int .i64 (last.1 : Int)) ∧ Boxed W (s + 1 + 1) 29 (.int .i64 0)
theorem above_snoc {v : Int} {pre : List (Nat × Pt)} {x : Nat × Pt} (h : Above v pre) (hx : ¬ x.2.2 ≤ v) : Above v (pre ++ [x]) := by
  intro p hp
  rcases List.mem_append.1 hp with h' | h'
  · exact h p h'
  · rw [List.mem_singleton.1 h']; exact hx
theorem lst_above {l : List Pt} {v : Int} : ∀ k j, k + j = l.length → Above v (upto (bk l) k) → lst l v l.length = lst l v j
  | 0, j, h, _ => by rw [show j = l.length by omega]
  | k + 1, j, h, ha => by
    rw [upto_succ] at ha
    have h1 : Above v (upto (bk l) k) := fun p hp => ha p (List.mem_append_left _ hp)
    rw [lst_above k (j + 1) (by omega) h1]
    have h2 := ha (bk l k) (by simp)
    unfold bk at h2
    simp only [show l.length - 1 - k = j by omega] at h2
    exact if_neg h2
theorem lst_hit {l : List Pt} {v : Int} {k : Nat} (hk : k < l.length) (ha : Above v (upto (bk l) k)) (hv : (bk l k).2.2 ≤ v) : lst l v l.length = ((bk l k).1 : Int) := by
  rw [lst_above k (l.length - 1 - k + 1) (by omega) ha]
  exact if_pos hv
theorem back_any (a : Option Addr) (len cap : Nat) (w : World) (n : Nat) :
    CallsIn Fence.wide n Try.prog 51 #[.slice a len cap] w fun e w' => e = .returned (.func (.func 63) #[] #[.pointer (some ⟨w.heap.size, 0, none⟩)]) ∧ w' = w.alloc (.cells #[.slice a len cap] 25) := by
  refine callsIn_of_wp Try.func51 rfl trivial ?_ rfl
  simp only [Try.ntmps51, List.size_toArray, List.length_cons, List.length_nil, Nat.reduceAdd, Nat.reduceSub, Array.replicate_succ, Array.replicate_zero, List.push_toArray, List.append_toArray, List.nil_append, List.cons_append]
  gi_wp2
  go_ret
  exact ⟨rfl, rfl⟩

set_option maxRecDepth 100000 in
set_option maxHeartbeats 2000000 in
theorem under_tab (l : List Pt) (A : Option Addr) (c : Nat) (v : Int) (w : World) (h : Pts w A l) (hc : (check l).2 = 0) (hl0 : 0 < l.length) (n : Nat) (hn : 3 ≤ n) :
    CallsIn Fence.wide n Try.prog 25 #[.slice A l.length c, .int .i64 v] w fun e w' => e = .returned (.tuple #[.int .i64 (und l v).1, .int .i64 (und l v).2]) ∧ Below w.heap.size w w' := by
  have h1 : 1 ≤ n := by omega
  have B := fun w0 hh => bad_any l A c w0 hh
  rw [hc] at B
  refine callsIn_of_wp_marks Try.func25 rfl trivial ?_ rfl
  simp only [Try.ntmps25, List.size_toArray, List.length_cons, List.length_nil, Nat.reduceAdd, Nat.reduceSub, Array.replicate_succ, Array.replicate_zero, List.push_toArray, List.append_toArray, List.nil_append, List.cons_append]
  have hB3 : ∀ o1 o2 o3 : Obj, Below w.heap.size w (((w.alloc o1).alloc o2).alloc o3) := fun o1 o2 o3 => (((Below.refl _ w).alloc (Nat.le_refl _) _).alloc (by simp) _).alloc (by simp; omega) _
  gi_wp2_with (first
    | (refine ⟨trivial, ?_⟩; gi_at_call 41; refine (callsIn_wide.2 (B _ (h.below (hB3 _ _ _)))).mono ?_; rintro e w1 ⟨rfl, hb1⟩)
    | (refine ⟨trivial, ?_⟩; gi_at_call 51; refine (back_any _ _ _ _ _).mono ?_; rintro e w2 ⟨rfl, rfl⟩))
  have hs1 := hb1.size
  simp only [World.size_alloc] at hs1
  have bV : Boxed w1 w.heap.size 2 (.int .i64 v) := (hb1.block _ (by simp; omega)).trans (((Boxed.new w 2 (.int .i64 v)).alloc (.cells #[.int .i64 0] 3)).alloc (.cells #[.int .i64 0] 29))
  have bI : Boxed w1 (w.heap.size + 1) 3 (.int .i64 0) := (hb1.block _ (by simp)).trans (by have := (Boxed.new (w.alloc (.cells #[.int .i64 v] 2)) 3 (.int .i64 0)).alloc (.cells #[.int .i64 0] 29); rw [World.size_alloc] at this; exact this)
  have bE : Boxed w1 (w.heap.size + 1 + 1) 29 (.int .i64 0) := (hb1.block _ (by simp)).trans (by have := Boxed.new ((w.alloc (.cells #[.int .i64 v] 2)).alloc (.cells #[.int .i64 0] 3)) 29 (.int .i64 0); simp only [World.size_alloc] at this; exact this)
  have hB1 : Below w.heap.size w w1 := (hB3 _ _ _).trans (hb1.mono (by simp; omega))
  obtain ⟨b, off, rfl, _⟩ := h.at_ hl0
  have bN := Boxed.new w1 25 (.slice (some ⟨b, off, none⟩) l.length c)
  have hblt : b < w1.heap.size ∧ ∀ j, j < l.length → w1.cell? ⟨b, off + j * 2, none⟩ = some (.int .i64 (l.getD j (0, 0)).1) ∧ w1.cell? ⟨b, off + j * 2 + 1, none⟩ = some (.int .i64 (l.getD j (0, 0)).2) := by
    obtain ⟨b0, o0, e0, hb0, _⟩ := (h.below hB1).at_ hl0
    cases e0
    refine ⟨hb0, fun j hj => ?_⟩
    obtain ⟨b1, o1, e1, hb1, c1, c2⟩ := (h.below hB1).at_ hj
    cases e1
    rw [show l.getD j (0, 0) = l[j] by simp [List.getD, hj]]
    exact ⟨c1, c2⟩
  obtain ⟨W0, hW0⟩ : ∃ W0, w1.alloc (.cells #[.slice (some ⟨b, off, none⟩) l.length c] 25) = W0 := ⟨_, rfl⟩
  have hsz : W0.heap.size = w1.heap.size + 1 := by rw [← hW0]; simp
  have hB0 : Below w.heap.size w W0 := by rw [← hW0]; exact hB1.alloc (by omega) _
  have bV0 : Boxed W0 w.heap.size 2 (.int .i64 v) := by rw [← hW0]; exact bV.alloc _
  have bI0 : Boxed W0 (w.heap.size + 1) 3 (.int .i64 0) := by rw [← hW0]; exact bI.alloc _
  have bE0 : Boxed W0 (w.heap.size + 1 + 1) 29 (.int .i64 0) := by rw [← hW0]; exact bE.alloc _
  have hc0 : ∀ j, j < l.length → W0.cell? ⟨b, off + j * 2, none⟩ = some (.int .i64 (l.getD j (0, 0)).1) ∧ W0.cell? ⟨b, off + j * 2 + 1, none⟩ = some (.int .i64 (l.getD j (0, 0)).2) := fun j hj => by
    rw [← hW0, World.cell?_alloc_lt _ _ _ hblt.1, World.cell?_alloc_lt _ _ _ hblt.1]
    exact hblt.2 j hj
  rw [hW0] at bN ⊢
  clear hW0 bV bI bE hb1 B
  have hsl := h.le
  have hbw : b < w.heap.size := by
    obtain ⟨b0, o0, e0, hb0, _⟩ := h.at_ hl0
    cases e0
    exact hb0
  refine wpIn_rangeFunc_ownH rfl h1 (gf := 63) (lb := #[.pointer (some ⟨w1.heap.size, 0, none⟩)]) rfl trivial (enters_of Try.func63 (by kernel_rfl) rfl)
    (back_stops (n - 1) (by omega) w1.heap.size w.heap.size b off c l hsl W0 (by omega) hbw (by omega) bN.cell hc0) (fun h k => h.trans k) (fun W l o o' hl hlo hc _ => ⟨belowK_b (n₀ := w.heap.size) (w := W0) (by omega) W l o o' hl hlo hc ‹_›, World.putObj_heap_other (by omega)⟩) (Below.refl _ _) (fun _ => rfl)
    (fun pre W => ((Boxed W w.heap.size 2 (.int .i64 v) ∧ Boxed W (w.heap.size + 1) 3 (.int .i64 0) ∧ Boxed W (w.heap.size + 1 + 1) 29 (.int .i64 0) ∧ Boxed W w1.heap.size 25 (.slice (some ⟨b, off, none⟩) l.length c)) ∧ Above v pre) ∧ Below w.heap.size w W)
    (fun c pre W => (c = .ret ∧ Hit v w.heap.size pre W) ∧ Below w.heap.size w W)
    (OwnFrom.and (Own.from (fun s A B row hs hg hr => ⟨⟨boxed_own _ _ (fun (_ : Unit) => _) () A B row hs.1.1 hg hr, boxed_own _ _ (fun (_ : Unit) => _) () A B row hs.1.2.1 hg hr, boxed_own _ _ (fun (_ : Unit) => _) () A B row hs.1.2.2.1 hg hr, boxed_own _ _ (fun (_ : Unit) => _) () A B row hs.1.2.2.2 hg hr⟩, hs.2⟩) _) (ownFrom_below (Nat.le_refl _) (by omega)))
    (fun c => OwnFrom.and (Own.from (fun s A B row hs hg hr => by obtain ⟨hc, ini, last, e1, e2, e3, e4, e5⟩ := hs; exact ⟨hc, ini, last, e1, e2, e3, boxed_own _ _ (fun (_ : Unit) => _) () A B row e4 hg hr, boxed_own _ _ (fun (_ : Unit) => _) () A B row e5 hg hr⟩) _) (ownFrom_below (Nat.le_refl _) (by omega)))
    ⟨⟨⟨bV0, bI0, bE0, bN⟩, fun _ h => by cases h⟩, hB0⟩
    (fun x a' W => ∃ Bx, w.heap.size + 1 + 1 < Bx ∧ W.heap[Bx]? = some (.cells #[.int .i64 x.2.1, .int .i64 x.2.2] 36) ∧
      a' = { tmps := #[Value.slice (some ⟨b, off, none⟩) l.length c, Value.int IntKind.i64 v, undef, Value.pointer (some { block := w.heap.size, off := 0 }), Value.pointer (some { block := w.heap.size + 1, off := 0 }), Value.pointer (some { block := w.heap.size + 1 + 1, off := 0 }), Value.int IntKind.i64 0, .int .i64 (x.1 : Int), .pointer (some ⟨Bx, 0, none⟩),
          Value.slice (some ⟨b, off, none⟩) l.length c, Value.int IntKind.i64 0, Value.int IntKind.i64 0, Value.bool false, undef, Value.slice (some ⟨b, off, none⟩) l.length c, Value.func (Fn.func 63) #[] #[Value.pointer (some { block := w1.heap.size, off := 0 })], .int .i64 (x.1 : Int), .agg #[.int .i64 x.2.1, .int .i64 x.2.2], undef, undef, undef, undef, undef], defers := [] })
    (fun x a' _ X Y row hs hg hr => by
      obtain ⟨Bx, h1, h2, h3⟩ := hs
      refine ⟨Bx, h1, (hg.block Bx (heap_lt h2) fun e => ?_).trans h2, h3⟩
      obtain ⟨_, o, ho, hn⟩ := hr _ e.symm
      rw [h2] at ho
      cases ho
      cases hn)
    ?assign ?body ?done ?stop
  case assign =>
    rintro l pre x W K ⟨⟨⟨bV1, bI1, bE1, bN1⟩, hp⟩, hB1⟩ hK
    gi_wp2
    exact hK _ _ ((KeepsOthers.alloc _ _).from _) ⟨(Below.refl _ W).alloc hB1.size _, Below.heap_alloc W _ _ bN1.lt⟩ ⟨⟨⟨bV1.alloc _, bI1.alloc _, bE1.alloc _, bN1.alloc _⟩, hp⟩, hB1.alloc hB1.size _⟩ ⟨W.heap.size, bE1.lt, heap_alloc_at _ _, rfl⟩
  case body =>
    rintro l pre x a' W hl ⟨r, hr⟩ ⟨⟨⟨bV1, bI1, bE1, bN1⟩, hp⟩, hB1⟩ ⟨Bx, hBx, bX, rfl⟩ hlt
    obtain ⟨cX1, cX2⟩ := cell_two bX
    have cV := bV1.cell
    have cI := bI1.cell
    have cE := bE1.cell
    have fI := bI1.frozen
    have fE := bE1.frozen
    obtain ⟨i, q1, q2⟩ := x
    simp only at cX1 cX2
    by_cases hx : q2 ≤ v
    · gi_wp2
      refine ⟨((KeepsOthers.setCell _ _ _).trans (KeepsOthers.setCell _ _ _)).from _, ⟨rfl, pre, (i, q1, q2), rfl, hp, hx, ?_, ?_⟩, ?_⟩
      · exact (bI1.set _).other (by omega) _
      · exact (bE1.other (by omega) _).set _
      · exact (hB1.setCell (p := ⟨w.heap.size + 1, 0, none⟩) (by simp) _).setCell (p := ⟨w.heap.size + 1 + 1, 0, none⟩) (by simp; omega) _
    · gi_wp2
      exact ⟨KeepsFrom.refl _ _, KpB.refl _ _ _, ⟨⟨bV1, bI1, bE1, bN1⟩, above_snoc hp (by show ¬ q2 ≤ v; omega)⟩, hB1⟩
  case done =>
    rintro D ys W hD rfl ⟨⟨⟨bV1, bI1, bE1, bN1⟩, hp⟩, hB1⟩ hK
    have cI := bI1.cell
    have cE := bE1.cell
    have fI := bI1.frozen
    have fE := bE1.frozen
    have hres : und l v = (0, 6) := by
      unfold und
      rw [if_neg (by simp [hc]), lst_above l.length 0 rfl hp]; rfl
    have hK' := ((KeepsOthers.setCell W ⟨w.heap.size + 1, 0, none⟩ (.int .i64 0)).trans (KeepsOthers.setCell _ ⟨w.heap.size + 1 + 1, 0, none⟩ (.int .i64 6))).same D _ hK rfl
    have c1 := cell_kept (show Boxed ((W.setCell ⟨w.heap.size + 1, 0, none⟩ (.int .i64 0)).setCell ⟨w.heap.size + 1 + 1, 0, none⟩ (.int .i64 6)) (w.heap.size + 1) 3 (.int .i64 0) from (bI1.set _).other (by omega) _).cell (grownBy_putObj' _ D (.deferred none)) (fun r e => by cases e; exact ⟨_, hK', rfl⟩)
    have c2 := cell_kept (show Boxed ((W.setCell ⟨w.heap.size + 1, 0, none⟩ (.int .i64 0)).setCell ⟨w.heap.size + 1 + 1, 0, none⟩ (.int .i64 6)) (w.heap.size + 1 + 1) 29 (.int .i64 6) from (bE1.other (by omega) _).set _).cell (grownBy_putObj' _ D (.deferred none)) (fun r e => by cases e; exact ⟨_, hK', rfl⟩)
    have hB2 := (hB1.setCell (p := ⟨w.heap.size + 1, 0, none⟩) (by simp) (.int .i64 0)).setCell (p := ⟨w.heap.size + 1 + 1, 0, none⟩) (by simp; omega) (.int .i64 6)
    have hres := Lib.hid hres
    have hKH := Lib.hid hK'
    have hc1 := Lib.hid c1
    have hc2 := Lib.hid c2
    clear hK' c1 c2
    gi_wp2
    refine ⟨by simp, .inl ⟨_, _, rfl, run_takeDeferred hKH.out, ?_⟩⟩
    refine ⟨.tuple #[.int .i64 0, .int .i64 6], ?_, (by first | rfl | rw [hres.out]), hB2.trans (belowK_b (w := w) (Nat.le_refl _) _ D _ _ (by omega) hKH.out rfl rfl)⟩
    simp [results, Try.f25, go_sem, hc1.out, hc2.out]
  case stop =>
    rintro D c pre W hD ⟨k, hk, rfl⟩ ⟨⟨rfl, ini, last, e1, e2, e3, bI1, bE1⟩, hB1⟩ hK
    have cI := bI1.cell
    have cE := bE1.cell
    obtain ⟨k', rfl⟩ : ∃ k', k = k' + 1 := by
      cases k with
      | zero => simp [upto] at e1
      | succ k' => exact ⟨k', rfl⟩
    rw [upto_succ] at e1
    obtain ⟨rfl, e5⟩ := List.append_inj' e1 rfl
    obtain rfl : bk l k' = last := by simpa using e5
    have hres : und l v = (((bk l k').1 : Int), 0) := by
      unfold und
      rw [if_neg (by simp [hc]), lst_hit (by omega) e2 e3, if_neg (by omega)]
    have hres := Lib.hid hres
    generalize (((bk l k').1 : Nat) : Int) = r at *
    have c1 := cell_kept bI1.cell (grownBy_putObj' _ D (.deferred none)) (fun r e => by cases e; exact ⟨_, hK, rfl⟩)
    have c2 := cell_kept bE1.cell (grownBy_putObj' _ D (.deferred none)) (fun r e => by cases e; exact ⟨_, hK, rfl⟩)
    have hc1 := Lib.hid c1
    have hc2 := Lib.hid c2
    have hKH := Lib.hid hK
    clear c1 c2 hK
    gi_wp2
    refine ⟨by simp, .inl ⟨_, _, rfl, run_takeDeferred hKH.out, ?_⟩⟩
    refine ⟨.tuple #[.int .i64 r, .int .i64 0], ?_, (by first | rfl | rw [hres.out]), hB1.trans (belowK_b (w := w) (Nat.le_refl _) _ D _ _ (by omega) hKH.out rfl rfl)⟩
    simp [results, Try.f25, go_sem, hc1.out, hc2.out]

set_option maxHeartbeats 1000000 in
theorem under_any (l : List Pt) (A : Option Addr) (c : Nat) (v : Int) (w : World) (h : Pts w A l) :
    Calls Try.prog 25 #[.slice A l.length c, .int .i64 v] w fun e w' => e = .returned (.tuple #[.int .i64 (und l v).1, .int .i64 (und l v).2]) ∧ Below w.heap.size w w' := by
  by_cases hc : (check l).2 = 0
  · have hl0 : 0 < l.length := by
      rcases Nat.eq_zero_or_pos l.length with z | z
      · rw [List.length_eq_zero_iff.1 z] at hc; cases hc
      · exact z
    exact callsIn_wide.1 (under_tab l A c v w h hc hl0 3 (Nat.le_refl _))
  · have h280 : (check l).2 = 280 := (check_two l).resolve_right fun e => hc (by rw [e])
    have hres := Lib.hid (show und l v = (0, 280) by unfold und; rw [if_pos hc])
    have B := fun w0 hh => bad_any l A c w0 hh
    rw [h280] at B
    go_enter Try.func25, Try.ntmps25
    have hB3 : ∀ o1 o2 o3 : Obj, Below w.heap.size w (((w.alloc o1).alloc o2).alloc o3) := fun o1 o2 o3 => (((Below.refl _ w).alloc (Nat.le_refl _) _).alloc (by simp) _).alloc (by simp; omega) _
    go_wp2_with (go_at_call 41; refine (B _ (h.below (hB3 _ _ _))).mono ?_; rintro e w1 ⟨rfl, hb1⟩; have hs1 := hb1.size; simp only [World.size_alloc] at hs1; have bI : Boxed w1 (w.heap.size + 1) 3 (.int .i64 0) := (hb1.block _ (by simp)).trans (by have := (Boxed.new (w.alloc (.cells #[.int .i64 v] 2)) 3 (.int .i64 0)).alloc (.cells #[.int .i64 0] 29); rw [World.size_alloc] at this; exact this); have bE : Boxed w1 (w.heap.size + 1 + 1) 29 (.int .i64 0) := (hb1.block _ (by simp)).trans (by have := Boxed.new ((w.alloc (.cells #[.int .i64 v] 2)).alloc (.cells #[.int .i64 0] 3)) 29 (.int .i64 0); simp only [World.size_alloc] at this; exact this); have cI := bI.cell; have fI := bI.frozen; have cE := bE.cell; have fE := bE.frozen; have hB1 : Below w.heap.size w w1 := (hB3 _ _ _).trans (hb1.mono (by simp; omega)))
    have c1 := (show Boxed ((w1.setCell ⟨w.heap.size + 1, 0, none⟩ (.int .i64 0)).setCell ⟨w.heap.size + 1 + 1, 0, none⟩ (.int .i64 280)) (w.heap.size + 1) 3 (.int .i64 0) from (bI.set _).other (by omega) _).cell
    have c2 := (show Boxed ((w1.setCell ⟨w.heap.size + 1, 0, none⟩ (.int .i64 0)).setCell ⟨w.heap.size + 1 + 1, 0, none⟩ (.int .i64 280)) (w.heap.size + 1 + 1) 29 (.int .i64 280) from (bE.other (by omega) _).set _).cell
    exact bodyPost_ret (v := .tuple #[.int .i64 0, .int .i64 280]) (by simp [results, Try.results25, go_sem, c1, c2]) rfl ⟨by rw [hres.out], (hB1.setCell (p := ⟨w.heap.size + 1, 0, none⟩) (by simp) _).setCell (p := ⟨w.heap.size + 1 + 1, 0, none⟩) (by simp; omega) _⟩
end
end Go.Proofs.Ythmdhmknadhjeaa
