/- Idle: what IdleWords holds in memory: the list of steps, two words. -/
import Derived.Test.YtgnhddnhcfmipaaDoes2
namespace Go.Proofs.Ytgnhddnhcfmipaa
open Go.RowKit Go.BigFrame

/-- a step of IdleWords: who, kind, now -/
abbrev St := Int × Int × Int
def srow (s : St) : List Value := [.int .i64 s.1, .int .u8 s.2.1, .int .i64 s.2.2]
def Sts (w : World) (A : Option Addr) (l : List St) : Prop := Sl (fun _ => True) w A 3 (l.map srow)
theorem Sts.at_ {w : World} {A : Option Addr} {l : List St} (h : Sts w A l) {k : Nat} (hk : k < l.length) :
    ∃ b o, A = some ⟨b, o, none⟩ ∧ b < w.heap.size ∧ w.cell? ⟨b, o + k * 3, none⟩ = some (.int .i64 l[k].1) ∧ w.cell? ⟨b, o + k * 3 + 1, none⟩ = some (.int .u8 l[k].2.1) ∧ w.cell? ⟨b, o + k * 3 + 2, none⟩ = some (.int .i64 l[k].2.2) := by
  obtain ⟨b, o, e, _, hl, hc⟩ := Sl.at_ h (k := k) (by simpa using hk)
  refine ⟨b, o, e, hl, ?_, ?_, ?_⟩
  · exact hc 0 _ (by simp [srow])
  · exact hc 1 _ (by simp [srow])
  · exact hc 2 _ (by simp [srow])
theorem Sts.le {w : World} {A : Option Addr} {l : List St} (h : Sts w A l) : l.length ≤ 9223372036854775807 := by
  have := Sl.le h; simpa using this
theorem Sts.below {w w' : World} {A : Option Addr} {l : List St} (h : Sts w A l) (d : Below w.heap.size w w') : Sts w' A l := Sl.below' h d

/-- what New gives -/
def newp (d : Int) (w : World) : Value := if isTick d = true then .pointer (some ⟨w.heap.size, 0, none⟩) else .pointer none
def newe (d : Int) : Int := if isTick d = true then 0 else 1
def neww (d : Int) (w : World) : World := if isTick d = true then w.alloc (.cells #[.int .i64 d, .int .u64 0] 100) else w
theorem new_all (d : Int) (w : World) : Calls Try.prog 11 #[.int .i64 d] w fun e w' => e = .returned (.tuple #[newp d w, .int .i64 (newe d)]) ∧ w' = neww d w := by
  refine (new_any d w).mono ?_
  rintro e w' (⟨h, rfl, rfl⟩ | ⟨h, rfl, rfl⟩)
  · unfold newp newe neww
    simp [h]
  · unfold newp newe neww
    simp [h]
theorem neww_below {B : Nat} {u w : World} (d : Int) (h : Below B u w) (hB : B ≤ w.heap.size) : Below B u (neww d w) ∧ B ≤ (neww d w).heap.size := by
  unfold neww
  split
  · exact ⟨h.alloc hB _, by rw [size_al]; omega⟩
  · exact ⟨h, hB⟩
/-- a word: none, or at a block between B and n -/
def Wd (B n : Nat) (W : World) (p : Value) (d : Int) (v : VW) : Prop :=
  (isTick d = false ∧ p = .pointer none) ∨
  (isTick d = true ∧ ∃ g, B ≤ g ∧ g < n ∧ p = .pointer (some ⟨g, 0, none⟩) ∧ W.heap[g]? = some (.cells #[.int .i64 d, .int .u64 v.num] 100))
/-- words that are not the same -/
def Two (p q : Value) : Prop := ∀ g, p = .pointer (some ⟨g, 0, none⟩) → q = .pointer (some ⟨g, 0, none⟩) → False
def VW.zero : VW := ⟨0, false, 0, 0⟩
theorem VW.zero_ok : VW.zero.ok := by unfold VW.zero; refine ⟨?_, ?_, ?_, ?_, ?_, ?_⟩ <;> decide
theorem Wd.keep {B n : Nat} {W W' : World} {p : Value} {d : Int} {v : VW} (h : Wd B n W p d v) (hk : ∀ g, g < n → p = .pointer (some ⟨g, 0, none⟩) → W'.heap[g]? = W.heap[g]?) : Wd B n W' p d v := by
  rcases h with h | ⟨t, g, hB, hn, e, hg⟩
  · exact Or.inl h
  · exact Or.inr ⟨t, g, hB, hn, e, by rw [hk g hn e]; exact hg⟩
theorem new_wd (d : Int) (w : World) {B n : Nat} (hB : B ≤ w.heap.size) (hn : w.heap.size < n) : Wd B n (neww d w) (newp d w) d VW.zero := by
  unfold neww newp
  by_cases t : isTick d = true
  · rw [if_pos t, if_pos t]
    exact Or.inr ⟨t, _, hB, hn, rfl, heap_alloc_at _ _⟩
  · rw [if_neg t, if_neg t]
    exact Or.inl ⟨by cases e : isTick d <;> simp_all, rfl⟩
theorem neww_size (d : Int) (w : World) : (neww d w).heap.size ≤ w.heap.size + 1 ∧ w.heap.size ≤ (neww d w).heap.size := by
  unfold neww
  split
  · rw [size_al]; omega
  · omega
theorem neww_heap (d : Int) (w : World) {g : Nat} (hg : g < w.heap.size) : (neww d w).heap[g]? = w.heap[g]? := ((neww_below d (Below.refl w.heap.size w) (Nat.le_refl _)).1).block g hg
theorem new_two (d1 d2 : Int) (w : World) {B n : Nat} (hB : B ≤ w.heap.size) (hn : w.heap.size + 1 < n) :
    Wd B n (neww d2 (neww d1 w)) (newp d1 w) d1 VW.zero ∧ Wd B n (neww d2 (neww d1 w)) (newp d2 (neww d1 w)) d2 VW.zero ∧ Two (newp d1 w) (newp d2 (neww d1 w)) := by
  have s1 := neww_size d1 w
  refine ⟨?_, new_wd d2 _ (by omega) (by omega), ?_⟩
  · have h := new_wd d1 w (B := B) (n := n) hB (by omega)
    by_cases t : isTick d1 = true
    · refine h.keep fun g hg e => neww_heap d2 _ ?_
      unfold newp at e
      rw [if_pos t] at e
      injection e with e; injection e with e; injection e with e
      unfold neww
      rw [if_pos t, size_al]
      omega
    · exact Or.inl ⟨by cases e : isTick d1 <;> simp_all, by unfold newp; rw [if_neg t]⟩
  · intro g e1 e2
    unfold newp at e1 e2
    by_cases t : isTick d1 = true
    · rw [if_pos t] at e1
      injection e1 with e1; injection e1 with e1; injection e1 with e1
      by_cases u : isTick d2 = true
      · rw [if_pos u] at e2
        injection e2 with e2; injection e2 with e2; injection e2 with e2
        unfold neww at e2
        rw [if_pos t, size_al] at e2
        omega
      · rw [if_neg u] at e2
        injection e2 with e2; cases e2
    · rw [if_neg t] at e1
      injection e1 with e1; cases e1
theorem Wd.at_ {B n : Nat} {W : World} {p : Value} {d : Int} {v : VW} (h : Wd B n W p d v) : Wd B W.heap.size W p d v := by
  rcases h with h | ⟨t, g, hB, _, e, hg⟩
  · exact Or.inl h
  · exact Or.inr ⟨t, g, hB, heap_lt hg, e, hg⟩
/-- a round's worlds: the view is made (wx), the call is carried out (wy), the word is looked at (wz) -/
structure Thru (g : Nat) (x' : Int) (wr wx wy wz : World) : Prop where
  a : Below wr.heap.size wr wx
  b : Below wx.heap.size (wx.setCell ⟨g, 1, none⟩ (.int .u64 x')) wy
  c : Below wy.heap.size wy wz
section
variable {g : Nat} {x' : Int} {wr wx wy wz : World}
theorem Thru.size (h : Thru g x' wr wx wy wz) : wr.heap.size ≤ wx.heap.size ∧ wx.heap.size ≤ wy.heap.size ∧ wy.heap.size ≤ wz.heap.size := by
  have h1 := h.a.size
  have h2 := h.b.size
  have h3 := h.c.size
  rw [size_set] at h2
  exact ⟨h1, h2, h3⟩
theorem Thru.tail (h : Thru g x' wr wx wy wz) {j : Nat} (hj : j < wx.heap.size) (hg : j ≠ g) {x : Obj} (hx : wx.heap[j]? = some x) : wz.heap[j]? = some x := by
  have s := h.size
  rw [h.c.block j (by omega), h.b.block j hj]
  exact heap_set_far hx hg _
theorem Thru.far (h : Thru g x' wr wx wy wz) {j : Nat} (hg : j ≠ g) {x : Obj} (hx : wr.heap[j]? = some x) : wz.heap[j]? = some x := by
  have s := h.size
  have hj := heap_lt hx
  exact h.tail (by omega) hg ((h.a.block j hj).trans hx)
theorem Thru.word (h : Thru g x' wr wx wy wz) {d x : Int} (hx : wr.heap[g]? = some (.cells #[.int .i64 d, .int .u64 x] 100)) : wz.heap[g]? = some (.cells #[.int .i64 d, .int .u64 x'] 100) := by
  have s := h.size
  have hj := heap_lt hx
  rw [h.c.block g (by omega), h.b.block g (by omega)]
  exact heap_set ((h.a.block g hj).trans hx) 1 _
theorem Thru.below {B : Nat} {w : World} (h : Thru g x' wr wx wy wz) (hb : Below B w wr) (hg : B ≤ g) (hB : B ≤ wr.heap.size) : Below B w wz := by
  have s := h.size
  exact (((hb.trans (h.a.mono hB)).setCell (p := ⟨g, 1, none⟩) hg _).trans (h.b.mono (by omega))).trans (h.c.mono (by omega))
theorem Wd.turn {B n : Nat} {p : Value} {d : Int} {v : VW} (h : Thru g x' wr wx wy wz) (hw : Wd B n wr p d v) (hp : p ≠ .pointer (some ⟨g, 0, none⟩)) {W : World} (hW : ∀ j, j < n → W.heap[j]? = wz.heap[j]?) : Wd B n W p d v := by
  rcases hw with hw | ⟨t, j, hB, hn, e, hg⟩
  · exact Or.inl hw
  · exact Or.inr ⟨t, j, hB, hn, e, by rw [hW j hn]; exact h.far (fun q => hp (by rw [e, q])) hg⟩
end
theorem wants_other {kind d now : Int} {v : VW} (h1 : ¬ kind = 1) (h2 : ¬ kind = 2) (h3 : ¬ kind = 3) : (wants kind d now v).1 = v := by
  unfold wants act
  rw [if_neg h1, if_neg h2, if_neg h3]
  split <;> rfl
end Go.Proofs.Ytgnhddnhcfmipaa
