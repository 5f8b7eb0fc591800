/- Points: Change. -/
import Derived.Test.YthmdhmknadhjeaaLists
import Derived.IntWalk
namespace Go.Proofs.Ythmdhmknadhjeaa
open Go.RowKit Go.BigFrame

theorem elt39 : Elt Try.prog 39 47 2 16 := Elt.of (z := .agg #[.int .u8 0, .int .i64 0]) Try.underlying39 (by kernel_rfl) rfl (by decide) (by decide)
theorem elt42 : Elt Try.prog 42 81 2 16 := Elt.of (z := .agg #[.int .u8 0, .int .i64 0]) Try.underlying42 (by kernel_rfl) rfl (by decide) (by decide)

/-- a variable that a closure writes: its box, in block B; what it holds lies behind it -/
structure Boxd (w : World) (B : Nat) (e : TypeId) (T : TypeId) (size : Nat) (xs : List (List Value)) : Prop where
  v : ∃ v, w.heap[B]? = some (.cells #[v] T) ∧ Own w (B + 1) e size xs v

set_option maxHeartbeats 1000000 in
theorem put_any (s t : Int) (B : Nat) (xs : List Pt) (w : World) (h : Boxd w B 47 39 2 (xs.map srow)) (hx : (xs.length + 1) * 16 ≤ 140737488355328) :
    Calls Try.prog 45 #[.int .u8 s, .int .i64 t, .pointer (some ⟨B, 0, none⟩)] w fun e w' => e = .returned (.tuple #[]) ∧ Boxd w' B 47 39 2 ((xs ++ [(s, t)]).map srow) ∧ Below B w w' ∧ w.heap.size ≤ w'.heap.size := by
  obtain ⟨v, hv, hown⟩ := h.v
  have hBs : B < w.heap.size := heap_lt hv
  have c0 : w.cell? ⟨B, 0, none⟩ = some v := by rw [cell_of_row w B 0 _ 39 (0, 0) hv]; rfl
  go_enter Try.func45, Try.ntmps45
  go_wp2_with (at_builtin; refine wpList_push elt39 rfl _ _ rfl rfl (hown.alloc _) [.int .u8 s, .int .i64 t] w.heap.size 47 rfl (heap_alloc_at _ _) rfl (by simp [Value.oneCell']) (by rw [List.length_map]; omega) (by rw [size_al]; omega) ?_; intro v' w1 ho' hb' hs' hn' hgr'; have c1 : w1.heap[B]? = some (.cells #[v] 39) := (hb'.block B (by omega)).trans (heap_alloc hv); have f1 := frozen_row c1 0; obtain ⟨g, cap, rfl, hg1, hg2, hg3⟩ := Own.form ho' (by simp); have c2 : w1.cell? ⟨B, 0, none⟩ = some v := (cell_of_row w1 B 0 _ 39 (0, 0) c1); have H := Lib.hid (show Own w1 (B + 1) 47 2 ((xs ++ [(s, t)]).map srow) (.slice (some ⟨g, 0, none⟩) (xs.length + 1) cap) by simpa [srow] using ho'); clear ho' hn' hgr' hg3)
  go_end0
  refine ⟨rfl, ⟨_, heap_set c1 0 _, ?_⟩, ?_, ?_⟩
  · refine Own.keep (w := w1) ?_ fun k hk => ?_
    · exact H.out
    · cases hk
      exact Below.heap_setCell w1 _ _ _ (by show ¬ g = B; omega)
  · exact Below.setCell (p := ⟨B, 0, none⟩) (((below_al (Below.refl _ _) _).mono (show B ≤ w.heap.size by omega)).trans (hb'.mono (by omega))) (Nat.le_refl _) _
  · rw [size_set]; rw [size_al] at hs'; omega

/-! ### the plain answer -/
theorem chk_range : ∀ (l : List Pt) (k : Nat) (a : Pt), 0 ≤ a.1 → (chk k a l).2 = 0 → (∀ p ∈ l, 1 ≤ p.1 ∧ p.1 ≤ 1000000000000 ∧ 1 ≤ p.2 ∧ p.2 ≤ 1000000000000) ∧ (l ≠ [] → k + l.length ≤ 64)
  | [], _, _, _, _ => ⟨by simp, fun h => absurd rfl h⟩
  | p :: t, k, a, ha, h => by
    unfold chk at h
    by_cases hg : good k a p
    · rw [if_pos hg] at h
      obtain ⟨g1, g2, g3, g4, g5, g6⟩ := hg
      obtain ⟨r1, r2⟩ := chk_range t (k + 1) p (by omega) h
      refine ⟨fun q hq => ?_, fun _ => ?_⟩
      · rcases List.mem_cons.1 hq with rfl | hq
        · exact ⟨by omega, g3, g4, g6⟩
        · exact r1 q hq
      · by_cases ht : t = []
        · subst ht; simp; omega
        · have := r2 ht
          simp; omega
    · rw [if_neg hg] at h
      simp at h
theorem tab_range {l : List Pt} (h : (check l).2 = 0) : (∀ p ∈ l, 1 ≤ p.1 ∧ p.1 ≤ 1000000000000 ∧ 1 ≤ p.2 ∧ p.2 ≤ 1000000000000) ∧ l.length ≤ 64 ∧ 0 < l.length := by
  unfold check at h
  by_cases h0 : l = []
  · rw [if_pos h0] at h; simp at h
  · rw [if_neg h0] at h
    have := chk_range l 0 (0, 0) (by decide) h
    exact ⟨this.1, by have := this.2 h0; omega, List.length_pos_iff.2 h0⟩

def volt (a b y : Int) (n i : Nat) : Int := if i = n then b else if a < b then a + i * y else a - i * y
def volts (a b y : Int) (n k : Nat) : List Pt := (List.range k).map fun i => (1, volt a b y n (i + 1))
theorem volts_succ (a b y : Int) (n k : Nat) : volts a b y n (k + 1) = volts a b y n k ++ [(1, volt a b y n (k + 1))] := by
  unfold volts
  rw [List.range_succ, List.map_append]; rfl
theorem volts_length (a b y : Int) (n k : Nat) : (volts a b y n k).length = k := by simp [volts]
def gap (a b : Int) : Int := if a < b then b - a else a - b
def nst (a b y : Int) : Nat := (gap a b / y).toNat + (if gap a b % y = 0 then 0 else 1)
def pt (l : List Pt) (i : Int) : Pt := l.getD i.toNat (0, 0)
def badArg (l : List Pt) (i j y : Int) : Prop := i < 0 ∨ (l.length : Int) ≤ i ∨ j < 0 ∨ (l.length : Int) ≤ j ∨ y < 1
instance (l : List Pt) (i j y : Int) : Decidable (badArg l i j y) := by unfold badArg; infer_instance
def turn (l : List Pt) (i j y : Int) (n : Nat) : List Pt :=
  (if j < i then [(2, (pt l j).1)] else []) ++ volts (pt l i).2 (pt l j).2 y n n ++ (if i < j then [(2, (pt l j).1)] else [])
def chg (l : List Pt) (i j y : Int) : List Pt × Int :=
  if (check l).2 ≠ 0 then ([], 280)
  else if badArg l i j y then ([], 1)
  else if i = j then ([], 0)
  else if 4096 < nst (pt l i).2 (pt l j).2 y + 1 then ([], 1)
  else (turn l i j y (nst (pt l i).2 (pt l j).2 y), 0)

theorem check_code (l : List Pt) : (check l).2 ≠ 0 → (check l).2 = 280 := by
  intro h
  rcases check_two l with e | e
  · exact e
  · rw [e] at h; exact absurd rfl h

/-- what is laid ahead of the walk of Change, once the points are a table and the places are there -/
structure Step (l : List Pt) (i j : Nat) (y : Int) (a1 a2 b1 b2 : Int) : Prop where
  hi : i < l.length
  hj : j < l.length
  ea : l[i]? = some (a1, a2)
  eb : l[j]? = some (b1, b2)
  ra1 : 1 ≤ a1 ∧ a1 ≤ 1000000000000
  ra2 : 1 ≤ a2 ∧ a2 ≤ 1000000000000
  rb1 : 1 ≤ b1 ∧ b1 ≤ 1000000000000
  rb2 : 1 ≤ b2 ∧ b2 ≤ 1000000000000
  ry : 1 ≤ y
theorem chg_none {l : List Pt} {i j y : Int} (h : (check l).2 ≠ 0) : chg l i j y = ([], 280) := by unfold chg; rw [if_pos h]
theorem chg_arg {l : List Pt} {i j y : Int} (h : (check l).2 = 0) (hb : badArg l i j y) : chg l i j y = ([], 1) := by unfold chg; rw [if_neg (by simp [h]), if_pos hb]
theorem chg_same {l : List Pt} {i y : Int} (h : (check l).2 = 0) (hb : ¬ badArg l i i y) : chg l i i y = ([], 0) := by unfold chg; rw [if_neg (by simp [h]), if_neg hb, if_pos rfl]
theorem chg_many {l : List Pt} {i j y : Int} (h : (check l).2 = 0) (hb : ¬ badArg l i j y) (hij : i ≠ j) (hn : 4096 < nst (pt l i).2 (pt l j).2 y + 1) : chg l i j y = ([], 1) := by
  unfold chg; rw [if_neg (by simp [h]), if_neg hb, if_neg hij, if_pos hn]
theorem chg_turn {l : List Pt} {i j y : Int} (h : (check l).2 = 0) (hb : ¬ badArg l i j y) (hij : i ≠ j) (hn : ¬ 4096 < nst (pt l i).2 (pt l j).2 y + 1) :
    chg l i j y = (turn l i j y (nst (pt l i).2 (pt l j).2 y), 0) := by
  unfold chg; rw [if_neg (by simp [h]), if_neg hb, if_neg hij, if_neg hn]
theorem step_of {l : List Pt} {i j y : Int} (h : (check l).2 = 0) (hb : ¬ badArg l i j y) :
    ∃ (f t : Nat) (a1 a2 b1 b2 : Int), i = f ∧ j = t ∧ Step l f t y a1 a2 b1 b2 ∧ pt l i = (a1, a2) ∧ pt l j = (b1, b2) := by
  have hr := tab_range h
  unfold badArg at hb
  have hf : i.toNat < l.length := by omega
  have ht : j.toNat < l.length := by omega
  have ha := hr.1 _ (List.getElem_mem hf)
  have hb' := hr.1 _ (List.getElem_mem ht)
  refine ⟨i.toNat, j.toNat, l[i.toNat].1, l[i.toNat].2, l[j.toNat].1, l[j.toNat].2, by omega, by omega, ⟨hf, ht, List.getElem?_eq_getElem hf, List.getElem?_eq_getElem ht, ⟨ha.1, ha.2.1⟩, ⟨ha.2.2.1, ha.2.2.2⟩, ⟨hb'.1, hb'.2.1⟩, ⟨hb'.2.2.1, hb'.2.2.2⟩, by omega⟩, ?_, ?_⟩
  · unfold pt; simp [List.getD, hf]
  · unfold pt; simp [List.getD, ht]
theorem gap_range {a b : Int} (ha : 1 ≤ a ∧ a ≤ 1000000000000) (hb : 1 ≤ b ∧ b ≤ 1000000000000) : 0 ≤ gap a b ∧ gap a b ≤ 1000000000000 := by
  unfold gap; split <;> omega
theorem fin_chg {l : List Pt} {i j y n : Int} {v : Value} {xs : List Pt} (h : chg l i j y = (xs, n)) : Ending.returned (.tuple #[v, .int .i64 n]) = .returned (.tuple #[v, .int .i64 (chg l i j y).2]) := by rw [h]
theorem own_chg {l : List Pt} {i j y n : Int} {v : Value} {xs : List Pt} {w : World} {B : Nat} {e : TypeId} (h : chg l i j y = (xs, n)) (ho : Own w B e 2 (xs.map srow) v) : Own w B e 2 ((chg l i j y).1.map srow) v := by rw [h]; exact ho
end Go.Proofs.Ythmdhmknadhjeaa
