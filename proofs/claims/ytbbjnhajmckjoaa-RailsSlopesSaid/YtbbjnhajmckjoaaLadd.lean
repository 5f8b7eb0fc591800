/- Rails: a rail's rungs, how many and which. -/
import Derived.Test.YtbbjnhajmckjoaaMovesLaw
import Derived.OwnWalk
namespace Go.Proofs.Ytbbjnhajmckjoaa
open Go.RowKit Go.BigFrame

/-- may a rail be? -/
def RG (lo hi st : Int) : Prop := 1 ≤ lo ∧ lo ≤ hi ∧ hi ≤ 1000000000 ∧ 1 ≤ st ∧ st ≤ 1000000000
instance (lo hi st : Int) : Decidable (RG lo hi st) := by unfold RG; infer_instance
/-- how many rungs it has -/
def rn (lo hi st : Int) : Nat := if RG lo hi st then (if (hi - lo).tdiv st + 1 ≤ 1024 then ((hi - lo).tdiv st + 1).toNat else 0) else 0
def ladd (lo st : Int) (n : Nat) : List Int := (List.range n).map fun i : Nat => lo + (i : Int) * st
theorem ladd_len (lo st : Int) (n : Nat) : (ladd lo st n).length = n := by simp [ladd]
theorem ladd_at (lo st : Int) {n i : Nat} (h : i < n) : (ladd lo st n)[i]? = some (lo + (i : Int) * st) := by simp [ladd, h]
theorem ladd_succ (lo st : Int) (n : Nat) : ladd lo st (n + 1) = ladd lo st n ++ [lo + (n : Int) * st] := by simp [ladd, List.range_succ]
theorem rn_no {lo hi st : Int} (h : ¬ RG lo hi st) : rn lo hi st = 0 := by unfold rn; rw [if_neg h]
theorem q_bounds {lo hi st : Int} (h : RG lo hi st) : 0 ≤ (hi - lo).tdiv st ∧ (hi - lo).tdiv st ≤ 1000000000 := by
  obtain ⟨h1, h2, h3, h4, h5⟩ := h
  rw [Int.tdiv_eq_ediv_of_nonneg (by omega)]
  refine ⟨Int.ediv_nonneg (by omega) (by omega), ?_⟩
  exact Int.le_trans (Int.ediv_le_self st (by omega)) (by omega)
/-- a rung lies at or below the top -/
theorem q_le {lo hi st : Int} (h : RG lo hi st) (i : Nat) : (i : Int) ≤ (hi - lo).tdiv st ↔ lo + (i : Int) * st ≤ hi := by
  obtain ⟨h1, h2, h3, h4, h5⟩ := h
  rw [Int.tdiv_eq_ediv_of_nonneg (by omega), Int.le_ediv_iff_mul_le (by omega)]
  omega
theorem rn_le (lo hi st : Int) : rn lo hi st ≤ 1024 := by
  unfold rn
  split
  · split <;> omega
  · omega
/-- all its rungs lie at or below the top -/
theorem rn_at {lo hi st : Int} {i : Nat} (h : i < rn lo hi st) : RG lo hi st ∧ lo + (i : Int) * st ≤ hi := by
  unfold rn at h
  split at h
  · rename_i hr
    refine ⟨hr, (q_le hr i).1 ?_⟩
    split at h <;> omega
  · omega
theorem rn_many {lo hi st : Int} (h : RG lo hi st) (hq : lo + 1024 * st ≤ hi) : rn lo hi st = 0 := by
  have := (q_le h 1024).2 (by omega)
  unfold rn
  rw [if_pos h, if_neg (by omega)]
theorem rn_end {lo hi st : Int} (h : RG lo hi st) {k : Nat} (hk : k ≤ 1024) (h0 : ∀ i, i < k → lo + (i : Int) * st ≤ hi) (h1 : hi < lo + (k : Int) * st) : rn lo hi st = k := by
  have b := q_bounds h
  have n1 : ¬ (k : Int) ≤ (hi - lo).tdiv st := fun hh => by have := (q_le h k).1 hh; omega
  have hk0 : 0 < k := by
    rcases Nat.eq_zero_or_pos k with rfl | q
    · obtain ⟨_, h2, _⟩ := h
      simp at h1; omega
    · exact q
  have n2 := (q_le h (k - 1)).2 (h0 (k - 1) (by omega))
  unfold rn
  rw [if_pos h, if_pos (by omega)]
  omega

set_option maxHeartbeats 4000000 in
set_option maxRecDepth 100000 in
theorem rungs_any (lo hi st : Int) (w : World) :
    Calls Try.prog 49 #[.agg #[.int .i64 lo, .int .i64 hi, .int .i64 st]] w fun e w' => e = .returned (.int .i64 (rn lo hi st)) ∧ Below w.heap.size w w' := by
  have hB : ∀ o, Below w.heap.size w (w.alloc o) := fun o => below_al (Below.refl _ _) o
  by_cases hR : RG lo hi st
  case neg =>
    have e0 := Lib.hid (rn_no hR)
    unfold RG at hR
    by_cases h1 : lo < 1
    · go_enter Try.func49, Try.ntmps49
      go_wp2
      go_ret
      exact ⟨by rw [e0.out]; rfl, hB _⟩
    by_cases h2 : hi < lo
    · go_enter Try.func49, Try.ntmps49
      go_wp2
      go_ret
      exact ⟨by rw [e0.out]; rfl, hB _⟩
    by_cases h3 : 1000000000 < hi
    · go_enter Try.func49, Try.ntmps49
      go_wp2
      go_ret
      exact ⟨by rw [e0.out]; rfl, hB _⟩
    by_cases h4 : st < 1
    · go_enter Try.func49, Try.ntmps49
      go_wp2
      go_ret
      exact ⟨by rw [e0.out]; rfl, hB _⟩
    have h5 : 1000000000 < st := by omega
    go_enter Try.func49, Try.ntmps49
    go_wp2
    go_ret
    exact ⟨by rw [e0.out]; rfl, hB _⟩
  have b := q_bounds hR
  have hn : Hid (rn lo hi st = if (hi - lo).tdiv st + 1 ≤ 1024 then ((hi - lo).tdiv st + 1).toNat else 0) := Lib.hid (by unfold rn; rw [if_pos hR])
  obtain ⟨h1, h2, h3, h4, h5⟩ := hR
  have n1 : ¬ lo < 1 := by omega
  have n2 : ¬ hi < lo := by omega
  have n3 : ¬ 1000000000 < hi := by omega
  have n4 : ¬ st < 1 := by omega
  have n5 : ¬ 1000000000 < st := by omega
  have hz : (st == 0) = false := by simpa using (by omega : st ≠ 0)
  generalize hq : (hi - lo).tdiv st = q at *
  generalize rn lo hi st = N at *
  by_cases hle : q + 1 ≤ 1024
  · go_enter Try.func49, Try.ntmps49
    go_wp2
    go_ret
    refine ⟨?_, hB _⟩
    rw [hn.out, if_pos hle, Int.toNat_of_nonneg (by omega)]
    rfl
  · go_enter Try.func49, Try.ntmps49
    go_wp2
    go_ret
    refine ⟨?_, hB _⟩
    rw [hn.out, if_neg (by omega)]
    rfl

theorem one_int1 (n : Int) : ∀ u ∈ [Value.int .i64 n], u.oneCell' = true := by simp [Value.oneCell']
set_option maxHeartbeats 4000000 in
set_option maxRecDepth 100000 in
theorem rrungs_any (lo hi st : Int) (w : World) :
    Calls Try.prog 50 #[.agg #[.int .i64 lo, .int .i64 hi, .int .i64 st]] w fun e w' => ∃ v, e = .returned v ∧ Own w' w.heap.size 2 1 ((ladd lo st (rn lo hi st)).map irow) v ∧ Below w.heap.size w w' := by
  have hB : ∀ o, Below w.heap.size w (w.alloc o) := fun o => below_al (Below.refl _ _) o
  by_cases hR : RG lo hi st
  case neg =>
    have e0 := Lib.hid (rn_no hR)
    have fin : ∀ W, Own W w.heap.size 2 1 ((ladd lo st (rn lo hi st)).map irow) (.slice none 0 0) := fun W => by
      rw [e0.out]; exact Own.nil _ _ _ _
    clear e0
    unfold RG at hR
    by_cases h1 : lo < 1
    · go_enter Try.func50, Try.ntmps50
      go_wp2
      go_ret
      exact ⟨_, rfl, fin _, hB _⟩
    by_cases h0 : 1000000000 < lo
    · go_enter Try.func50, Try.ntmps50
      go_wp2
      go_ret
      exact ⟨_, rfl, fin _, hB _⟩
    by_cases h2 : hi < lo
    · go_enter Try.func50, Try.ntmps50
      go_wp2
      go_ret
      exact ⟨_, rfl, fin _, hB _⟩
    by_cases h3 : 1000000000 < hi
    · go_enter Try.func50, Try.ntmps50
      go_wp2
      go_ret
      exact ⟨_, rfl, fin _, hB _⟩
    by_cases h4 : st < 1
    · go_enter Try.func50, Try.ntmps50
      go_wp2
      go_ret
      exact ⟨_, rfl, fin _, hB _⟩
    have h5 : 1000000000 < st := by omega
    go_enter Try.func50, Try.ntmps50
    go_wp2
    go_ret
    exact ⟨_, rfl, fin _, hB _⟩
  have hend := Lib.hid (fun k => rn_end (k := k) hR)
  have hmany := Lib.hid (rn_many hR)
  obtain ⟨h1, h2, h3, h4, h5⟩ := hR
  have n1 : ¬ lo < 1 := by omega
  have n0 : ¬ 1000000000 < lo := by omega
  have n2 : ¬ hi < lo := by omega
  have n3 : ¬ 1000000000 < hi := by omega
  have n4 : ¬ st < 1 := by omega
  have n5 : ¬ 1000000000 < st := by omega
  generalize rn lo hi st = N at *
  go_enter Try.func50, Try.ntmps50
  go_wp2
  generalize hw0 : w.alloc (.cells #[.int .i64 lo, .int .i64 hi, .int .i64 st] 45) = w0 at *
  have c0 : w0.cell? ⟨w.heap.size, 0, none⟩ = some (.int .i64 lo) := by rw [← hw0]; exact cell_of_row _ _ 0 _ 45 (0, 0) (heap_alloc_at _ _)
  have c1 : w0.cell? ⟨w.heap.size, 1, none⟩ = some (.int .i64 hi) := by rw [← hw0]; exact cell_of_row _ _ 1 _ 45 (0, 0) (heap_alloc_at _ _)
  have c2 : w0.cell? ⟨w.heap.size, 2, none⟩ = some (.int .i64 st) := by rw [← hw0]; exact cell_of_row _ _ 2 _ 45 (0, 0) (heap_alloc_at _ _)
  have hs0 : w0.heap.size = w.heap.size + 1 := by rw [← hw0, size_al]
  have hB0 : Below w.heap.size w w0 := by rw [← hw0]; exact hB _
  clear hw0 hB
  go_loopw [3, 4] (fun o v wr => ∃ (k : Nat) (x : Int), k ≤ 1024 ∧ x = lo + (k : Int) * st ∧ v = .int .i64 x ∧ lo ≤ x ∧ x ≤ hi + st ∧ (∀ i, i < k → lo + (i : Int) * st ≤ hi) ∧ Own wr w0.heap.size 2 1 ((ladd lo st k).map irow) o ∧ Below w0.heap.size w0 wr) (fun o v _ => (hi + 1 - intOf v).toNat)
  case atStart => exact ⟨0, lo, by omega, by simp, rfl, by omega, by omega, fun i hi => by omega, Own.nil _ _ _ _, Below.refl _ _⟩
  case round =>
    obtain ⟨k, x, hk, hx, rfl, hx0, hx1, hall, hO, hb⟩ := hrel
    replace hall := Lib.hid hall
    have hsz := hb.size
    have d1 : wr.cell? ⟨w.heap.size, 1, none⟩ = some (.int .i64 hi) := (hb.cell (p := ⟨w.heap.size, 1, none⟩) (by show w.heap.size < w0.heap.size; omega)).trans c1
    have d2 : wr.cell? ⟨w.heap.size, 2, none⟩ = some (.int .i64 st) := (hb.cell (p := ⟨w.heap.size, 2, none⟩) (by show w.heap.size < w0.heap.size; omega)).trans c2
    by_cases hxh : x ≤ hi
    case neg =>
      have hNk : N = k := hend.out k hk hall.out (by rw [← hx]; omega)
      replace hx := Lib.hid hx
      replace hNk := Lib.hid hNk
      go_wp2
      go_ret
      exact ⟨_, rfl, by rw [hNk.out]; exact hO.mono (by omega), hB0.trans (hb.mono (by omega))⟩
    obtain ⟨A, c, e, _⟩ := hO.sl
    rw [List.length_map, ladd_len] at e
    subst e
    by_cases hk2 : k = 1024
    · have hN0 : N = 0 := hmany.out (by rw [hx, hk2] at hxh; exact hxh)
      replace hx := Lib.hid hx
      replace hN0 := Lib.hid hN0
      subst hk2
      go_wp2
      go_ret
      exact ⟨_, rfl, by rw [hN0.out]; exact Own.nil _ _ _ _, hB0.trans (hb.mono (by omega))⟩
    have hx2 : lo ≤ x + st ∧ x + st ≤ hi + st := by omega
    replace hx := Lib.hid hx
    have hlen := Lib.hid (show ((ladd lo st k).map irow).length = k by rw [List.length_map, ladd_len])
    go_wp2_with (at_builtin; refine wpList_push elt23 rfl _ _ rfl rfl (hO.alloc _) [.int .i64 x] wr.heap.size 2 rfl (heap_alloc_at _ _) rfl (one_int1 x) (by rw [hlen.out]; omega) (by rw [size_al]; omega) ?_; intro v' w1 ho' hb' hs' _ _; have hb2 := (below_al hb _).trans hb'; have d3 : w1.cell? ⟨w.heap.size, 2, none⟩ = some (.int .i64 st) := (hb2.cell (p := ⟨w.heap.size, 2, none⟩) (by show w.heap.size < w0.heap.size; omega)).trans c2)
    go_roundw
    case rel =>
      refine ⟨k + 1, x + st, by omega, ?_, rfl, by omega, by omega, fun i hi2 => ?_, ?_, hb2⟩
      · rw [hx.out, Int.natCast_add, Int.add_mul]; omega
      · rcases Nat.lt_or_ge i k with q | q
        · exact hall.out i q
        · rw [show i = k by omega, ← hx.out]; exact hxh
      · rw [ladd_succ, List.map_append, ← hx.out]; exact ho'
    case measure => simp [intOf]; omega

/-- 'make([]T, n)' of one-cell elements: n rows of the call's own -/
theorem wpList_made {P : Program} {w : World} {ops : Array Oper} {rest : List Oper} {o : Oper} {a : Act} {Q : Exit → Act → World → Prop} {t e : TypeId} {bytes : Nat} (el : Elt P t e 1 bytes) (hgd : o.guard = none) (l c : Operand)
    (ho : o.op = .makeSlice t l c) (n : Nat) (hl : a.eval l = .int .i64 n) (hc : a.eval c = .int .i64 n) (hb : bytes * n ≤ 281474976710656) (hn : n ≤ maxLen)
    (h : ∀ w' rs, Own w' w.heap.size e 1 rs (.slice (some ⟨w.heap.size, 0, none⟩) n n) → rs.length = n → Below w.heap.size w w' → wpList P ops Q rest (a.put o.dst (.slice (some ⟨w.heap.size, 0, none⟩) n n)) w') :
    wpList P ops Q (o :: rest) a w := by
  obtain ⟨i, z, hi, hz0, hz1, hz2, hz⟩ := el.i
  refine wpList_make_full w hgd l c t ho w.heap.size e i z 1 el.u hi hz0 hz1 .i64 .i64 n n n hl hc rfl rfl (by rw [hz2]; exact hb) hn (Nat.le_refl _) fun w' hw hg => ?_
  have hlen : (madeCells z.cells (n * 1)).toList.length = n := by rw [Array.length_toList, size_madeCells, Nat.mul_one]
  generalize (madeCells z.cells (n * 1)).toList = cs at *
  have hfl : (cs.map fun u => [u]).flatten = cs := by
    clear hw hlen
    induction cs with
    | nil => rfl
    | cons u us ih => simp [ih]
  refine h w' (cs.map fun u => [u]) ⟨?_, fun r hr => ?_⟩ (by rw [List.length_map, hlen]) ((Below.refl _ _).grown hg (Nat.le_refl _) (fun k hk => by cases hk))
  · rw [hfl, List.length_map, hlen]; exact hw
  · obtain ⟨u, _, rfl⟩ := List.mem_map.1 hr; rfl

/-- what a rail without rungs answers -/
def lerr (n : Nat) : Int := if n = 0 then 190 else 0
theorem ret_vt {v : Value} {a b : Int} (h : a = b) : Ending.returned (.tuple #[v, .int .i64 a]) = .returned (.tuple #[v, .int .i64 b]) := by rw [h]

set_option maxHeartbeats 4000000 in
set_option maxRecDepth 100000 in
theorem rladder_any (lo hi st : Int) (w : World) :
    Calls Try.prog 19 #[.agg #[.int .i64 lo, .int .i64 hi, .int .i64 st]] w fun e w' => ∃ v, e = .returned (.tuple #[v, .int .i64 (lerr (rn lo hi st))]) ∧ Own w' w.heap.size 2 1 ((ladd lo st (rn lo hi st)).map irow) v ∧ Below w.heap.size w w' := by
  have K := fun W => rrungs_any lo hi st W
  have hl9 := rn_le lo hi st
  generalize rn lo hi st = N at *
  by_cases hN : N = 0
  · subst hN
    go_enter Try.func19, Try.ntmps19
    go_wp2_with (go_at_call 50; (with_reducible refine (K _).mono ?_); rintro e w1 ⟨v, rfl, ho, hb⟩; obtain ⟨A, c, rfl, hi, _⟩ := ho.ints; rw [ladd_len])
    go_ret2
    exact ⟨_, rfl, Own.nil _ _ _ _, (below_al (Below.refl _ _) _).trans (hb.mono (by rw [size_al]; omega))⟩
  · go_enter Try.func19, Try.ntmps19
    go_wp2_with (go_at_call 50; (with_reducible refine (K _).mono ?_); rintro e w1 ⟨v, rfl, ho, hb⟩; obtain ⟨A, c, rfl, hi, _⟩ := ho.ints; rw [ladd_len] at ho ⊢)
    go_ret2
    exact ⟨_, by unfold lerr; rw [if_neg hN]; rfl, ho.mono (by rw [size_al]; omega), (below_al (Below.refl _ _) _).trans (hb.mono (by rw [size_al]; omega))⟩

set_option maxHeartbeats 4000000 in
set_option maxRecDepth 100000 in
theorem ladder_any (lo hi st : Int) (w : World) :
    Calls Try.prog 18 #[.agg #[.int .i64 lo, .int .i64 hi, .int .i64 st]] w fun e w' => ∃ v, e = .returned (.tuple #[v, .int .i64 (lerr (rn lo hi st))]) ∧ Own w' w.heap.size 2 1 ((ladd lo st (rn lo hi st)).map irow) v ∧ Below w.heap.size w w' := by
  have K := fun W => rungs_any lo hi st W
  have hl9 := rn_le lo hi st
  have hat := Lib.hid (fun i => rn_at (lo := lo) (hi := hi) (st := st) (i := i))
  generalize rn lo hi st = N at *
  by_cases hN : N = 0
  · subst hN
    go_enter Try.func18, Try.ntmps18
    go_wp2_with (go_at_call 49; (with_reducible refine (K _).mono ?_); rintro e w1 ⟨rfl, hb⟩)
    go_ret2
    exact ⟨_, rfl, Own.nil _ _ _ _, (below_al (Below.refl _ _) _).trans (hb.mono (by rw [size_al]; omega))⟩
  · have hR := Lib.hid (hat.out 0 (by omega)).1
    go_enter Try.func18, Try.ntmps18
    go_wp2_with (first
     | (go_at_call 49; (with_reducible refine (K _).mono ?_); rintro e w1 ⟨rfl, hb⟩; have hb1 := (below_al (Below.refl _ w) (.cells #[.int .i64 lo, .int .i64 hi, .int .i64 st] 49)).trans (hb.mono (by rw [size_al]; omega)); have hs1 := hb.size; rw [size_al] at hs1; have c0 : w1.cell? ⟨w.heap.size, 0, none⟩ = some (.int .i64 lo) := (hb.cell (p := ⟨w.heap.size, 0, none⟩) (by rw [size_al]; show w.heap.size < _; omega)).trans (cell_of_row _ _ 0 _ 49 (0, 0) (heap_alloc_at _ _)); have c2 : w1.cell? ⟨w.heap.size, 2, none⟩ = some (.int .i64 st) := (hb.cell (p := ⟨w.heap.size, 2, none⟩) (by rw [size_al]; show w.heap.size < _; omega)).trans (cell_of_row _ _ 2 _ 49 (0, 0) (heap_alloc_at _ _)))
     | (refine wpList_made elt23 rfl _ _ rfl N rfl rfl (by omega) (by unfold maxLen; omega) ?_; intro w2 rs0 ho2 hl2 hb2; have c02 := (hb2.cell (p := ⟨w.heap.size, 0, none⟩) (by show w.heap.size < _; omega)).trans c0; have c22 := (hb2.cell (p := ⟨w.heap.size, 2, none⟩) (by show w.heap.size < _; omega)).trans c2))
    clear hb c0 c2 K
    go_loopw [6, 18] (fun x i wr => ∃ (k : Nat) (rs : List (List Value)) (y : Int), k ≤ N ∧ i = .int .i64 k ∧ x = .int .i64 y ∧ y = lo + (k : Int) * st ∧ rs.length = N ∧ rs.take k = (ladd lo st k).map irow ∧ Own wr w1.heap.size 2 1 rs (.slice (some ⟨w1.heap.size, 0, none⟩) N N) ∧ Below w1.heap.size w1 wr) (fun _ i _ => N - (intOf i).toNat)
    case atStart => exact ⟨0, rs0, lo, by omega, rfl, rfl, by simp, hl2, by simp [ladd], ho2, hb2⟩
    case round =>
      clear ho2 hl2
      obtain ⟨k, rs, y, hk, rfl, rfl, hy, hrl, hrt, hO, hb⟩ := hrel
      replace hrt := Lib.hid hrt
      by_cases hkl : k = N
      · subst hkl
        go_wp2
        go_ret2
        refine ⟨_, by unfold lerr; rw [if_neg hN]; rfl, ?_, hb1.trans (hb.mono (by omega))⟩
        rw [← hrt.out, show rs.take k = rs by rw [← hrl]; exact List.take_length]
        exact hO.mono (by omega)
      have hkl : k < N := by omega
      obtain ⟨hg, hx⟩ := hat.out k hkl
      obtain ⟨g1, g2, g3, g4, g5⟩ := hg
      have hyh : y ≤ hi := by rw [hy]; exact hx
      have hy0 : lo ≤ y := by
        rw [hy]
        have := Int.mul_nonneg (show (0 : Int) ≤ k by omega) (show (0 : Int) ≤ st by omega)
        omega
      replace hy := Lib.hid hy
      replace hx := Lib.hid hx
      obtain ⟨g, u0, hg, _, hq2, c0, f0, hr0, hset⟩ := hO.row1 hrl hkl
      cases hg
      have d2 := (hb.cell (p := ⟨w.heap.size, 2, none⟩) (by show w.heap.size < _; omega)).trans (hb2.cell (p := ⟨w.heap.size, 2, none⟩) (by show w.heap.size < _; omega) ▸ c22)
      go_wp2
      go_roundw
      case rel =>
        refine ⟨k + 1, rs.set k [.int .i64 y], y + st, by omega, by go_num, rfl, ?_, by rw [List.length_set]; exact hrl, ?_, hset _, hb.setCell (by show w1.heap.size ≤ w1.heap.size; omega) _⟩
        · rw [hy.out, Int.natCast_add, Int.add_mul]; omega
        · rw [List.take_succ_eq_append_getElem (by rw [List.length_set]; omega), List.take_set_of_le (Nat.le_refl _), List.getElem_set_self, hrt.out, ladd_succ, List.map_append, ← hy.out]; rfl
      case measure => simp [intOf]; omega
end Go.Proofs.Ytbbjnhajmckjoaa
