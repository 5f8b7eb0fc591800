/- Sensor: the family's cards, made anew; walked: the program's and the document's. -/
import Derived.Test.YtgpapbpkcggolaaCds2
import Derived.Laws.ResultCell
namespace Go.Proofs.Ytgpapbpkcggolaa
open Go.RowKit Go.BigFrame

/-- a world in which some blocks more lie -/
def allocs (w : World) : List Obj → World
  | [] => w
  | o :: l => allocs (w.alloc o) l
theorem allocs_size : ∀ (l : List Obj) (w : World), (allocs w l).heap.size = w.heap.size + l.length
  | [], _ => rfl
  | o :: l, w => by
    show (allocs (w.alloc o) l).heap.size = _
    rw [allocs_size l, size_al, List.length_cons]; omega
theorem allocs_below : ∀ (l : List Obj) (w : World), Below w.heap.size w (allocs w l)
  | [], _ => Below.refl _ _
  | o :: l, w => (below_al (Below.refl _ w) o).trans ((allocs_below l (w.alloc o)).mono (by rw [size_al]; omega))
theorem allocs_at : ∀ (l : List Obj) (w : World) (i : Nat) (o : Obj), l[i]? = some o → ∀ n, n = w.heap.size + i → (allocs w l).heap[n]? = some o
  | [], _, _, _, h, _, _ => by simp at h
  | x :: l, w, 0, o, h, n, hn => by
    obtain rfl : x = o := by simpa using h
    show (allocs (w.alloc x) l).heap[n]? = _
    subst hn
    rw [(allocs_below l (w.alloc x)).block _ (by rw [size_al]; omega)]
    exact heap_alloc_at _ _
  | x :: l, w, i + 1, o, h, n, hn => allocs_at l (w.alloc x) i o (by simpa using h) n (by rw [size_al]; omega)

def bs (l : List UInt8) : ByteArray := ⟨l.toArray⟩
def tx (l : List ByteArray) : Array Value := (l.map Value.string).toArray
def arow (p : Cd) (b : Nat) : List Value := crow p (some ⟨b, 0, none⟩) p.cs.length

set_option maxHeartbeats 1000000 in
theorem one_any (n : ByteArray) (lv sc : Int) (q : ByteArray) (en : Int) (A : Option Addr) (m c : Nat) (w : World) :
    Calls Try.prog 12 #[.string n, .int .u8 lv, .int .i8 sc, .string q, .int .i16 en, .slice A m c] w
      fun e w' => e = .returned (.agg #[.string n, .string ⟨#[115, 101, 110, 115, 111, 114]⟩, .int .u8 lv, .slice A m c, .int .i8 sc, .string q, .int .i16 en]) ∧
        w' = w.alloc (.cells #[.string n, .string ⟨#[115, 101, 110, 115, 111, 114]⟩, .int .u8 lv, .slice A m c, .int .i8 sc, .string q, .int .i16 en] 29) := by
  go_enter Try.func12, Try.ntmps12
  go_wp2_with (refine wpList_store_row rfl 29 _ _ rfl w.heap.size #[.string n, .string ⟨#[115, 101, 110, 115, 111, 114]⟩, .int .u8 lv, .slice A m c, .int .i8 sc, .string q, .int .i16 en] rfl rfl 29 _ (heap_alloc_at _ _) (by kernel_rfl) (by kernel_rfl) (by kernel_rfl) ?_)
  rw [setRow_alloc _ _ _ _ _ rfl]
  (try simp only [Exit.inBlock, Exit.then])
  refine bodyPost_ret (results_cell_row rfl _ _ w.heap.size 29 #[.string n, .string ⟨#[115, 101, 110, 115, 111, 114]⟩, .int .u8 lv, .slice A m c, .int .i8 sc, .string q, .int .i16 en] (0, 0) _ rfl (heap_alloc_at _ _) Try.underlying29 rfl (by kernel_rfl)) rfl ?_
  exact ⟨rfl, rfl⟩
/-- the five cards -/
def cards : List Cd := [
  ⟨⟨#[116, 104, 101, 114, 109, 105, 115, 116, 111, 114]⟩, ⟨#[115, 101, 110, 115, 111, 114]⟩, 3, [⟨#[97, 99, 109, 101, 44, 110, 116, 99]⟩], 0, ⟨#[]⟩, 0⟩,
  ⟨⟨#[97, 100, 99]⟩, ⟨#[115, 101, 110, 115, 111, 114]⟩, 2, [⟨#[97, 99, 109, 101, 44, 97, 100, 99, 45, 49, 54]⟩, ⟨#[97, 99, 109, 101, 44, 97, 100, 99]⟩], 5, ⟨#[104, 97, 108, 102]⟩, 3⟩,
  ⟨⟨#[100, 105, 111, 100, 101]⟩, ⟨#[115, 101, 110, 115, 111, 114]⟩, 3, [⟨#[97, 99, 109, 101, 44, 100, 105, 111, 100, 101]⟩, ⟨#[97, 99, 109, 101, 44, 110, 116, 99]⟩], -10, ⟨#[115, 108, 111, 119]⟩, 15⟩,
  ⟨⟨#[102, 117, 101, 108, 45, 103, 97, 117, 103, 101]⟩, ⟨#[115, 101, 110, 115, 111, 114]⟩, 4, [⟨#[97, 99, 109, 101, 44, 103, 97, 117, 103, 101]⟩], 0, ⟨#[100, 111, 117, 98, 108, 101]⟩, 7⟩,
  ⟨⟨#[97, 100, 99]⟩, ⟨#[115, 101, 110, 115, 111, 114]⟩, 3, [⟨#[97, 99, 109, 101, 44, 97, 100, 99]⟩], 90, ⟨#[]⟩, -1⟩]
/-- the cards in memory of their own: the block of their rows, the blocks of their texts -/
structure Mk (w : World) (B g : Nat) (bl : List Nat) (l : List Cd) : Prop where
  len : bl.length = l.length
  lt : ∀ x ∈ bl, B ≤ x ∧ x < g
  dis : bl.Nodup
  own : Own w B 29 7 (List.zipWith arow l bl) (.slice (some ⟨g, 0, none⟩) l.length l.length)
  txt : ∀ (k b : Nat) (c : Cd), bl[k]? = some b → l[k]? = some c → w.heap[b]? = some (Obj.cells (tx c.cs) 9)
theorem arow_len (p : Cd) (b : Nat) : (arow p b).length = 7 := rfl
theorem zip_len (l : List Cd) (bl : List Nat) : ∀ r ∈ List.zipWith arow l bl, r.length = 7 := by
  intro r hr
  obtain ⟨k, hk, rfl⟩ := List.getElem_of_mem hr
  rw [List.getElem_zipWith]
  exact arow_len _ _
theorem mk_lit (W : World) (B : Nat) (bl : List Nat) (l : List Cd) (n : Nat) (hn : l.length = n) (hl : bl.length = n) (h1 : ∀ x ∈ bl, B ≤ x ∧ x < W.heap.size) (hd : bl.Nodup) (cs : Array Value) (hc : cs.toList = (List.zipWith arow l bl).flatten)
    (ht : ∀ (k b : Nat) (c : Cd), bl[k]? = some b → l[k]? = some c → W.heap[b]? = some (Obj.cells (tx c.cs) 9)) (hB : B ≤ W.heap.size) (hm : n ≤ maxLen) : Mk (W.alloc (.cells cs 29)) B W.heap.size bl l := by
  subst hn
  refine ⟨hl, h1, hd, Own.lit cs _ ?_ hc (zip_len l bl) hB hm, fun k b c hb h2 => heap_alloc (ht k b c hb h2)⟩
  rw [List.length_zipWith, hl, Nat.min_self]
def t1 : Obj := .cells #[.string ⟨#[97, 99, 109, 101, 44, 110, 116, 99]⟩] 9
def t2 : Obj := .cells #[.string ⟨#[97, 99, 109, 101, 44, 97, 100, 99, 45, 49, 54]⟩, .string ⟨#[97, 99, 109, 101, 44, 97, 100, 99]⟩] 9
def t3 : Obj := .cells #[.string ⟨#[97, 99, 109, 101, 44, 100, 105, 111, 100, 101]⟩, .string ⟨#[97, 99, 109, 101, 44, 110, 116, 99]⟩] 9
def t4 : Obj := .cells #[.string ⟨#[97, 99, 109, 101, 44, 103, 97, 117, 103, 101]⟩] 9
def t5 : Obj := .cells #[.string ⟨#[97, 99, 109, 101, 44, 97, 100, 99]⟩] 9
def tl : List Obj := [t1, t2, t3, t4, t5]
theorem tl_at : ∀ (k : Nat) (c : Cd), cards[k]? = some c → tl[k]? = some (Obj.cells (tx c.cs) 9) := by
  intro k c h
  match k with
  | 0 => cases h; rfl
  | 1 => cases h; rfl
  | 2 => cases h; rfl
  | 3 => cases h; rfl
  | 4 => cases h; rfl
  | k + 5 => cases h
set_option maxHeartbeats 2000000 in
theorem rcards_any (w : World) : Calls Try.prog 5 #[] w fun e w' => ∃ g bl, e = .returned (.slice (some ⟨g, 0, none⟩) 5 5) ∧ Mk w' w.heap.size g bl cards ∧ Below w.heap.size w w' := by
  go_enter Try.func5, Try.ntmps5
  go_wp2
  go_ret
  have hs : (allocs w tl).heap.size = w.heap.size + 1 + 1 + 1 + 1 + 1 := by rw [allocs_size]; rfl
  have hM := mk_lit (allocs w tl) w.heap.size [w.heap.size, w.heap.size + 1, w.heap.size + 1 + 1, w.heap.size + 1 + 1 + 1, w.heap.size + 1 + 1 + 1 + 1] cards 5 rfl rfl ?_ ?_ (List.zipWith arow cards [w.heap.size, w.heap.size + 1, w.heap.size + 1 + 1, w.heap.size + 1 + 1 + 1, w.heap.size + 1 + 1 + 1 + 1]).flatten.toArray (by simp) ?_ ?_ (by decide)
  · rw [hs] at hM
    exact ⟨_, _, rfl, hM, (allocs_below tl w).alloc (by rw [allocs_size]; omega) _⟩
  · intro x hx
    rw [allocs_size]
    simp only [List.mem_cons, List.not_mem_nil, or_false] at hx
    simp only [tl, List.length_cons, List.length_nil]
    omega
  · simp only [List.nodup_cons, List.mem_cons, List.not_mem_nil, or_false, not_false_eq_true, List.nodup_nil, and_true]
    omega
  · intro k b c hb hc
    refine allocs_at tl w k _ (tl_at k c hc) b ?_
    match k with
    | 0 => cases hb; rfl
    | 1 => cases hb; rfl
    | 2 => cases hb; rfl
    | 3 => cases hb; rfl
    | 4 => cases hb; rfl
    | k + 5 => cases hb
  · rw [allocs_size]; omega
def o1 (p : Cd) (b : Nat) : Obj := .cells (arow p b).toArray 29
def tl2 (h : Nat) : List Obj := [t1, .cells (arow cards[0] h).toArray 29, t2, .cells (arow cards[1] (h + 1 + 1)).toArray 29, t3, .cells (arow cards[2] (h + 1 + 1 + 1 + 1)).toArray 29, t4, .cells (arow cards[3] (h + 1 + 1 + 1 + 1 + 1 + 1)).toArray 29, t5, .cells (arow cards[4] (h + 1 + 1 + 1 + 1 + 1 + 1 + 1 + 1)).toArray 29]
theorem tl2_at (h : Nat) : ∀ (k : Nat) (c : Cd), cards[k]? = some c → (tl2 h)[2 * k]? = some (Obj.cells (tx c.cs) 9) := by
  intro k c h
  match k with
  | 0 => cases h; rfl
  | 1 => cases h; rfl
  | 2 => cases h; rfl
  | 3 => cases h; rfl
  | 4 => cases h; rfl
  | k + 5 => cases h
set_option maxHeartbeats 2000000 in
theorem cards_any (w : World) : Calls Try.prog 6 #[] w fun e w' => ∃ g bl, e = .returned (.slice (some ⟨g, 0, none⟩) 5 5) ∧ Mk w' w.heap.size g bl cards ∧ Below w.heap.size w w' := by
  go_enter Try.func6, Try.ntmps6
  go_wp2_with (go_at_call 12; (with_reducible refine (one_any _ _ _ _ _ _ _ _ _).mono ?_); rintro e wX ⟨rfl, rfl⟩)
  go_ret
  have hs : (allocs w (tl2 w.heap.size)).heap.size = w.heap.size + 1 + 1 + 1 + 1 + 1 + 1 + 1 + 1 + 1 + 1 := by rw [allocs_size]; rfl
  have hM := mk_lit (allocs w (tl2 w.heap.size)) w.heap.size [w.heap.size, w.heap.size + 1 + 1, w.heap.size + 1 + 1 + 1 + 1, w.heap.size + 1 + 1 + 1 + 1 + 1 + 1, w.heap.size + 1 + 1 + 1 + 1 + 1 + 1 + 1 + 1] cards 5 rfl rfl ?_ ?_ (List.zipWith arow cards [w.heap.size, w.heap.size + 1 + 1, w.heap.size + 1 + 1 + 1 + 1, w.heap.size + 1 + 1 + 1 + 1 + 1 + 1, w.heap.size + 1 + 1 + 1 + 1 + 1 + 1 + 1 + 1]).flatten.toArray (by simp) ?_ ?_ (by decide)
  · rw [hs] at hM
    exact ⟨_, _, rfl, hM, (allocs_below (tl2 w.heap.size) w).alloc (by rw [allocs_size]; omega) _⟩
  · intro x hx
    rw [allocs_size]
    simp only [List.mem_cons, List.not_mem_nil, or_false] at hx
    simp only [tl2, List.length_cons, List.length_nil]
    omega
  · simp only [List.nodup_cons, List.mem_cons, List.not_mem_nil, or_false, not_false_eq_true, List.nodup_nil, and_true]
    omega
  · intro k b c hb hc
    refine allocs_at (tl2 w.heap.size) w (2 * k) _ (tl2_at _ k c hc) b ?_
    match k with
    | 0 => cases hb; rfl
    | 1 => cases hb; rfl
    | 2 => cases hb; rfl
    | 3 => cases hb; rfl
    | 4 => cases hb; rfl
    | k + 5 => cases hb
  · rw [allocs_size]; omega
end Go.Proofs.Ytgpapbpkcggolaa
