/- Net: two nets that are told, walked. -/
import Derived.Test.YtfmjmjppkdaanaaNetSweeps
namespace Go.Proofs.Ytfmjmjppkdaanaa
open Go.RowKit Go.BigFrame flt Ieee

def two : Nat := 4611686018427387904
def quarter : Nat := 4598175219545276416
def n1 : List Part := [⟨1, two, []⟩, ⟨1, two, []⟩, ⟨5, 0, [0, 1]⟩]
def n2 : List Part := [⟨3, quarter, []⟩]
theorem n1_z : (zsn (cls one) n1 n1.length).getD (n1.length - 1) (none, none) = (some one, some 0) := by decide +kernel
theorem n2_z : (zsn (cls two) n2 n2.length).getD (n2.length - 1) (none, none) = (some 0, some 13835058055282163712) := by decide +kernel
theorem rate_one : isRate (cls one) = true := by decide +kernel
theorem rate_two : isRate (cls two) = true := by decide +kernel
theorem good1 : Good n1 := by decide +kernel
theorem good2 : Good n2 := by decide +kernel
theorem heap_al2 {w : World} {o : Obj} {b : Nat} {x : Obj} (h : w.heap[b]? = some x) : (w.alloc o).heap[b]? = some x := by
  have hb : b < w.heap.size := by
    rcases Nat.lt_or_ge b w.heap.size with q | q
    · exact q
    · rw [Array.getElem?_eq_none q] at h; cases h
  rw [← h]
  show (w.heap.push o)[b]? = _
  rw [Array.getElem?_push, if_neg (Nat.ne_of_lt hb)]
def w1o (w : World) : World := w.alloc (.cells #[.int .i64 0, .int .i64 1] 3)
def w1 (w : World) : World := (w1o w).alloc (.cells #[.int .u8 1, .float .f64 4611686018427387904, .slice none 0 0, .int .u8 1, .float .f64 4611686018427387904, .slice none 0 0, .int .u8 5, .float .f64 0, .slice (some ⟨w.heap.size, 0, none⟩) 2 2] 47)
theorem ints_pair (W : World) (g : Nat) (a b : Int) (t : TypeId) (h : W.heap[g]? = some (.cells #[.int .i64 a, .int .i64 b] t)) : Ints W (some ⟨g, 0, none⟩) [a, b] := by
  refine ⟨by simp, fun r hr => ?_, fun _ => ⟨g, 0, rfl, trivial, ?_, fun i r hr f u hu => ?_⟩⟩
  · obtain ⟨q, _, rfl⟩ := List.mem_map.1 hr; rfl
  · rcases Nat.lt_or_ge g W.heap.size with q | q
    · exact q
    · rw [Array.getElem?_eq_none q] at h; cases h
  · match i, hr with
    | 0, hr => cases hr; match f, hu with
      | 0, hu => cases hu; exact cell_of_row _ _ 0 _ t (0, 0) h
      | f + 1, hu => simp [irow] at hu
    | 1, hr => cases hr; match f, hu with
      | 0, hu => cases hu; exact cell_of_row _ _ 1 _ t (0, 0) h
      | f + 1, hu => simp [irow] at hu
    | i + 2, hr => simp at hr
theorem ints_nil (W : World) : Ints W none [] := Sl.nil _ _ _ _
theorem w1_pn (w : World) : Pn (w1 w) (some ⟨w.heap.size + 1, 0, none⟩) n1 := by
  have hs : (w1o w).heap.size = w.heap.size + 1 := size_al _ _
  have h1 : (w1 w).heap[w.heap.size + 1]? = some (.cells #[.int .u8 1, .float .f64 4611686018427387904, .slice none 0 0, .int .u8 1, .float .f64 4611686018427387904, .slice none 0 0, .int .u8 5, .float .f64 0, .slice (some ⟨w.heap.size, 0, none⟩) 2 2] 47) := by
    have := heap_alloc_at (w1o w) (.cells #[.int .u8 1, .float .f64 4611686018427387904, .slice none 0 0, .int .u8 1, .float .f64 4611686018427387904, .slice none 0 0, .int .u8 5, .float .f64 0, .slice (some ⟨w.heap.size, 0, none⟩) 2 2] 47)
    rw [hs] at this
    exact this
  have h0 : (w1 w).heap[w.heap.size]? = some (.cells #[.int .i64 0, .int .i64 1] 3) := heap_al2 (heap_alloc_at _ _)
  have hlt : w.heap.size + 1 < (w1 w).heap.size := by unfold w1; rw [size_al, hs]; omega
  refine ⟨by decide, fun k hk => ?_⟩
  match k, hk with
  | 0, _ => exact ⟨_, 0, none, 0, rfl, hlt, cell_of_row _ _ 0 _ 47 (0, 0) h1, cell_of_row _ _ 1 _ 47 (0, 0) h1, cell_of_row _ _ 2 _ 47 (0, 0) h1, ints_nil _, Nat.le_refl _⟩
  | 1, _ => exact ⟨_, 0, none, 0, rfl, hlt, cell_of_row _ _ 3 _ 47 (0, 0) h1, cell_of_row _ _ 4 _ 47 (0, 0) h1, cell_of_row _ _ 5 _ 47 (0, 0) h1, ints_nil _, Nat.le_refl _⟩
  | 2, _ => exact ⟨_, 0, some ⟨w.heap.size, 0, none⟩, 2, rfl, hlt, cell_of_row _ _ 6 _ 47 (0, 0) h1, cell_of_row _ _ 7 _ 47 (0, 0) h1, cell_of_row _ _ 8 _ 47 (0, 0) h1, ints_pair _ _ _ _ 3 h0, Nat.le_refl _⟩
theorem pn_row (W : World) (g : Nat) (kd : Int) (x : Nat) (h : W.heap[g]? = some (.cells #[.int .u8 kd, .float .f64 x, .slice none 0 0] 47)) (hlt : g < W.heap.size) : Pn W (some ⟨g, 0, none⟩) [⟨kd, x, []⟩] := by
  have c0 : W.cell? ⟨g, 0, none⟩ = some (.int .u8 kd) := cell_of_row _ _ 0 _ 47 (0, 0) h
  have c1 : W.cell? ⟨g, 1, none⟩ = some (.float .f64 x) := cell_of_row _ _ 1 _ 47 (0, 0) h
  have c2 : W.cell? ⟨g, 2, none⟩ = some (.slice none 0 0) := cell_of_row _ _ 2 _ 47 (0, 0) h
  refine ⟨by (show 1 ≤ 9223372036854775807); decide, fun k hk => ?_⟩
  obtain rfl : k = 0 := by simpa using hk
  exact ⟨g, 0, none, 0, rfl, hlt, c0, c1, c2, ints_nil _, Nat.le_refl _⟩
theorem pn_one (w : World) (kd : Int) (x : Nat) : Pn (w.alloc (.cells #[.int .u8 kd, .float .f64 x, .slice none 0 0] 47)) (some ⟨w.heap.size, 0, none⟩) [⟨kd, x, []⟩] :=
  pn_row _ _ _ _ (heap_alloc_at _ _) (by rw [size_al]; omega)
set_option maxHeartbeats 4000000 in
set_option maxRecDepth 100000 in
theorem awake_any (w : World) : Calls Try.prog 23 #[] w fun e w' => e = .returned (.bool true) ∧ Below w.heap.size w w' := by
  have K1 := z_good n1 (some ⟨w.heap.size + 1, 0, none⟩) 3 one (w1 w) (w1_pn w) good1 rate_one
  rw [n1_z] at K1
  have hb1 : Below w.heap.size w (w1 w) := below_al (below_al (Below.refl _ _) _) _
  have K2 := fun W => z_good n2 _ 1 two _ (pn_one W 3 quarter) good2 rate_two
  rw [n2_z] at K2
  have o1 : ∀ r s, (cls r, cls s) = (some one, some 0) → r = one ∧ s = 0 := fun r s h => ⟨(cls_some (Prod.mk.inj h).1).1, (cls_some (Prod.mk.inj h).2).1⟩
  have o2 : ∀ r s, (cls r, cls s) = (some 0, some 13835058055282163712) → r = 0 ∧ s = 13835058055282163712 := fun r s h => ⟨(cls_some (Prod.mk.inj h).1).1, (cls_some (Prod.mk.inj h).2).1⟩
  unfold w1 w1o one at K1
  unfold w1 w1o at hb1
  unfold one at o1
  unfold two quarter at K2
  replace hb1 := Lib.hid hb1
  have f1 : FloatKind.f64.format.order 4607182418800017408 4607182418800017408 = some .eq := by decide +kernel
  have f0 : FloatKind.f64.format.order 0 0 = some .eq := by decide +kernel
  have f2 : FloatKind.f64.format.order 13835058055282163712 13835058055282163712 = some .eq := by decide +kernel
  replace o1 := Lib.hid o1
  replace o2 := Lib.hid o2
  go_enter Try.func23, Try.ntmps23
  go_wp2_with fail
  refine (K1).mono ?_
  rintro e w4 ⟨r, s, rfl, hrs, hb4⟩
  obtain ⟨rfl, rfl⟩ := o1.out _ _ hrs
  clear hrs
  have hbw : Hid (Below w.heap.size w w4) := Lib.hid (hb1.out.trans (hb4.mono hb1.out.size))
  go_wp2_with fail
  refine (K2 _).mono ?_
  rintro e w5 ⟨r, s, rfl, hrs, hb5⟩
  obtain ⟨rfl, rfl⟩ := o2.out _ _ hrs
  clear hrs
  go_wp2
  go_ret
  exact ⟨rfl, ((below_al (Below.refl _ _) _).mono hbw.out.size |> hbw.out.trans).trans (hb5.mono (by rw [size_al]; have := hbw.out.size; omega))⟩
end Go.Proofs.Ytfmjmjppkdaanaa
