/- Idle: a step, walked. -/
import Derived.Test.YtgnhddnhcfmipaaStep
import Derived.Deep.CutBlock
namespace Go.Proofs.Ytgnhddnhcfmipaa
open Go.RowKit Go.BigFrame

/-- what stands behind the statement 'v, e := deeds()[..].do(..)' -/
def Mid (B b o g : Nat) (kind now was nxt : Int) (done : Bool) (code tries d x : Int) (cs : Array Value) (w2 : World) (p : Value) (wx : World) : Prop :=
  ∃ n, p = .pointer (some ⟨n, 0, none⟩) ∧ AC wx b o g kind now was nxt false done code tries d x ∧ wx.heap[n]? = some (.cells cs 38) ∧ Below B w2 wx ∧ B ≤ wx.heap.size
theorem drew_al_le (w : World) (y : Obj) : w.heap.size ≤ (w.alloc y).drew.heap.size := by
  show _ ≤ (w.alloc y).heap.size
  rw [size_al]
  exact Nat.le_succ _
section
variable {B b o g : Nat} {kind now was nxt : Int} {done : Bool} {code tries d x : Int} {w2 w5 : World}
theorem Mid.fresh (h : AC w5 b o g kind now was nxt false done code tries d x) (q : Below B w2 w5) (hB : B ≤ w5.heap.size) (cs : Array Value) :
    Mid B b o g kind now was nxt done code tries d x cs w2 (.pointer (some ⟨w5.heap.size, 0, none⟩)) (w5.alloc (.cells cs 38)) :=
  ⟨_, rfl, h.al _, heap_alloc_at _ _, q.alloc hB _, by rw [size_al]; omega⟩
theorem Mid.laid (h : AC w5 b o g kind now was nxt false done code tries d x) {n : Nat} (y : Z4 w5 n) (q : Below B w2 w5) (hB : B ≤ w5.heap.size) (hn : B ≤ n) (hb : b < B) (hg : g < B) (v0 v1 v2 v3 : Value) :
    Mid B b o g kind now was nxt done code tries d x #[v0, v1, v2, v3] w2 (.pointer (some ⟨n, 0, none⟩)) ((((w5.setCell ⟨n, 0, none⟩ v0).setCell ⟨n, 1, none⟩ v1).setCell ⟨n, 2, none⟩ v2).setCell ⟨n, 3, none⟩ v3) :=
  ⟨_, rfl, h.far4 (by omega) (by omega) _ _ _ _, y.put _ _ _ _, below_four q hn _ _ _ _, by simp only [size_set]; omega⟩
end
set_option maxHeartbeats 4000000 in
set_option maxRecDepth 100000 in
theorem step_get (b o g : Nat) (now was nxt code tries d : Int) (done : Bool) (v : VW) (hv : v.ok) (hn : 0 ≤ now ∧ now ≤ 2147483647) (_ : 0 ≤ d ∧ d ≤ 2147483647) (w : World) (h : AC w b o g 1 now was nxt false done code tries d v.num) :
    Calls Try.prog 45 #[.pointer (some ⟨b, o, none⟩)] w fun e w' => e = .returned (.tuple #[]) ∧
      Below w.heap.size (if (act 1 d now v).1.num = v.num then (((w.setCell ⟨b, o + 3, none⟩ (.int .u64 v.num)).setCell ⟨b, o + 4, none⟩ (.int .u64 v.num)).setCell ⟨b, o + 7, none⟩ (.int .i64 (act 1 d now v).2)).setCell ⟨b, o + 6, none⟩ (.bool true)
        else ((w.setCell ⟨b, o + 3, none⟩ (.int .u64 v.num)).setCell ⟨b, o + 4, none⟩ (.int .u64 (act 1 d now v).1.num)).setCell ⟨b, o + 5, none⟩ (.bool true)) w' := by
  have L := load_any g _ w h.w1
  have G := fun W => get_any v hv d now W
  have V := fun W => view_any v hv W
  have P := fun W => packed_any _ (act_ok (kind := 1) (delay := d) hv hn) W
  have h1 := h.set3 v.num
  have lt := h.lt
  generalize act 1 d now v = R at *
  obtain ⟨v', e'⟩ := R
  simp only at P G ⊢
  unfold VW.arr at *
  generalize v.num = x at *
  generalize v'.num = x' at *
  obtain ⟨u, a, s, k⟩ := v
  obtain ⟨u', a', s', k'⟩ := v'
  simp only at V P G
  have c0 := h.c0
  have c5 := h.c5
  have c3 := h.c3
  have f3 := h.f 3
  go_enter Try.func45, Try.ntmps45
  go_wp2_with (go_at_call 43; (with_reducible refine L.mono ?_); rintro e w1 ⟨rfl, rfl⟩)
  generalize hw2 : w1.setCell ⟨b, o + 3, none⟩ (.int .u64 x) = w2 at *
  have hs2 := Lib.hid (show w2.heap.size = w1.heap.size by rw [← hw2, size_set])
  have lt2 := h1.lt
  have D := fun W => deeds_any W
  clear c0 c5 c3 f3 L h
  have hd1 := h1.drew
  have hI : ∀ W, (Instr.index 134 (.agg #[.nilFunc, .func (.func 79) #[] #[], .func (.func 80) #[] #[], .func (.func 81) #[] #[]]) (.int .u8 1)).run Try.prog W = .ok (.agg #[.func (.func 79) #[] #[]]) W := fun W => by kernel_rfl
  have hX : ∀ W, AC W b o g 1 now x nxt false done code tries d x → W.cell? ⟨b, o, none⟩ = some (.pointer (some ⟨g, 0, none⟩)) ∧ W.cell? ⟨b, o + 1, none⟩ = some (.int .u8 1) ∧ W.cell? ⟨b, o + 1 + 1, none⟩ = some (.int .i64 now) ∧ W.cell? ⟨b, o + 3, none⟩ = some (.int .u64 x) ∧ W.cell? ⟨g, 0, none⟩ = some (.int .i64 d) :=
    fun W h => ⟨h.c0, h.c1, h.c2, h.c3, h.w0⟩
  have hJ : ∀ W, (Instr.field 133 (.agg #[.func (.func 79) #[] #[]]) 0).run Try.prog W = .ok (.func (.func 79) #[] #[]) W := fun W => by kernel_rfl
  have lb := lt2.1
  have lg := lt2.2
  clear lt lt2
  go_cut [2, 3] from 48 to 76 (fun p q wx => q = .int .i64 e' ∧ Mid w2.heap.size b o g 1 now x nxt done code tries d x #[.int .i64 u', .bool a', .int .i64 s', .int .i64 k'] w2 p wx)
  case first =>
    go_region_held3 (fun W => W.cell? ⟨b, o, none⟩ = some (.pointer (some ⟨g, 0, none⟩)) ∧ W.cell? ⟨b, o + 1, none⟩ = some (.int .u8 1) ∧ W.cell? ⟨b, o + 1 + 1, none⟩ = some (.int .i64 now) ∧ W.cell? ⟨b, o + 3, none⟩ = some (.int .u64 x) ∧ W.cell? ⟨g, 0, none⟩ = some (.int .i64 d))
      (first | (with_reducible exact hX _ hd1) | (with_reducible exact hX _ h3) | (with_reducible exact hX _ h4) | (with_reducible exact hX _ h5) | (with_reducible exact hX _ ((h1.al _).drew)) | (with_reducible exact hX _ (h3.al _)) | (with_reducible exact hX _ (h4.al _)) | (with_reducible exact hX _ (h5.al _)) | (with_reducible refine hX _ (h5.far4 ?_ ?_ _ _ _ _) <;> omega))
      (first
        | (go_at_call 60; (with_reducible refine (D _).mono ?_); rintro e w3 ⟨rfl, hb3⟩; have h3 : AC w3 b o g 1 now x nxt false done code tries d x := (by (first | (with_reducible exact hd1.on hb3) | (with_reducible exact ((h1.al _).drew).on hb3))); (try have y3 : Z4 w3 w2.heap.size := (by with_reducible exact (Z4.newd w2).on hb3)); have z3 : w2.heap.size ≤ w3.heap.size := (by first | exact hb3.size | (have q : (w2.alloc (.cells #[.int .i64 0, .bool false, .int .i64 0, .int .i64 0] 38)).heap.size ≤ w3.heap.size := hb3.size; rw [size_al] at q; exact Nat.le_of_succ_le q)); have q3 : Below w2.heap.size w2 w3 := (by (first | (exact ((Below.refl _ w2).drew).trans hb3) | (exact ((below_al (Below.refl _ w2) _).drew).trans (hb3.mono (drew_al_le _ _))))))
        | (go_at_call 44; (with_reducible refine (V _).mono ?_); rintro e w4 ⟨rfl, hb4⟩; have h4 : AC w4 b o g 1 now x nxt false done code tries d x := (by (first | (with_reducible exact h3.on hb4) | (with_reducible exact (h3.al _).on hb4))); (try have y4 : Z4 w4 w2.heap.size := (by with_reducible exact y3.on hb4)); (try have y4 : Z4 w4 w3.heap.size := (by with_reducible exact (Z4.new w3).on hb4)); have z4 : w3.heap.size ≤ w4.heap.size := (by (first | exact hb4.size | (have q := hb4.size; rw [size_al] at q; exact Nat.le_of_succ_le q))); have q4 : Below w2.heap.size w2 w4 := (by (first | (with_reducible exact q3.trans (hb4.mono z3)) | (exact (q3.alloc z3 _).trans (hb4.mono (by (rw [size_al]; exact Nat.le_succ_of_le z3)))))))
        | (go_at_call 79; (with_reducible refine (G _).mono ?_); rintro e w5 ⟨rfl, hb5⟩; have h5 : AC w5 b o g 1 now x nxt false done code tries d x := (by (first | (with_reducible exact h4.on hb5) | (with_reducible exact (h4.al _).on hb5))); (try have y5 : Z4 w5 w2.heap.size := (by with_reducible exact y4.on hb5)); (try have y5 : Z4 w5 w3.heap.size := (by with_reducible exact y4.on hb5)); (try have y5 : Z4 w5 w4.heap.size := (by with_reducible exact (Z4.new w4).on hb5)); (first | obtain ⟨i0, i1, i2, i3, j0, j1, j2, j3⟩ := y5.all | skip); have z5 : w4.heap.size ≤ w5.heap.size := (by (first | exact hb5.size | (have q := hb5.size; rw [size_al] at q; exact Nat.le_of_succ_le q))); have q5 : Below w2.heap.size w2 w5 := (by (first | (with_reducible exact q4.trans (hb5.mono (Nat.le_trans z3 z4))) | (exact (q4.alloc (Nat.le_trans z3 z4) _).trans (hb5.mono (by (rw [size_al]; exact Nat.le_succ_of_le (Nat.le_trans z3 z4)))))))))
    all_goals go_wp2
    all_goals go_meet
    all_goals (case rel => (first | exact ⟨rfl, Mid.fresh h5 q5 (Nat.le_trans (Nat.le_trans z3 z4) z5) _⟩ | exact ⟨rfl, Mid.laid h5 y5 q5 (Nat.le_trans (Nat.le_trans z3 z4) z5) (by (first | exact Nat.le_refl _ | exact z3 | exact Nat.le_trans z3 z4)) lb lg _ _ _ _⟩))
  obtain ⟨rfl, n, rfl, h6, r6, q6, z6⟩ := hcut
  clear hI hX hJ hd1 D V G
  have c3 := h6.c3
  have m0 := cell_of_row _ _ 0 _ 38 (0, 0) r6
  have m1 := cell_of_row _ _ 1 _ 38 (0, 0) r6
  have m2 := cell_of_row _ _ 2 _ 38 (0, 0) r6
  have m3 := cell_of_row _ _ 3 _ 38 (0, 0) r6
  clear h1
  by_cases hx : x' = x
  · obtain rfl := hx
    have ex : (x' == x') = true := beq_self_eq_true x'
    go_wp2_with (go_at_call 61; (with_reducible refine (P _).mono ?_); rintro e w7 ⟨rfl, hb7⟩; have h7 := h6.on hb7; have q7 := q6.trans (hb7.mono z6); have c0 := h7.c0; have c4 := h7.c4; have f4 : w7.frozen? ⟨b, o + 3 + 1, none⟩ = false := h7.f 4)
    generalize hw8 : w7.setCell ⟨b, o + 4, none⟩ (.int .u64 x') = w8 at *
    have h8 : AC w8 b o g 1 now x' x' false done code tries d x' := by rw [← hw8]; exact h7.set4 x'
    have k3 := h8.c3
    have k4 := h8.c4
    have k6 := h8.c6
    have k7 := h8.c7
    have g6 : w8.frozen? ⟨b, o + 5 + 1, none⟩ = false := h8.f 6
    have g7 : w8.frozen? ⟨b, o + 6 + 1, none⟩ = false := h8.f 7
    clear h6 hb7 h7 c0 c4 f4 P r6 c3 m0 m1 m2 m3 hv
    go_big_quiet (fail)
    go_wp2
    refine bodyPost_ret (results_none rfl _ _ _) rfl ?_
    refine ⟨rfl, ?_⟩
    rw [← hs2.out]
    have q8 : Below w2.heap.size (w2.setCell ⟨b, o + 4, none⟩ (.int .u64 x')) (w8.drewN nq) := below_drewN' (by rw [← hw8]; exact Below.both q7 _ _) nq
    exact Below.both (Below.both q8 _ _) _ _
  · have ex : (x' == x) = false := beq_eq_false_iff_ne.mpr hx
    replace hx := Lib.hid hx
    go_wp2_with (go_at_call 61; (with_reducible refine (P _).mono ?_); rintro e w7 ⟨rfl, hb7⟩; have h7 := h6.on hb7; have q7 := q6.trans (hb7.mono z6); have c0 := h7.c0; have c4 := h7.c4; have f4 : w7.frozen? ⟨b, o + 3 + 1, none⟩ = false := h7.f 4)
    generalize hw8 : w7.setCell ⟨b, o + 4, none⟩ (.int .u64 x') = w8 at *
    have h8 : AC w8 b o g 1 now x x' false done code tries d x := by rw [← hw8]; exact h7.set4 x'
    have k3 := h8.c3
    have k4 := h8.c4
    have k5 := h8.c5
    have g5 : w8.frozen? ⟨b, o + 4 + 1, none⟩ = false := h8.f 5
    clear h6 hb7 h7 c0 c4 f4 P r6 c3 m0 m1 m2 m3 hv
    go_big_quiet (fail)
    go_wp2
    go_end0
    refine ⟨rfl, ?_⟩
    rw [← hs2.out]
    have q8 : Below w2.heap.size (w2.setCell ⟨b, o + 4, none⟩ (.int .u64 x')) (w8.drewN nq) := below_drewN' (by rw [← hw8]; exact Below.both q7 _ _) nq
    exact Below.both q8 _ _
end Go.Proofs.Ytgnhddnhcfmipaa
