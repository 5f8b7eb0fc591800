/- Net: the reference's Turn; the same float; Resonant; walked. -/
import Derived.Test.YtfmjmjppkdaanaaSize
namespace Go.Proofs.Ytfmjmjppkdaanaa
open Go.RowKit Go.BigFrame flt Ieee

/-- an operation, veiled: what it gives, how often it asks -/
theorem veil {op : BinOp} (ho : Ar op) (t : TypeId) : ∃ (F : Nat → Nat → World → Nat) (G : Nat → Nat → Nat), (∀ x y w, (binOp op t (.float .f64 x) (.float .f64 y)).run Try.prog w = .ok (.float .f64 (F x y w)) (w.drewN (G x y))) ∧ ∀ x y w, cls (F x y w) = op2 op (cls x) (cls y) :=
  ⟨fv op, fd op, fun x y w => run_arith ho t x y w, fun x y w => cls_op2 op x y w⟩
set_option maxHeartbeats 1000000 in
theorem rturn_any (a b : Nat) (w : World) : Calls Try.prog 17 #[.agg #[.float .f64 a, .float .f64 b]] w fun e w' => ∃ r s, e = .returned (.agg #[.float .f64 r, .float .f64 s]) ∧ (cls r = (turn (cls a) (cls b)).1 ∧ cls s = (turn (cls a) (cls b)).2) ∧ Below w.heap.size w w' := by
  have h1 := infinite_any a
  have h2 := infinite_any b
  have h3 := rsize_any a b
  have h4 := inf_any
  have z1 := eq_zero a
  have z2 := eq_zero b
  obtain ⟨FQ, GQ, hq, cq⟩ := veil (op := .quo) (Or.inr (Or.inr (Or.inr rfl))) 23
  obtain ⟨FS, GS, hs, cs⟩ := veil (op := .sub) (Or.inr (Or.inl rfl)) 23
  replace cq := Lib.hid cq
  replace cs := Lib.hid cs
  have c0 := Lib.hid (cls_nn nn_zero)
  have ci : Hid (cls inf = some inf) := Lib.hid (cls_nn (by unfold inf nn; decide))
  unfold turn
  generalize hA : cls a = A at *
  generalize hB : cls b = B at *
  replace hA := Lib.hid hA
  replace hB := Lib.hid hB
  generalize isInf A = iA at *
  generalize isInf B = iB at *
  generalize (ord A (some 0) == some Ordering.eq) = zA at *
  generalize (ord B (some 0) == some Ordering.eq) = zB at *
  generalize hS : size A B = S at *
  generalize inf = i at *
  clear hS
  go_enter Try.func17, Try.ntmps17
  go_upto_region 1 with fail
  generalize hw0 : (w.alloc _).alloc _ = w0
  generalize hn : w.heap.size = n at *
  have g0 : Below n w w0 := by rw [← hw0, ← hn]; exact (below_al (Below.refl _ _) _).alloc (by rw [size_al]; omega) _
  have r0 : w0.heap[n + 1]? = some (.cells #[.float .f64 0, .float .f64 0] 26) := by rw [← hw0, ← hn]; exact heap_alloc_at' _ _ _ (by rw [size_al])
  have rb : w0.heap[n]? = some (.cells #[.float .f64 a, .float .f64 b] 26) := by rw [← hw0, ← hn]; exact heap_alloc (heap_alloc_at _ _)
  have p0 : w0.cell? ⟨n, 0, none⟩ = some (.float .f64 a) := cell_of_row _ _ 0 _ 26 (0, 0) rb
  have p1 : w0.cell? ⟨n, 1, none⟩ = some (.float .f64 b) := cell_of_row _ _ 1 _ 26 (0, 0) rb
  have l1 := heap_lt r0
  have l0 := heap_lt rb
  replace hn := Lib.hid hn
  clear hw0 rb
  cases iA
  · cases iB
    · cases zA
      · go_wp2_with (first | (go_at_call 40; (with_reducible refine (h1 _).mono ?_); rintro e w1 ⟨rfl, rfl⟩) | (go_at_call 40; (with_reducible refine (h2 _).mono ?_); rintro e w1 ⟨rfl, rfl⟩) | (go_at_call 19; (with_reducible refine (h3 _).mono ?_); rintro e w3 ⟨r, rfl, hr, hb⟩; replace hr := Lib.hid hr; have q0 := (hb.cell (p := ⟨n, 0, none⟩) l0).trans p0; have q1 := (hb.cell (p := ⟨n, 1, none⟩) l0).trans p1; have r3 := (hb.block (n + 1) l1).trans r0; have g3 := g0.trans (hb.mono (by omega))) | (refine wpList_store_row rfl 26 _ _ rfl (n + 1) _ rfl rfl 26 _ r3 (by kernel_rfl) (by kernel_rfl) (by kernel_rfl) ?_))
        (try simp only [Exit.inBlock, Exit.then])
        refine bodyPost_ret (results_cell_row rfl _ _ (n + 1) 26 _ (0, 0) _ rfl (setRow_heap _ _ _ _ _ _ r3) Try.underlying26 rfl (by kernel_rfl)) rfl ?_
        exact ⟨_, _, rfl, ⟨by simp only [cq.out, hr.out, hA.out], by simp only [cs.out, cq.out, hr.out, hB.out, c0.out]⟩, by rw [hn.out]; exact below_setRow (below_drewN' g3 _) (Nat.le_succ _) _⟩
      · cases zB
        · go_wp2_with (first | (go_at_call 40; (with_reducible refine (h1 _).mono ?_); rintro e w1 ⟨rfl, rfl⟩) | (go_at_call 40; (with_reducible refine (h2 _).mono ?_); rintro e w1 ⟨rfl, rfl⟩) | (go_at_call 19; (with_reducible refine (h3 _).mono ?_); rintro e w3 ⟨r, rfl, hr, hb⟩; replace hr := Lib.hid hr; have q0 := (hb.cell (p := ⟨n, 0, none⟩) l0).trans p0; have q1 := (hb.cell (p := ⟨n, 1, none⟩) l0).trans p1; have r3 := (hb.block (n + 1) l1).trans r0; have g3 := g0.trans (hb.mono (by omega))) | (refine wpList_store_row rfl 26 _ _ rfl (n + 1) _ rfl rfl 26 _ r3 (by kernel_rfl) (by kernel_rfl) (by kernel_rfl) ?_))
          (try simp only [Exit.inBlock, Exit.then])
          refine bodyPost_ret (results_cell_row rfl _ _ (n + 1) 26 _ (0, 0) _ rfl (setRow_heap _ _ _ _ _ _ r3) Try.underlying26 rfl (by kernel_rfl)) rfl ?_
          exact ⟨_, _, rfl, ⟨by simp only [cq.out, hr.out, hA.out], by simp only [cs.out, cq.out, hr.out, hB.out, c0.out]⟩, by rw [hn.out]; exact below_setRow (below_drewN' g3 _) (Nat.le_succ _) _⟩
        · go_wp2_with (first | (go_at_call 40; (with_reducible refine (h1 _).mono ?_); rintro e w1 ⟨rfl, rfl⟩) | (go_at_call 40; (with_reducible refine (h2 _).mono ?_); rintro e w1 ⟨rfl, rfl⟩) | (go_at_call 39; (with_reducible refine (h4 _).mono ?_); rintro e w1 ⟨rfl, rfl⟩) | (refine wpList_store_row rfl 26 _ _ rfl (n + 1) #[.float .f64 i, .float .f64 0] rfl rfl 26 _ r0 (by kernel_rfl) (by kernel_rfl) (by kernel_rfl) ?_))
          (try simp only [Exit.inBlock, Exit.then])
          refine bodyPost_ret (results_cell_row rfl _ _ (n + 1) 26 #[.float .f64 i, .float .f64 0] (0, 0) _ rfl (setRow_heap _ _ _ _ _ _ r0) Try.underlying26 rfl (by kernel_rfl)) rfl ?_
          exact ⟨_, _, rfl, ⟨ci.out, c0.out⟩, by rw [hn.out]; exact below_setRow g0 (Nat.le_succ _) _⟩
    · go_wp2_with (first | (go_at_call 40; (with_reducible refine (h1 _).mono ?_); rintro e w1 ⟨rfl, rfl⟩) | (go_at_call 40; (with_reducible refine (h2 _).mono ?_); rintro e w1 ⟨rfl, rfl⟩) | (refine wpList_store_row rfl 26 _ _ rfl (n + 1) #[.float .f64 0, .float .f64 0] rfl rfl 26 _ r0 (by kernel_rfl) (by kernel_rfl) (by kernel_rfl) ?_))
      (try simp only [Exit.inBlock, Exit.then])
      refine bodyPost_ret (results_cell_row rfl _ _ (n + 1) 26 #[.float .f64 0, .float .f64 0] (0, 0) _ rfl (setRow_heap _ _ _ _ _ _ r0) Try.underlying26 rfl (by kernel_rfl)) rfl ?_
      exact ⟨_, _, rfl, ⟨c0.out, c0.out⟩, by rw [hn.out]; exact below_setRow g0 (Nat.le_succ _) _⟩
  · go_wp2_with (first | (go_at_call 40; (with_reducible refine (h1 _).mono ?_); rintro e w1 ⟨rfl, rfl⟩) | (go_at_call 40; (with_reducible refine (h2 _).mono ?_); rintro e w1 ⟨rfl, rfl⟩) | (refine wpList_store_row rfl 26 _ _ rfl (n + 1) #[.float .f64 0, .float .f64 0] rfl rfl 26 _ r0 (by kernel_rfl) (by kernel_rfl) (by kernel_rfl) ?_))
    (try simp only [Exit.inBlock, Exit.then])
    refine bodyPost_ret (results_cell_row rfl _ _ (n + 1) 26 #[.float .f64 0, .float .f64 0] (0, 0) _ rfl (setRow_heap _ _ _ _ _ _ r0) Try.underlying26 rfl (by kernel_rfl)) rfl ?_
    exact ⟨_, _, rfl, ⟨c0.out, c0.out⟩, by rw [hn.out]; exact below_setRow g0 (Nat.le_succ _) _⟩
end Go.Proofs.Ytfmjmjppkdaanaa
