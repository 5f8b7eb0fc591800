/- Idle: the reference's Does, alike, New, walked. -/
import Derived.Test.YtgnhddnhcfmipaaAct
namespace Go.Proofs.Ytgnhddnhcfmipaa
open Go.RowKit Go.BigFrame

set_option maxHeartbeats 2000000 in
theorem rdoes_any (v : VW) (hv : v.ok) (c d n : Int) (hc : 0 ≤ c ∧ c ≤ 255) (hd : 0 ≤ d ∧ d ≤ 2147483647) (w : World) : Calls Try.prog 13 #[.int .i64 d, .agg #[.int .u8 c, .int .i64 n], .agg v.arr] w fun e w' => e = .returned (.tuple #[.agg (act c d n v).1.arr, .int .i64 (act c d n v).2]) ∧ Below w.heap.size w w' := by
  obtain ⟨u, a, s, k⟩ := v
  obtain ⟨u0, u1, s0, s1, k0, k1⟩ := hv
  simp only at u0 u1 s0 s1 k0 k1
  obtain ⟨hd0, hd1⟩ := hd
  show Calls Try.prog 13 #[.int .i64 d, .agg #[.int .u8 c, .int .i64 n], .agg #[.int .i64 u, .bool a, .int .i64 s, .int .i64 k]] w _
  by_cases c1 : c = 1
  · subst c1
    by_cases h : u = 65535
    · subst h
      have e : Hid (act 1 d n ⟨65535, a, s, k⟩ = (⟨65535, a, s, k⟩, 3)) := Lib.hid rfl
      go_enter Try.func13, Try.ntmps13
      go_wp2
      refine bodyPost_ret (results_row_tmp rfl _ _ (w.heap.size + 2) 29 _ (0, 0) _ rfl (heap_alloc_at' _ _ _ (by rw [size_al, size_al])) Try.underlying29 rfl (by kernel_rfl)) rfl ?_
      exact ⟨by rw [e.out]; rfl, below_al (below_al (below_al (Below.refl _ _) _) _) _⟩
    have hb : (u == 65535) = false := by simpa using h
    cases a with
    | true =>
      have e : Hid (act 1 d n ⟨u, true, s, k⟩ = (⟨u + 1, true, 0, k⟩, 0)) := Lib.hid (by unfold act; rw [if_pos rfl, if_neg h]; rfl)
      go_enter Try.func13, Try.ntmps13
      go_wp2
      refine bodyPost_ret (results_row_tmp rfl _ _ (w.heap.size + 2) 29 _ (0, 0) _ rfl (heap_alloc_at' _ _ _ (by rw [size_al, size_al])) Try.underlying29 rfl (by kernel_rfl)) rfl ?_
      exact ⟨by rw [e.out]; rfl, below_al (below_al (below_al (Below.refl _ _) _) _) _⟩
    | false =>
      have hm : (k + 1).tmod 65536 = (k + 1) % 65536 := Int.tmod_eq_emod_of_nonneg (by omega)
      have e : Hid (act 1 d n ⟨u, false, s, k⟩ = (⟨u + 1, true, 0, (k + 1) % 65536⟩, 0)) := Lib.hid (by unfold act; rw [if_pos rfl, if_neg h]; rfl)
      go_enter Try.func13, Try.ntmps13
      go_wp2
      refine bodyPost_ret (results_row_tmp rfl _ _ (w.heap.size + 2) 29 _ (0, 0) _ rfl (heap_alloc_at' _ _ _ (by rw [size_al, size_al])) Try.underlying29 rfl (by kernel_rfl)) rfl ?_
      exact ⟨by rw [e.out]; rfl, below_al (below_al (below_al (Below.refl _ _) _) _) _⟩
  by_cases c2 : c = 2
  · subst c2
    by_cases h : u = 0
    · subst h
      have e : Hid (act 2 d n ⟨0, a, s, k⟩ = (⟨0, a, s, k⟩, 230)) := Lib.hid rfl
      go_enter Try.func13, Try.ntmps13
      go_wp2
      refine bodyPost_ret (results_row_tmp rfl _ _ (w.heap.size + 2) 29 _ (0, 0) _ rfl (heap_alloc_at' _ _ _ (by rw [size_al, size_al])) Try.underlying29 rfl (by kernel_rfl)) rfl ?_
      exact ⟨by rw [e.out]; rfl, below_al (below_al (below_al (Below.refl _ _) _) _) _⟩
    have hb : (u == 0) = false := by simpa using h
    by_cases h1 : u = 1
    · subst h1
      have e : Hid (act 2 d n ⟨1, a, s, k⟩ = (⟨0, a, n, k⟩, 0)) := Lib.hid rfl
      go_enter Try.func13, Try.ntmps13
      go_wp2
      refine bodyPost_ret (results_row_tmp rfl _ _ (w.heap.size + 2) 29 _ (0, 0) _ rfl (heap_alloc_at' _ _ _ (by rw [size_al, size_al])) Try.underlying29 rfl (by kernel_rfl)) rfl ?_
      exact ⟨by rw [e.out]; rfl, below_al (below_al (below_al (Below.refl _ _) _) _) _⟩
    have hb1 : (u - 1 == 0) = false := by simpa using (by omega : u - 1 ≠ 0)
    have e : Hid (act 2 d n ⟨u, a, s, k⟩ = (⟨u - 1, a, s, k⟩, 0)) := Lib.hid (by unfold act; rw [if_neg (by decide), if_pos rfl, if_neg h]; simp only; rw [if_neg (by omega)])
    go_enter Try.func13, Try.ntmps13
    go_wp2
    refine bodyPost_ret (results_row_tmp rfl _ _ (w.heap.size + 2) 29 _ (0, 0) _ rfl (heap_alloc_at' _ _ _ (by rw [size_al, size_al])) Try.underlying29 rfl (by kernel_rfl)) rfl ?_
    exact ⟨by rw [e.out]; rfl, below_al (below_al (below_al (Below.refl _ _) _) _) _⟩
  have b1 : (c == 1) = false := by simpa using c1
  have b2 : (c == 2) = false := by simpa using c2
  by_cases c3 : c = 3
  case neg =>
    have b3 : (c == 3) = false := by simpa using c3
    have e : Hid (act c d n ⟨u, a, s, k⟩ = (⟨u, a, s, k⟩, 0)) := Lib.hid (by unfold act; rw [if_neg c1, if_neg c2, if_neg c3])
    go_enter Try.func13, Try.ntmps13
    go_wp2
    refine bodyPost_ret (results_row_tmp rfl _ _ (w.heap.size + 2) 29 _ (0, 0) _ rfl (heap_alloc_at' _ _ _ (by rw [size_al, size_al])) Try.underlying29 rfl (by kernel_rfl)) rfl ?_
    exact ⟨by rw [e.out]; rfl, below_al (below_al (below_al (Below.refl _ _) _) _) _⟩
  subst c3
  clear b1 b2 c1 c2
  cases a with
  | false =>
    have e : Hid (act 3 d n ⟨u, false, s, k⟩ = (⟨u, false, s, k⟩, 0)) := Lib.hid (by unfold act; simp)
    go_enter Try.func13, Try.ntmps13
    go_wp2
    refine bodyPost_ret (results_row_tmp rfl _ _ (w.heap.size + 2) 29 _ (0, 0) _ rfl (heap_alloc_at' _ _ _ (by rw [size_al, size_al])) Try.underlying29 rfl (by kernel_rfl)) rfl ?_
    exact ⟨by rw [e.out]; rfl, below_al (below_al (below_al (Below.refl _ _) _) _) _⟩
  | true =>
    by_cases h : u = 0
    case neg =>
      have hb : (u == 0) = false := by simpa using h
      have e : Hid (act 3 d n ⟨u, true, s, k⟩ = (⟨u, true, s, k⟩, 0)) := Lib.hid (by unfold act; simp [h])
      go_enter Try.func13, Try.ntmps13
      go_wp2
      refine bodyPost_ret (results_row_tmp rfl _ _ (w.heap.size + 2) 29 _ (0, 0) _ rfl (heap_alloc_at' _ _ _ (by rw [size_al, size_al])) Try.underlying29 rfl (by kernel_rfl)) rfl ?_
      exact ⟨by rw [e.out]; rfl, below_al (below_al (below_al (Below.refl _ _) _) _) _⟩
    subst h
    by_cases h2 : s + d ≤ n
    · have e : Hid (act 3 d n ⟨0, true, s, k⟩ = (⟨0, false, s, k⟩, 0)) := Lib.hid (by unfold act; simp [h2])
      go_enter Try.func13, Try.ntmps13
      go_wp2
      refine bodyPost_ret (results_row_tmp rfl _ _ (w.heap.size + 2) 29 _ (0, 0) _ rfl (heap_alloc_at' _ _ _ (by rw [size_al, size_al])) Try.underlying29 rfl (by kernel_rfl)) rfl ?_
      exact ⟨by rw [e.out]; rfl, below_al (below_al (below_al (Below.refl _ _) _) _) _⟩
    · have e : Hid (act 3 d n ⟨0, true, s, k⟩ = (⟨0, true, s, k⟩, 0)) := Lib.hid (by unfold act; simp [h2])
      go_enter Try.func13, Try.ntmps13
      go_wp2
      refine bodyPost_ret (results_row_tmp rfl _ _ (w.heap.size + 2) 29 _ (0, 0) _ rfl (heap_alloc_at' _ _ _ (by rw [size_al, size_al])) Try.underlying29 rfl (by kernel_rfl)) rfl ?_
      exact ⟨by rw [e.out]; rfl, below_al (below_al (below_al (Below.refl _ _) _) _) _⟩

set_option maxHeartbeats 1000000 in
theorem alike_any (v : VW) (w : World) : Calls Try.prog 17 #[.agg v.arr, .agg v.arr] w fun e w' => e = .returned (.bool true) ∧ Below w.heap.size w w' := by
  obtain ⟨u, a, s, k⟩ := v
  show Calls Try.prog 17 #[.agg #[.int .i64 u, .bool a, .int .i64 s, .int .i64 k], .agg #[.int .i64 u, .bool a, .int .i64 s, .int .i64 k]] w _
  go_enter Try.func17, Try.ntmps17
  go_wp2
  go_ret
  exact ⟨rfl, below_al (below_al (Below.refl _ _) _) _⟩

theorem isTick_iff (n : Int) : isTick n = true ↔ 0 ≤ n ∧ n ≤ 2147483647 := by unfold isTick; simp
set_option maxHeartbeats 1000000 in
theorem new_any (d : Int) (w : World) : Calls Try.prog 11 #[.int .i64 d] w fun e w' => (isTick d = false ∧ e = .returned (.tuple #[.pointer none, .int .i64 1]) ∧ w' = w) ∨ (isTick d = true ∧ e = .returned (.tuple #[.pointer (some ⟨w.heap.size, 0, none⟩), .int .i64 0]) ∧ w' = w.alloc (.cells #[.int .i64 d, .int .u64 0] 100)) := by
  have K := fun W => tick_any d W
  cases ht : isTick d with
  | false =>
    rw [ht] at K
    go_enter Try.func11, Try.ntmps11
    go_wp2_with (go_at_call 41; (with_reducible refine (K _).mono ?_); rintro e w1 ⟨rfl, rfl⟩)
    go_ret2
    exact Or.inl ⟨trivial, rfl, rfl⟩
  | true =>
    rw [ht] at K
    go_enter Try.func11, Try.ntmps11
    go_wp2_with (go_at_call 41; (with_reducible refine (K _).mono ?_); rintro e w1 ⟨rfl, rfl⟩)
    go_ret2
    exact Or.inr ⟨trivial, rfl, rfl⟩
end Go.Proofs.Ytgnhddnhcfmipaa
