/- Idle: what a call makes of a word; packed, get, put, sweep, the reference's Does, alike, New, walked. -/
import Derived.Test.YtgnhddnhcfmipaaWord
namespace Go.Proofs.Ytgnhddnhcfmipaa
open Go.RowKit Go.BigFrame

/-- what a call makes of a word, and its code -/
def act (kind delay now : Int) (v : VW) : VW × Int :=
  if kind = 1 then (if v.u = 65535 then (v, 3) else (⟨v.u + 1, true, 0, if v.a then v.k else (v.k + 1) % 65536⟩, 0))
  else if kind = 2 then (if v.u = 0 then (v, 230) else (⟨v.u - 1, v.a, if v.u - 1 = 0 then now else v.s, v.k⟩, 0))
  else if kind = 3 then (if v.a = true ∧ v.u = 0 ∧ v.s + delay ≤ now then (⟨v.u, false, v.s, v.k⟩, 0) else (v, 0))
  else (v, 0)
theorem act_ok {kind delay now : Int} {v : VW} (h : v.ok) (hn : 0 ≤ now ∧ now ≤ 2147483647) : (act kind delay now v).1.ok := by
  obtain ⟨u0, u1, s0, s1, k0, k1⟩ := h
  unfold act
  split
  · split
    · exact ⟨u0, u1, s0, s1, k0, k1⟩
    · refine ⟨by simp only; omega, by simp only; omega, by simp, by simp, ?_, ?_⟩ <;> (simp only; split <;> omega)
  · split
    · split
      · exact ⟨u0, u1, s0, s1, k0, k1⟩
      · refine ⟨by simp only; omega, by simp only; omega, ?_, ?_, k0, k1⟩ <;> (simp only; split <;> omega)
    · split
      · split
        · exact ⟨u0, u1, s0, s1, k0, k1⟩
        · exact ⟨u0, u1, s0, s1, k0, k1⟩
      · exact ⟨u0, u1, s0, s1, k0, k1⟩
theorem act_code {kind delay now : Int} {v : VW} (h : (act kind delay now v).1 ≠ v) : (act kind delay now v).2 = 0 := by
  unfold act at *
  split
  · rename_i h1
    rw [if_pos h1] at h
    split
    · rename_i h2; rw [if_pos h2] at h; exact absurd rfl h
    · rfl
  · rename_i h1
    rw [if_neg h1] at h
    split
    · rename_i h3
      rw [if_pos h3] at h
      split
      · rename_i h2; rw [if_pos h2] at h; exact absurd rfl h
      · rfl
    · split
      · split <;> rfl
      · rfl

theorem and_i64 {a : Int} (h0 : 0 ≤ a) (h1 : a ≤ 65536) : bits BinOp.and IntKind.i64 a 65535 = a % 65536 := by
  obtain ⟨x, rfl⟩ := Int.eq_ofNat_of_zero_le h0
  have hx : x < 18446744073709551616 := by omega
  have h2 : x &&& 65535 = x % 65536 := nat_mask16 x
  show IntKind.i64.wrap ((BitVec.ofInt 64 (x : Int) &&& BitVec.ofInt 64 ((65535 : Nat) : Int)).toNat : Int) = _
  rw [BitVec.toNat_and, ofInt_u64 x hx, ofInt_u64 65535 (by decide), h2, IntKind.wrap_i64]
  omega
theorem results_row_tmp {P : Program} {fn : Func} {p u : Tmp} {ty : TypeId} (h : fn.results = #[.cell p ty, .tmp u]) (tmps : Array Value) (w : World) (g : Nat) (t : TypeId) (cs : Array Value) (fr : Nat × Nat) (d : TypeDesc)
    (hp : tmps.getD p undef = .pointer (some ⟨g, 0, none⟩)) (hg : w.heap[g]? = some (.cells cs t fr))
    (hu : P.underlying ty = some d) (hd : (match d with | .struct _ | .array _ _ => true | _ => false) = true) (hi : (P.info? ty).map (·.size) = some cs.size) :
    (results fn tmps).run P w = .ok (.tuple #[.agg cs, tmps.getD u undef]) w := by
  rw [results_cell_tmp h, hp]
  simp [asAddr, Result.andThen, run_loadVar_row w g t ty cs fr d hg hu hd hi]

set_option maxHeartbeats 1000000 in
theorem packed_any (v : VW) (hv : v.ok) (w : World) : Calls Try.prog 61 #[.agg v.arr] w fun e w' => e = .returned (.int .u64 v.num) ∧ Below w.heap.size w w' := by
  obtain ⟨u, a, s, k⟩ := v
  obtain ⟨u0, u1, s0, s1, k0, k1⟩ := hv
  simp only at u0 u1 s0 s1 k0 k1
  show Calls Try.prog 61 #[.agg #[.int .i64 u, .bool a, .int .i64 s, .int .i64 k]] w _
  have o1 := or_add (a := u) (b := s) 16 u0 (by rw [show (2 : Int) ^ 16 = 65536 from rfl]; omega) s0 (by rw [show (2 : Int) ^ 16 = 65536 from rfl]; omega) (by decide)
  rw [show (2 : Int) ^ 16 = 65536 from rfl] at o1
  have o2 := or_add (a := u + s * 65536) (b := k) 47 (by omega) (by rw [show (2 : Int) ^ 47 = 140737488355328 from rfl]; omega) k0 (by rw [show (2 : Int) ^ 47 = 140737488355328 from rfl]; omega) (by decide)
  rw [show (2 : Int) ^ 47 = 140737488355328 from rfl] at o2
  have o3 := or_add (a := u + s * 65536 + k * 140737488355328) (b := 1) 63 (by omega) (by rw [show (2 : Int) ^ 63 = 9223372036854775808 from rfl]; omega) (by decide) (by decide) (by decide)
  rw [show (1 : Int) * (2 : Int) ^ 63 = 9223372036854775808 from rfl] at o3
  cases a with
  | true =>
    go_enter Try.func61, Try.ntmps61
    go_wp2
    go_ret
    exact ⟨rfl, below_al (Below.refl _ _) _⟩
  | false =>
    go_enter Try.func61, Try.ntmps61
    go_wp2
    go_ret
    exact ⟨rfl, below_al (Below.refl _ _) _⟩

set_option maxHeartbeats 1000000 in
theorem get_any (v : VW) (hv : v.ok) (d n : Int) (w : World) : Calls Try.prog 79 #[.int .i64 d, .int .i64 n, .agg v.arr] w fun e w' => e = .returned (.tuple #[.agg (act 1 d n v).1.arr, .int .i64 (act 1 d n v).2]) ∧ Below w.heap.size w w' := by
  obtain ⟨u, a, s, k⟩ := v
  obtain ⟨u0, u1, s0, s1, k0, k1⟩ := hv
  simp only at u0 u1 s0 s1 k0 k1
  show Calls Try.prog 79 #[.int .i64 d, .int .i64 n, .agg #[.int .i64 u, .bool a, .int .i64 s, .int .i64 k]] w _
  by_cases h : u = 65535
  · subst h
    have e : Hid (act 1 d n ⟨65535, a, s, k⟩ = (⟨65535, a, s, k⟩, 3)) := Lib.hid rfl
    go_enter Try.func79, Try.ntmps79
    go_wp2
    refine bodyPost_ret (results_row_tmp rfl _ _ (w.heap.size + 1) 38 _ (0, 0) _ rfl (heap_alloc_at' _ _ _ (by rw [size_al])) Try.underlying38 rfl (by kernel_rfl)) rfl ?_
    exact ⟨by rw [e.out]; rfl, below_al (below_al (Below.refl _ _) _) _⟩
  have hb : (u == 65535) = false := by simpa using h
  have hm := and_i64 (a := k + 1) (by omega) (by omega)
  cases a with
  | true =>
    have e : Hid (act 1 d n ⟨u, true, s, k⟩ = (⟨u + 1, true, 0, k⟩, 0)) := Lib.hid (by unfold act; rw [if_pos rfl, if_neg h]; rfl)
    go_enter Try.func79, Try.ntmps79
    go_wp2
    refine bodyPost_ret (results_row_tmp rfl _ _ (w.heap.size + 1) 38 _ (0, 0) _ rfl (heap_alloc_at' _ _ _ (by rw [size_al])) Try.underlying38 rfl (by kernel_rfl)) rfl ?_
    exact ⟨by rw [e.out]; rfl, below_al (below_al (Below.refl _ _) _) _⟩
  | false =>
    have e : Hid (act 1 d n ⟨u, false, s, k⟩ = (⟨u + 1, true, 0, (k + 1) % 65536⟩, 0)) := Lib.hid (by unfold act; rw [if_pos rfl, if_neg h]; rfl)
    go_enter Try.func79, Try.ntmps79
    go_wp2
    refine bodyPost_ret (results_row_tmp rfl _ _ (w.heap.size + 1) 38 _ (0, 0) _ rfl (heap_alloc_at' _ _ _ (by rw [size_al])) Try.underlying38 rfl (by kernel_rfl)) rfl ?_
    exact ⟨by rw [e.out]; rfl, below_al (below_al (Below.refl _ _) _) _⟩

set_option maxHeartbeats 1000000 in
theorem put_any (v : VW) (hv : v.ok) (d n : Int) (w : World) : Calls Try.prog 80 #[.int .i64 d, .int .i64 n, .agg v.arr] w fun e w' => e = .returned (.tuple #[.agg (act 2 d n v).1.arr, .int .i64 (act 2 d n v).2]) ∧ Below w.heap.size w w' := by
  obtain ⟨u, a, s, k⟩ := v
  obtain ⟨u0, u1, s0, s1, k0, k1⟩ := hv
  simp only at u0 u1 s0 s1 k0 k1
  show Calls Try.prog 80 #[.int .i64 d, .int .i64 n, .agg #[.int .i64 u, .bool a, .int .i64 s, .int .i64 k]] w _
  by_cases h : u = 0
  · subst h
    have e : Hid (act 2 d n ⟨0, a, s, k⟩ = (⟨0, a, s, k⟩, 230)) := Lib.hid rfl
    go_enter Try.func80, Try.ntmps80
    go_wp2
    refine bodyPost_ret (results_row_tmp rfl _ _ (w.heap.size + 1) 38 _ (0, 0) _ rfl (heap_alloc_at' _ _ _ (by rw [size_al])) Try.underlying38 rfl (by kernel_rfl)) rfl ?_
    exact ⟨by rw [e.out]; rfl, below_al (below_al (Below.refl _ _) _) _⟩
  have hb : (u == 0) = false := by simpa using h
  by_cases h1 : u = 1
  · subst h1
    have e : Hid (act 2 d n ⟨1, a, s, k⟩ = (⟨0, a, n, k⟩, 0)) := Lib.hid rfl
    go_enter Try.func80, Try.ntmps80
    go_wp2
    refine bodyPost_ret (results_row_tmp rfl _ _ (w.heap.size + 1) 38 _ (0, 0) _ rfl (heap_alloc_at' _ _ _ (by rw [size_al])) Try.underlying38 rfl (by kernel_rfl)) rfl ?_
    exact ⟨by rw [e.out]; rfl, below_al (below_al (Below.refl _ _) _) _⟩
  have hb1 : (u - 1 == 0) = false := by simpa using (by omega : u - 1 ≠ 0)
  have e : Hid (act 2 d n ⟨u, a, s, k⟩ = (⟨u - 1, a, s, k⟩, 0)) := Lib.hid (by unfold act; rw [if_neg (by decide), if_pos rfl, if_neg h]; simp only; rw [if_neg (by omega)])
  go_enter Try.func80, Try.ntmps80
  go_wp2
  refine bodyPost_ret (results_row_tmp rfl _ _ (w.heap.size + 1) 38 _ (0, 0) _ rfl (heap_alloc_at' _ _ _ (by rw [size_al])) Try.underlying38 rfl (by kernel_rfl)) rfl ?_
  exact ⟨by rw [e.out]; rfl, below_al (below_al (Below.refl _ _) _) _⟩

set_option maxHeartbeats 1000000 in
theorem sweep_any (v : VW) (hv : v.ok) (d n : Int) (hd : 0 ≤ d ∧ d ≤ 2147483647) (w : World) : Calls Try.prog 81 #[.int .i64 d, .int .i64 n, .agg v.arr] w fun e w' => e = .returned (.tuple #[.agg (act 3 d n v).1.arr, .int .i64 (act 3 d n v).2]) ∧ Below w.heap.size w w' := by
  obtain ⟨u, a, s, k⟩ := v
  obtain ⟨u0, u1, s0, s1, k0, k1⟩ := hv
  simp only at u0 u1 s0 s1 k0 k1
  show Calls Try.prog 81 #[.int .i64 d, .int .i64 n, .agg #[.int .i64 u, .bool a, .int .i64 s, .int .i64 k]] w _
  obtain ⟨hd0, hd1⟩ := hd
  cases a with
  | false =>
    have e : Hid (act 3 d n ⟨u, false, s, k⟩ = (⟨u, false, s, k⟩, 0)) := Lib.hid (by unfold act; simp)
    go_enter Try.func81, Try.ntmps81
    go_wp2
    refine bodyPost_ret (results_row_tmp rfl _ _ (w.heap.size + 1) 38 _ (0, 0) _ rfl (heap_alloc_at' _ _ _ (by rw [size_al])) Try.underlying38 rfl (by kernel_rfl)) rfl ?_
    exact ⟨by rw [e.out]; rfl, below_al (below_al (Below.refl _ _) _) _⟩
  | true =>
    by_cases h : u = 0
    case neg =>
      have hb : (u == 0) = false := by simpa using h
      have e : Hid (act 3 d n ⟨u, true, s, k⟩ = (⟨u, true, s, k⟩, 0)) := Lib.hid (by unfold act; simp [h])
      go_enter Try.func81, Try.ntmps81
      go_wp2
      refine bodyPost_ret (results_row_tmp rfl _ _ (w.heap.size + 1) 38 _ (0, 0) _ rfl (heap_alloc_at' _ _ _ (by rw [size_al])) Try.underlying38 rfl (by kernel_rfl)) rfl ?_
      exact ⟨by rw [e.out]; rfl, below_al (below_al (Below.refl _ _) _) _⟩
    subst h
    by_cases h2 : s + d ≤ n
    · have e : Hid (act 3 d n ⟨0, true, s, k⟩ = (⟨0, false, s, k⟩, 0)) := Lib.hid (by unfold act; simp [h2])
      go_enter Try.func81, Try.ntmps81
      go_wp2
      refine bodyPost_ret (results_row_tmp rfl _ _ (w.heap.size + 1) 38 _ (0, 0) _ rfl (heap_alloc_at' _ _ _ (by rw [size_al])) Try.underlying38 rfl (by kernel_rfl)) rfl ?_
      exact ⟨by rw [e.out]; rfl, below_al (below_al (Below.refl _ _) _) _⟩
    · have e : Hid (act 3 d n ⟨0, true, s, k⟩ = (⟨0, true, s, k⟩, 0)) := Lib.hid (by unfold act; simp [h2])
      go_enter Try.func81, Try.ntmps81
      go_wp2
      refine bodyPost_ret (results_row_tmp rfl _ _ (w.heap.size + 1) 38 _ (0, 0) _ rfl (heap_alloc_at' _ _ _ (by rw [size_al])) Try.underlying38 rfl (by kernel_rfl)) rfl ?_
      exact ⟨by rw [e.out]; rfl, below_al (below_al (Below.refl _ _) _) _⟩
end Go.Proofs.Ytgnhddnhcfmipaa
