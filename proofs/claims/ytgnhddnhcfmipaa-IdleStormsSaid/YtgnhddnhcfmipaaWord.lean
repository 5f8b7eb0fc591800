/- Idle: a use word, its number, what a call makes of it; the small functions, walked. -/
import Derived.Test.YtgnhddnhcfmipaaW1
import Derived.Laws.ResultCell
namespace Go.Proofs.Ytgnhddnhcfmipaa
open Go.RowKit Go.BigFrame

/-- how a word stands: uses, awake, since, wakes -/
structure VW where
  u : Int
  a : Bool
  s : Int
  k : Int
  deriving DecidableEq
structure VW.ok (v : VW) : Prop where
  u0 : 0 ≤ v.u
  u1 : v.u ≤ 65535
  s0 : 0 ≤ v.s
  s1 : v.s ≤ 2147483647
  k0 : 0 ≤ v.k
  k1 : v.k ≤ 65535
def VW.arr (v : VW) : Array Value := #[.int .i64 v.u, .bool v.a, .int .i64 v.s, .int .i64 v.k]
def VW.low (v : VW) : Int := v.u + v.s * 65536 + v.k * 140737488355328
/-- the word as a number -/
def VW.num (v : VW) : Int := if v.a then v.low + 9223372036854775808 else v.low
theorem VW.low_lt {v : VW} (h : v.ok) : 0 ≤ v.low ∧ v.low < 9223372036854775808 := by
  obtain ⟨_, _, _, _, _, _⟩ := h
  unfold VW.low
  omega
theorem VW.num_lt {v : VW} (h : v.ok) : 0 ≤ v.num ∧ v.num < 18446744073709551616 := by
  have := VW.low_lt h
  unfold VW.num
  split <;> omega
theorem or_add {a b : Int} (i : Nat) (ha0 : 0 ≤ a) (ha : a < 2 ^ i) (hb0 : 0 ≤ b) (hs : b * 2 ^ i < 18446744073709551616) (hi : (2 : Int) ^ i < 18446744073709551616) : bits BinOp.or IntKind.u64 a (b * 2 ^ i) = a + b * 2 ^ i := by
  obtain ⟨x, rfl⟩ := Int.eq_ofNat_of_zero_le ha0
  obtain ⟨y, rfl⟩ := Int.eq_ofNat_of_zero_le hb0
  have hx : x < 2 ^ i := by
    have : ((x : Nat) : Int) < ((2 ^ i : Nat) : Int) := by push_cast; exact ha
    exact_mod_cast this
  have e : ((y : Int) * 2 ^ i) = ((2 ^ i * y : Nat) : Int) := by push_cast; exact Int.mul_comm _ _
  rw [e] at hs ⊢
  have hx2 : x < 18446744073709551616 := by omega
  have hy2 : 2 ^ i * y < 18446744073709551616 := by
    generalize 2 ^ i * y = z at *
    omega
  rw [u64_or_nat x _ hx2 hy2, Nat.or_comm, ← Nat.two_pow_add_eq_or_of_lt hx]
  rw [Int.natCast_add]
  exact Int.add_comm _ _
theorem and_mod {a : Int} (ha0 : 0 ≤ a) (ha : a < 18446744073709551616) : bits BinOp.and IntKind.u64 a 65535 = a % 65536 ∧ bits BinOp.and IntKind.u64 a 2147483647 = a % 2147483648 := by
  obtain ⟨x, rfl⟩ := Int.eq_ofNat_of_zero_le ha0
  have hx : x < 18446744073709551616 := by omega
  refine ⟨?_, ?_⟩
  · have := u64_and_nat x 65535 hx (by decide)
    rw [nat_mask16] at this
    rw [show (65535 : Int) = ((65535 : Nat) : Int) from rfl, this]; simp
  · have := u64_and_nat x 2147483647 hx (by decide)
    rw [nat_mask31] at this
    rw [show (2147483647 : Int) = ((2147483647 : Nat) : Int) from rfl, this]; simp
/-- a number's parts -/
theorem VW.parts {v : VW} (h : v.ok) : v.num % 65536 = v.u ∧ v.num / 65536 % 2147483648 = v.s ∧ v.num / 140737488355328 % 65536 = v.k ∧ (v.num / 9223372036854775808 == 1) = v.a := by
  obtain ⟨u0, u1, s0, s1, k0, k1⟩ := h
  obtain ⟨u, a, s, k⟩ := v
  simp only at u0 u1 s0 s1 k0 k1
  unfold VW.num VW.low
  cases a <;> simp only [if_true, Bool.false_eq_true, if_false]
  · refine ⟨by omega, by omega, by omega, ?_⟩
    simp only [beq_eq_false_iff_ne]; omega
  · refine ⟨by omega, by omega, by omega, ?_⟩
    simp only [beq_iff_eq]; omega
theorem VW.inj {v v' : VW} (h : v.ok) (h' : v'.ok) (e : v.num = v'.num) : v = v' := by
  obtain ⟨a1, a2, a3, a4⟩ := VW.parts h
  obtain ⟨b1, b2, b3, b4⟩ := VW.parts h'
  rw [e] at a1 a2 a3 a4
  obtain ⟨u, a, s, k⟩ := v
  obtain ⟨u', a', s', k'⟩ := v'
  simp only at *
  rw [← a1, ← a2, ← a3, ← a4, b1, b2, b3, b4]

set_option maxHeartbeats 400000 in
theorem view_any (v : VW) (hv : v.ok) (w : World) : Calls Try.prog 44 #[.int .u64 v.num] w fun e w' => e = .returned (.agg v.arr) ∧ Below w.heap.size w w' := by
  have hn := VW.num_lt hv
  obtain ⟨p1, p2, p3, p4⟩ := VW.parts hv
  obtain ⟨u0, u1, s0, s1, k0, k1⟩ := hv
  unfold VW.arr
  generalize v.num = n at *
  have a1 := (and_mod hn.1 hn.2).1
  have a2 := (and_mod (a := n / 65536) (by omega) (by omega)).2
  have a3 := (and_mod (a := n / 140737488355328) (by omega) (by omega)).1
  rw [p1] at a1
  rw [p2] at a2
  rw [p3] at a3
  clear p1 p2 p3
  go_enter Try.func44, Try.ntmps44
  go_wp2
  refine bodyPost_ret (results_cell_row rfl _ _ w.heap.size 38 _ (0, 0) _ rfl (heap_alloc_at _ _) Try.underlying38 rfl (by kernel_rfl)) rfl ?_
  exact ⟨rfl, below_al (Below.refl _ _) _⟩
end Go.Proofs.Ytgnhddnhcfmipaa
