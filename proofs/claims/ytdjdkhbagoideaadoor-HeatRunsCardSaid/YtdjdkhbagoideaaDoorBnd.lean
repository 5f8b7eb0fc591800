/- Floats between whole numbers: sums, differences, products of such; nothing is a NaN. No program here. -/
import Derived.Test.YtdjdkhbagoideaaDoorFltOps
import Derived.Test.YtdjdkhbagoideaaDoorCls
namespace Go.Proofs.YtdjdkhbagoideaaDoor.flt
open Ieee

/-- one, in units of the least place -/
def K0 : Nat := 1074
def U : Nat := 2 ^ K0
theorem U_pos : 0 < U := by unfold U; exact Nat.two_pow_pos K0
theorem rung_exact {m r : Nat} {e : Int} (he : -1074 ≤ e) (hr : r < double.infRung) (h : m * 2 ^ (e + 1074).toNat = V r) : N m e = r := by
  unfold N
  by_cases hm : m = 0
  · rw [if_pos hm]
    rw [hm, Nat.zero_mul] at h
    rcases Nat.eq_zero_or_pos r with q | q
    · exact q.symm
    · have := V_pos q; omega
  · rw [if_neg hm]
    have h1 := rungOf_rd m e hm 1074 (Nat.le_refl _) (by omega)
    have e1 : ((1074 : Nat) : Int) + e = e + 1074 := by omega
    rw [e1, h] at h1
    have h2 := rd_V 0 r
    rw [Nat.pow_zero, Nat.mul_one] at h2
    have := rd_eq (by decide) (by decide) rfl h1 h2
    omega
theorem key_own {z : Nat} (hz : rung z < double.infRung) : ∃ m e, -1074 ≤ e ∧ signed (neg z) m (e + 1074).toNat = val z ∧ m * 2 ^ (e + 1074).toNat = V (rung z) ∧ N m e = rung z ∧ key (double.nearest (neg z) m e) = key z := by
  obtain ⟨m, e, _, he, hm⟩ := read_fin hz
  have hn := rung_exact he hz hm
  refine ⟨m, e, he, ?_, hm, hn, ?_⟩
  · have := signed_val (x := z) (m := m) (e := e) (b := -1074) (by omega) he hm
    rw [show (-1074 + 1074 : Int).toNat = 0 from rfl, Nat.pow_zero] at this
    rw [← this, show e - -1074 = e + 1074 by omega]
    omega
  · rw [key_nearest, hn]; rfl
theorem round_le {s : Bool} {m z : Nat} {e : Int} (he : -1074 ≤ e) (hz : rung z < double.infRung) (h : signed s m (e + 1074).toNat ≤ val z) : key (double.nearest s m e) ≤ key z := by
  obtain ⟨n, j, hj, hv, _, _, hk⟩ := key_own hz
  rw [← hk]
  refine near_mono (K := 1074) (Nat.le_refl _) (by omega) (by omega) ?_
  have e1 : ((1074 : Nat) : Int) + e = e + 1074 := by omega
  have e2 : ((1074 : Nat) : Int) + j = j + 1074 := by omega
  rw [e1, e2, hv]
  exact h
theorem le_round {s : Bool} {m z : Nat} {e : Int} (he : -1074 ≤ e) (hz : rung z < double.infRung) (h : val z ≤ signed s m (e + 1074).toNat) : key z ≤ key (double.nearest s m e) := by
  obtain ⟨n, j, hj, hv, _, _, hk⟩ := key_own hz
  rw [← hk]
  refine near_mono (K := 1074) (Nat.le_refl _) (by omega) (by omega) ?_
  have e1 : ((1074 : Nat) : Int) + e = e + 1074 := by omega
  have e2 : ((1074 : Nat) : Int) + j = j + 1074 := by omega
  rw [e1, e2, hv]
  exact h
theorem val_le {x y : Nat} : val x ≤ val y ↔ key x ≤ key y := by
  have := (val_key (x := y) (y := x)).1
  omega
/-- a whole number is a float -/
theorem whole_nat {c : Nat} (h : c < 2 ^ 53) : ∃ r, r < double.infRung ∧ V r = c * U := by
  rcases Nat.eq_zero_or_pos c with hc | hc
  · exact ⟨0, by rw [infRung_eq]; decide, by rw [hc, Nat.zero_mul]; rfl⟩
  · obtain ⟨l, hl⟩ : ∃ l, c.log2 = l := ⟨_, rfl⟩
    have h1 : 2 ^ l ≤ c := by rw [← hl]; exact Nat.log2_self_le (by omega)
    have h2 : c < 2 ^ (l + 1) := by rw [← hl]; exact Nat.lt_log2_self
    have hl53 : l < 53 := two_pow_lt (Nat.lt_of_le_of_lt h1 h)
    have h3 : 2 ^ 52 ≤ c * 2 ^ (52 - l) := by
      have : 2 ^ l * 2 ^ (52 - l) ≤ c * 2 ^ (52 - l) := Nat.mul_le_mul_right _ h1
      rwa [← Nat.pow_add, show l + (52 - l) = 52 by omega] at this
    have h4 : c * 2 ^ (52 - l) < 2 ^ 53 := by
      have : c * 2 ^ (52 - l) < 2 ^ (l + 1) * 2 ^ (52 - l) := Nat.mul_lt_mul_of_pos_right h2 (Nat.two_pow_pos _)
      rwa [← Nat.pow_add, show l + 1 + (52 - l) = 53 by omega] at this
    obtain ⟨f, hf⟩ : ∃ f, c * 2 ^ (52 - l) = 2 ^ 52 + f := ⟨c * 2 ^ (52 - l) - 2 ^ 52, by omega⟩
    have hf2 : f < 2 ^ 52 := by omega
    have hdiv : ((1023 + l) * 2 ^ 52 + f) / 2 ^ 52 = 1023 + l := by omega
    have hmod : ((1023 + l) * 2 ^ 52 + f) % 2 ^ 52 = f := by omega
    refine ⟨(1023 + l) * 2 ^ 52 + f, by rw [infRung_eq]; omega, ?_⟩
    unfold V
    rw [if_neg (by omega), hdiv, hmod, ← hf]
    unfold U
    rw [Nat.mul_assoc, ← Nat.pow_add, show 52 - l + (1023 + l - 1) = K0 by unfold K0; omega]
theorem val_word (s : Bool) {r : Nat} (h : r < double.infRung) : rung (double.word s r) = r ∧ neg (double.word s r) = s ∧ val (double.word s r) = if s then -(V r : Int) else V r := by
  have hr : r < double.signWeight := Nat.lt_trans h (Format.infRung_lt double)
  have h1 : rung (double.word s r) = r := word_mod double s hr
  have h2 : neg (double.word s r) = s := word_div double s hr
  refine ⟨h1, h2, ?_⟩
  unfold val
  rw [h1, h2]
theorem whole (n : Int) (h : -9007199254740992 < n ∧ n < 9007199254740992) : ∃ z, rung z < double.infRung ∧ val z = n * (U : Int) := by
  obtain ⟨r, hr, hV⟩ := whole_nat (c := n.natAbs) (by omega)
  obtain ⟨h1, _, h3⟩ := val_word (decide (n < 0)) hr
  refine ⟨double.word (decide (n < 0)) r, by rw [h1]; exact hr, ?_⟩
  rw [h3, hV]
  by_cases hn : n < 0
  · simp only [hn, decide_true, if_true]
    rw [Int.natCast_mul, ← Int.neg_mul]
    congr 1; omega
  · simp only [hn, decide_false, if_false, Bool.false_eq_true]
    rw [Int.natCast_mul]
    congr 1; omega
/-- a finite float between two whole numbers -/
structure Bt (a b : Int) (x : Nat) : Prop where
  f : rung x < double.infRung
  l : a * (U : Int) ≤ val x
  h : val x ≤ b * (U : Int)
theorem Bt.nn {a b : Int} {x : Nat} (h : Bt a b x) : nn x := by
  obtain ⟨m, e, hr, _⟩ := read_fin h.f
  unfold flt.nn
  rw [hr]; rfl
theorem Bt.fin {a b : Int} {x : Nat} (h : Bt a b x) : fin x := by
  obtain ⟨m, e, hr, _⟩ := read_fin h.f
  exact ⟨_, _, _, hr⟩
theorem Bt.mono {a b c d : Int} {x : Nat} (h : Bt a b x) (h1 : c ≤ a) (h2 : b ≤ d) : Bt c d x :=
  ⟨h.f, Int.le_trans (Int.mul_le_mul_of_nonneg_right h1 (Int.natCast_nonneg _)) h.l, Int.le_trans h.h (Int.mul_le_mul_of_nonneg_right h2 (Int.natCast_nonneg _))⟩
def In53 (a b : Int) : Prop := (-9007199254740992 < a ∧ a < 9007199254740992) ∧ -9007199254740992 < b ∧ b < 9007199254740992
theorem Bt.near {a b : Int} {s : Bool} {m : Nat} {e : Int} (hab : In53 a b) (he : -1074 ≤ e) (h1 : a * (U : Int) ≤ signed s m (e + 1074).toNat) (h2 : signed s m (e + 1074).toNat ≤ b * (U : Int)) : Bt a b (double.nearest s m e) := by
  obtain ⟨z, hz, hzv⟩ := whole a hab.1
  obtain ⟨y, hy, hyv⟩ := whole b hab.2
  have k1 := le_round he hz (by rw [hzv]; exact h1)
  have k2 := round_le he hy (by rw [hyv]; exact h2)
  exact ⟨fin_between hz hy k1 k2, by rw [← hzv]; exact val_le.2 k1, by rw [← hyv]; exact val_le.2 k2⟩
theorem fsub_spec {x y : Nat} (hx : rung x < double.infRung) (hy : rung y < double.infRung) : floatBits .sub .f64 x y = some (fsub x y) ∧ ∃ s m e, fsub x y = double.nearest s m e ∧ -1074 ≤ e ∧ signed s m (e + 1074).toNat = val x - val y := by
  obtain ⟨m, i, h1, hi, hm⟩ := read_fin hx
  obtain ⟨n, j, h2, hj, hn⟩ := read_fin hy
  have hb : floatBits .sub .f64 x y = double.sub x y := rfl
  rw [hb]
  unfold fsub Format.sub
  rw [h1, h2]
  refine ⟨rfl, _, _, min i j, rfl, by omega, ?_⟩
  have s1 := signed_val (x := x) (b := min i j) (by omega) (by omega) hm
  have s2 := signed_val (x := y) (b := min i j) (by omega) (by omega) hn
  have hneg : ∀ (b : Bool) (n u : Nat), signed (!b) n u = -signed b n u := fun b n u => by
    rw [signed_eq, signed_eq]; cases b <;> simp
  rw [← s1, ← s2, ← Int.sub_mul, signed_mul]
  congr 1
  rw [hneg, ← Int.sub_eq_add_neg]
  apply signed_neg_abs
  by_cases h0 : signed (neg x) m (i - min i j).toNat - signed (neg y) n (j - min i j).toNat = 0
  · exact Or.inl h0
  · right; rw [if_neg h0]
theorem Bt.add {a b c d : Int} {x y : Nat} (hx : Bt a b x) (hy : Bt c d y) (h : In53 (a + c) (b + d)) : floatBits .add .f64 x y = some (fadd x y) ∧ Bt (a + c) (b + d) (fadd x y) := by
  obtain ⟨s, m, e, h1, he, hv⟩ := fadd_spec hx.f hy.f
  refine ⟨(add_some hx.nn hy.fin).1, ?_⟩
  rw [h1]
  refine Bt.near h he ?_ ?_
  · rw [hv, Int.add_mul]; have := hx.l; have := hy.l; omega
  · rw [hv, Int.add_mul]; have := hx.h; have := hy.h; omega
theorem Bt.sub {a b c d : Int} {x y : Nat} (hx : Bt a b x) (hy : Bt c d y) (h : In53 (a - d) (b - c)) : floatBits .sub .f64 x y = some (fsub x y) ∧ Bt (a - d) (b - c) (fsub x y) := by
  obtain ⟨h0, s, m, e, h1, he, hv⟩ := fsub_spec hx.f hy.f
  refine ⟨h0, ?_⟩
  rw [h1]
  refine Bt.near h he ?_ ?_
  · rw [hv, Int.sub_mul]; have := hx.l; have := hy.h; omega
  · rw [hv, Int.sub_mul]; have := hx.h; have := hy.l; omega
theorem fmul_spec {x y : Nat} (hx : rung x < double.infRung) (hy : rung y < double.infRung) : floatBits .mul .f64 x y = some (fmul x y) ∧
    ∃ m e, fmul x y = double.nearest (neg x ^^ neg y) m e ∧ -2148 ≤ e ∧ m * 2 ^ (e + 2148).toNat = V (rung x) * V (rung y) := by
  obtain ⟨m, i, h1, hi, hm⟩ := read_fin hx
  obtain ⟨n, j, h2, hj, hn⟩ := read_fin hy
  have e : double.mul x y = some (double.nearest (neg x ^^ neg y) (m * n) (i + j)) := by
    unfold Format.mul
    rw [h1, h2]
    rfl
  refine ⟨by show double.mul x y = some ((double.mul x y).getD 0); rw [e]; rfl, m * n, i + j, by unfold fmul; rw [e]; rfl, by omega, ?_⟩
  rw [← hm, ← hn, show (i + j + 2148).toNat = (i + 1074).toNat + (j + 1074).toNat by omega, Nat.pow_add]
  rw [Nat.mul_assoc, Nat.mul_assoc, Nat.mul_left_comm n]
/-- a product is no greater than what the product of the sizes comes to -/
theorem fmul_size {x y z : Nat} (hx : rung x < double.infRung) (hy : rung y < double.infRung) (hz : rung z < double.infRung) (h : V (rung x) * V (rung y) ≤ V (rung z) * U) :
    ∃ r, r ≤ rung z ∧ fmul x y = double.word (neg x ^^ neg y) r := by
  obtain ⟨_, m, e, h1, he, hv⟩ := fmul_spec hx hy
  obtain ⟨n, j, hj, _, hn, hN, _⟩ := key_own hz
  refine ⟨N m e, ?_, by rw [h1, nearest_N]⟩
  rw [← hN]
  refine N_mono (K := 2148) (by decide) (by omega) (by omega) ?_
  have e1 : ((2148 : Nat) : Int) + e = e + 2148 := by omega
  have e2 : (((2148 : Nat) : Int) + j).toNat = (j + 1074).toNat + K0 := by unfold K0; omega
  rw [e1, hv, e2, Nat.pow_add, ← Nat.mul_assoc, hn]
  exact h
theorem V_mono {r q : Nat} (h : r ≤ q) : V r ≤ V q := by
  rcases Nat.lt_or_ge r q with k | k
  · exact Nat.le_of_lt (V_lt k)
  · have : r = q := by omega
    rw [this]; exact Nat.le_refl _
theorem V_abs {x : Nat} {a : Nat} (h : Bt (-(a : Int)) a x) : V (rung x) ≤ a * U := by
  have h1 := h.l
  have h2 := h.h
  unfold val at h1 h2
  rw [Int.neg_mul] at h1
  rw [← Int.natCast_mul] at h1 h2
  split at h1 <;> rename_i hq
  · omega
  · rw [if_neg hq] at h2; omega
theorem Bt.mul {a b : Nat} {x y : Nat} (hx : Bt (-(a : Int)) a x) (hy : Bt (-(b : Int)) b y) (h : a * b < 2 ^ 53) : floatBits .mul .f64 x y = some (fmul x y) ∧ Bt (-((a * b : Nat) : Int)) ((a * b : Nat) : Int) (fmul x y) := by
  refine ⟨(fmul_spec hx.f hy.f).1, ?_⟩
  obtain ⟨r, hr, hV⟩ := whole_nat h
  obtain ⟨w1, w2, w3⟩ := val_word false hr
  obtain ⟨q, hq, he⟩ := fmul_size hx.f hy.f (z := double.word false r) (by rw [w1]; exact hr) (by
    rw [w1, hV]
    have := Nat.mul_le_mul (V_abs hx) (V_abs hy)
    calc V (rung x) * V (rung y) ≤ a * U * (b * U) := this
      _ = a * b * U * U := by rw [Nat.mul_assoc, Nat.mul_left_comm U, ← Nat.mul_assoc, ← Nat.mul_assoc])
  rw [w1] at hq
  obtain ⟨v1, v2, v3⟩ := val_word (neg x ^^ neg y) (Nat.lt_of_le_of_lt hq hr)
  have hVq := V_mono hq
  rw [hV] at hVq
  rw [he]
  refine ⟨by rw [v1]; omega, ?_, ?_⟩
  · rw [v3, Int.neg_mul, ← Int.natCast_mul]; split <;> omega
  · rw [v3, ← Int.natCast_mul]; split <;> omega
/-- a part of something: a factor from 0 to 1 -/
theorem part_of {a d : Nat} (ha : rung a < double.infRung) (hn : neg a = false) (h1 : V (rung a) ≤ U) (hd : rung d < double.infRung) : floatBits .mul .f64 a d = some (fmul a d) ∧ rung (fmul a d) < double.infRung ∧ (0 ≤ val d → 0 ≤ val (fmul a d) ∧ val (fmul a d) ≤ val d) ∧ (val d ≤ 0 → val d ≤ val (fmul a d) ∧ val (fmul a d) ≤ 0) := by
  obtain ⟨r, hr, he⟩ := fmul_size ha hd hd (by rw [Nat.mul_comm (V (rung d))]; exact Nat.mul_le_mul_right _ h1)
  rw [hn, Bool.false_xor] at he
  obtain ⟨v1, v2, v3⟩ := val_word (neg d) (Nat.lt_of_le_of_lt hr hd)
  have hV := V_mono hr
  refine ⟨(fmul_spec ha hd).1, by rw [he, v1]; omega, fun h => ?_, fun h => ?_⟩
  · rw [he, v3]
    unfold val at h ⊢
    split at h <;> rename_i q
    · simp only [q, if_true] at h ⊢; omega
    · simp only [q, if_false, Bool.false_eq_true] at h ⊢; omega
  · rw [he, v3]
    unfold val at h ⊢
    split at h <;> rename_i q
    · simp only [q, if_true] at h ⊢; omega
    · simp only [q, if_false, Bool.false_eq_true] at h ⊢; omega
/-- THE FILTER keeps within 2^20 -/
theorem filter_step {a h x : Nat} (ha : rung a < double.infRung) (hn : neg a = false) (h1 : V (rung a) ≤ U) (hh : Bt (-1048576) 1048576 h) (hx : Bt (-1000000) 1000000 x) :
    floatBits .sub .f64 x h = some (fsub x h) ∧ floatBits .mul .f64 a (fsub x h) = some (fmul a (fsub x h)) ∧ floatBits .add .f64 h (fmul a (fsub x h)) = some (fadd h (fmul a (fsub x h))) ∧ Bt (-1048576) 1048576 (fadd h (fmul a (fsub x h))) := by
  obtain ⟨s0, hd⟩ := hx.sub hh (by unfold In53; omega)
  obtain ⟨m0, mf, mp, mn⟩ := part_of ha hn h1 hd.f
  obtain ⟨_, s, n, e, es, he, hv⟩ := fsub_spec hx.f hh.f
  have hU : (0 : Int) < (U : Int) := Int.ofNat_lt.2 U_pos
  obtain ⟨k, hk⟩ : ∃ k : Int, val h / (U : Int) = k := ⟨_, rfl⟩
  have k1 : k * (U : Int) ≤ val h := by rw [← hk]; exact Int.ediv_mul_le _ (by omega)
  have k2 : val h < (k + 1) * (U : Int) := by
    have := Int.lt_ediv_add_one_mul_self (val h) hU
    rwa [hk] at this
  have hkl : -1048577 < k := by
    have h3 : (-1048576 : Int) * (U : Int) < (k + 1) * (U : Int) := Int.lt_of_le_of_lt hh.l k2
    have := Int.lt_of_mul_lt_mul_right h3 (Int.le_of_lt hU)
    omega
  have hkh : k ≤ 1048576 := by
    have h3 : k * (U : Int) ≤ 1048576 * (U : Int) := Int.le_trans k1 hh.h
    exact Int.le_of_mul_le_mul_right h3 hU
  have fm : Bt (-9000000) 9000000 (fmul a (fsub x h)) := by
    refine ⟨mf, ?_, ?_⟩
    · rcases Int.le_total 0 (val (fsub x h)) with q | q
      · have := (mp q).1; have : (-9000000 : Int) * (U : Int) ≤ 0 := by omega
        omega
      · have e1 := (mn q).1; have e2 := hd.l; omega
    · rcases Int.le_total 0 (val (fsub x h)) with q | q
      · have e1 := (mp q).2; have e2 := hd.h; omega
      · have e1 := (mn q).2; omega
  obtain ⟨a0, _⟩ := hh.add fm (by unfold In53; omega)
  refine ⟨s0, m0, a0, ?_⟩
  obtain ⟨t, p, f, ef, hf, hw⟩ := fadd_spec hh.f mf
  rw [ef]
  have hlow := hh.l
  have hhigh := hh.h
  have hxl := hx.l
  have hxh := hx.h
  rcases Int.le_total (val h) (val x) with q | q
  · have hb : Bt 0 (1000000 - k) (fsub x h) := by
      rw [es]
      refine Bt.near (by unfold In53; omega) he ?_ ?_
      · rw [hv, Int.zero_mul]; omega
      · rw [hv, Int.sub_mul]; omega
    have b1 := hb.l
    rw [Int.zero_mul] at b1
    have b2 := hb.h
    have hm := mp b1
    rw [Int.sub_mul] at b2
    rw [Int.add_mul, Int.one_mul] at k2
    refine Bt.near (by unfold In53; omega) hf ?_ ?_
    · rw [hw]; omega
    · rw [hw]; omega
  · have hb : Bt (-(1000001 + k)) 0 (fsub x h) := by
      rw [es]
      rw [Int.add_mul, Int.one_mul] at k2
      refine Bt.near (by unfold In53; omega) he ?_ ?_
      · rw [hv, Int.neg_mul, Int.add_mul]; omega
      · rw [hv, Int.zero_mul]; omega
    have b1 := hb.h
    rw [Int.zero_mul] at b1
    have b2 := hb.l
    have hm := mn b1
    rw [Int.neg_mul, Int.add_mul] at b2
    refine Bt.near (by unfold In53; omega) hf ?_ ?_
    · rw [hw]; omega
    · rw [hw]; omega
end Go.Proofs.YtdjdkhbagoideaaDoor.flt
