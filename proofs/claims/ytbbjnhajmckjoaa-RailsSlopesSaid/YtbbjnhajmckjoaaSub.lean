/- Rails, plain: differences of floats, turned round. No program here. -/
import Derived.Test.YtbbjnhajmckjoaaAt
namespace Go.Proofs.Ytbbjnhajmckjoaa
open flt Ieee

theorem fsub_spec {x y : Nat} (hx : rung x < double.infRung) (hy : rung y < double.infRung) : floatBits .sub .f64 x y = some (fsub x y) ∧ ∃ s m e, fsub x y = double.nearest s m e ∧ -1074 ≤ e ∧ signed s m (e + 1074).toNat = val x - val y := by
  obtain ⟨m, i, h1, hi, hm⟩ := read_fin hx
  obtain ⟨n, j, h2, hj, hn⟩ := read_fin hy
  have hb : floatBits .sub .f64 x y = double.sub x y := rfl
  rw [hb]
  unfold fsub Format.sub
  rw [h1, h2]
  refine ⟨rfl, _, _, min i j, rfl, by omega, ?_⟩
  have s1 := signed_val (x := x) (b := min i j) (by omega) (by omega) hm
  have s2 := signed_val (x := y) (b := min i j) (by omega) (by omega) hn
  have hneg : ∀ (b : Bool) (n u : Nat), signed (!b) n u = -signed b n u := fun b n u => by
    rw [signed_eq, signed_eq]; cases b <;> simp
  rw [← s1, ← s2, ← Int.sub_mul, signed_mul]
  congr 1
  rw [hneg, ← Int.sub_eq_add_neg]
  apply signed_neg_abs
  by_cases h0 : signed (neg x) m (i - min i j).toNat - signed (neg y) n (j - min i j).toNat = 0
  · exact Or.inl h0
  · right; rw [if_neg h0]
/-- a difference the other way round is the same with the other sign -/
theorem sub_swap {x y : Nat} (hx : rung x < double.infRung) (hy : rung y < double.infRung) : key (fsub y x) = -key (fsub x y) := by
  obtain ⟨-, s, m, e, h1, he, hv⟩ := fsub_spec hx hy
  obtain ⟨-, t, n, d, h2, hd, hw⟩ := fsub_spec hy hx
  have hneg : ∀ (b : Bool) (n u : Nat), signed (!b) n u = -signed b n u := fun b n u => by
    rw [signed_eq, signed_eq]; cases b <;> simp
  have hs : signed (!s) m (e + 1074).toNat = signed t n (d + 1074).toNat := by rw [hneg, hv, hw]; omega
  have e1 : ((1074 : Nat) : Int) + e = e + 1074 := by omega
  have e2 : ((1074 : Nat) : Int) + d = d + 1074 := by omega
  have p1 : key (double.nearest (!s) m e) ≤ key (double.nearest t n d) := near_mono (K := 1074) (by decide) (by omega) (by omega) (by rw [e1, e2, hs]; exact Int.le_refl _)
  have p2 : key (double.nearest t n d) ≤ key (double.nearest (!s) m e) := near_mono (K := 1074) (by decide) (by omega) (by omega) (by rw [e1, e2, hs]; exact Int.le_refl _)
  have p3 : key (double.nearest (!s) m e) = -key (double.nearest s m e) := by
    rw [key_nearest, key_nearest]; cases s <;> simp
  rw [h1, h2]
  omega
theorem sub_nn {x y : Nat} (hx : rung x < double.infRung) (hy : rung y < double.infRung) : op2 .sub (some x) (some y) = some (fsub x y) ∧ nn (fsub x y) := by
  obtain ⟨h0, s, m, e, h1, -⟩ := fsub_spec hx hy
  exact ⟨h0, by rw [h1]; exact nn_nearest _ _ _⟩
/-- a difference of what is alike is a nought -/
theorem fsub_zero_key (x y : Nat) (hx : rung x < double.infRung) (hy : rung y < double.infRung) (h : key x = key y) : key (fsub y x) = 0 := by
  obtain ⟨-, s, m, e, h1, he, hv⟩ := fsub_spec hy hx
  have hq := (val_key (x := x) (y := y)).2.2 h
  rw [h1]
  have e1 : ((1074 : Nat) : Int) + e = e + 1074 := by omega
  have hz : double.nearest false 0 0 = 0 := by decide +kernel
  have e3 : ∀ k, signed false 0 k = 0 := fun k => by rw [signed_eq, Nat.zero_mul]; rfl
  have p1 := near_mono (K := 1074) (s := false) (m := 0) (i := 0) (t := s) (n := m) (j := e) (by decide) (by omega) (by omega) (by rw [e1, hv, e3]; omega)
  have p2 := near_mono (K := 1074) (s := s) (m := m) (i := e) (t := false) (n := 0) (j := 0) (by decide) (by omega) (by omega) (by rw [e1, hv, e3]; omega)
  rw [hz, key_zero] at p1 p2
  omega
/-- a difference of what is not alike is no nought, and has its sign -/
theorem sub_pos {x y : Nat} (hx : rung x < double.infRung) (hy : rung y < double.infRung) (h : key y < key x) : 0 < key (fsub x y) := by
  obtain ⟨-, s, m, e, h1, he, hv⟩ := fsub_spec hx hy
  have hlt := (val_key (x := y) (y := x)).1.2 h
  rw [h1]
  have hk1 : key 1 = 1 := by decide
  have hn1 : double.nearest false 1 (-1074) = 1 := by decide +kernel
  have e1 : ((1074 : Nat) : Int) + e = e + 1074 := by omega
  have e0 : (((1074 : Nat) : Int) + -1074).toNat = 0 := by decide
  have e3 : signed false 1 0 = 1 := by decide
  have := near_mono (K := 1074) (s := false) (m := 1) (i := -1074) (t := s) (n := m) (j := e) (by decide) (by omega) (by omega) (by
    rw [e1, hv, e0, e3]
    omega)
  rw [hn1, hk1] at this
  omega
theorem abs_pos {x : Nat} (h : 0 < key x) (hw : ∃ s r, r ≤ double.infRung ∧ x = double.word s r) : rung x = x := by
  obtain ⟨s, r, hr, rfl⟩ := hw
  rw [key_word s hr] at h
  have hlt : r < double.signWeight := Nat.lt_of_le_of_lt hr (Format.infRung_lt double)
  cases s with
  | true => simp only [if_true] at h; omega
  | false =>
    unfold rung
    rw [word_mod double false hlt]
    unfold Format.word
    simp
theorem sub_word {x y : Nat} (hx : rung x < double.infRung) (hy : rung y < double.infRung) : ∃ s r, r ≤ double.infRung ∧ fsub x y = double.word s r := by
  obtain ⟨-, s, m, e, h1, -⟩ := fsub_spec hx hy
  exact ⟨s, N m e, N_le _ _, by rw [h1, nearest_N]⟩
theorem fin_some {a : Option Nat} (h : isFin a = true) : ∃ x, a = some x ∧ rung x < double.infRung := by
  cases a with
  | none => cases h
  | some x => exact ⟨x, rfl, by simpa [isFin] using h⟩
theorem nn_fin {x : Nat} (h : rung x < double.infRung) : nn x := by
  obtain ⟨m, i, h1, -, -⟩ := read_fin h
  unfold nn
  rw [h1]
  rfl
theorem ord_keys {x y : Nat} (hx : rung x < double.infRung) (hy : rung y < double.infRung) : ord (some x) (some y) = some (compare (key x) (key y)) := ord_some (nn_fin hx) (nn_fin hy)
theorem gtc_keys {x y : Nat} (hx : rung x < double.infRung) (hy : rung y < double.infRung) : gtc (some x) (some y) = decide (key y < key x) := by
  unfold gtc
  rw [ord_keys hx hy]
  by_cases h : key y < key x
  · have : compare (key x) (key y) = .gt := by rw [Int.compare_eq_gt]; exact h
    rw [this, decide_eq_true h]; rfl
  · have : ¬ compare (key x) (key y) = .gt := by rw [Int.compare_eq_gt]; exact h
    rw [decide_eq_false h]
    cases hc : compare (key x) (key y) <;> first | rfl | exact absurd hc this
/-- what stands in a comparison is told by its place alone -/
theorem gec_key {d : Option Nat} (hd : ∀ x, d = some x → nn x) {a b : Nat} (ha : nn a) (hb : nn b) (h : key a = key b) : gec d (some a) = gec d (some b) := by
  cases d with
  | none => rfl
  | some x =>
    unfold gec
    rw [ord_some (hd x rfl) ha, ord_some (hd x rfl) hb, h]
def atr (f t r u : Option Nat) : Option Nat :=
  if badr f t r u then none else if gtc t f then (if gec (op2 .mul r u) (op2 .sub t f) then t else op2 .add f (op2 .mul r u)) else (if gec (op2 .mul r u) (op2 .sub f t) then t else op2 .sub f (op2 .mul r u))
theorem op2_nn {op : BinOp} {a b : Option Nat} {x : Nat} (h : op2 op a b = some x) : nn x := by
  cases a with
  | none => cases h
  | some p =>
    cases b with
    | none => cases h
    | some q => exact bits_nn h
theorem atr_atc (f t r u : Option Nat) : atr f t r u = atc f t r u := by
  unfold atr atc
  by_cases hb : badr f t r u = true
  · rw [if_pos hb, if_pos hb]
  rw [if_neg hb, if_neg hb]
  have h4 : isFin f = true ∧ isFin t = true := by
    unfold badr at hb
    simp only [Bool.or_eq_true, Bool.not_eq_true', not_or, Bool.not_eq_false, Bool.and_eq_true] at hb
    exact ⟨hb.1.1.1.1.1, hb.1.1.1.1.2⟩
  obtain ⟨x, rfl, hx⟩ := fin_some h4.1
  obtain ⟨y, rfl, hy⟩ := fin_some h4.2
  obtain ⟨e1, n1⟩ := sub_nn hy hx
  obtain ⟨e2, n2⟩ := sub_nn hx hy
  have hd : ∀ z, op2 .mul r u = some z → nn z := fun z h => op2_nn h
  rw [e1, e2, gtc_keys hy hx]
  show _ = if gec (op2 .mul r u) (some (rung (fsub y x))) = true then _ else _
  by_cases h : key x < key y
  · rw [decide_eq_true h, abs_pos (sub_pos hy hx h) (sub_word hy hx)]
    simp
  · rw [decide_eq_false h]
    have hk : key (rung (fsub y x)) = key (fsub x y) := by
      rw [key_rung]
      have h1 := sub_swap hx hy
      have h2 : key (fsub y x) ≤ 0 := by
        rcases Int.lt_or_eq_of_le (Int.not_lt.1 h) with q | q
        · have := sub_pos hx hy q; omega
        · have := fsub_zero_key x y hx hy q.symm; omega
      rcases rung_key (fsub y x) with q | q <;> omega
    rw [gec_key hd (nn_rung n1) n2 hk]
    simp
def rst (f t r : Option Nat) : Option Nat :=
  if !(isFin f && isFin t && isFin r) || ltc r (some 0) then none else if eqc f t then some 0 else if eqc r (some 0) then some 9218868437227405312 else op2 .quo (if gtc t f then op2 .sub t f else op2 .sub f t) r
theorem eqc_keys {x y : Nat} (hx : rung x < double.infRung) (hy : rung y < double.infRung) : eqc (some x) (some y) = decide (key x = key y) := by
  unfold eqc
  rw [ord_keys hx hy]
  by_cases h : key x = key y
  · have : compare (key x) (key y) = .eq := by rw [Int.compare_eq_eq]; exact h
    rw [this, decide_eq_true h]; rfl
  · have : ¬ compare (key x) (key y) = .eq := by rw [Int.compare_eq_eq]; exact h
    rw [decide_eq_false h]
    cases hc : compare (key x) (key y) <;> first | rfl | exact absurd hc this
theorem rst_stc (f t r : Option Nat) : rst f t r = stc f t r := by
  unfold rst stc
  by_cases hb : (!(isFin f && isFin t && isFin r) || ltc r (some 0)) = true
  · rw [if_pos hb, if_pos hb]
  rw [if_neg hb, if_neg hb]
  by_cases he : eqc f t = true
  · rw [if_pos he, if_pos he]
  rw [if_neg he, if_neg he]
  have h4 : isFin f = true ∧ isFin t = true := by
    simp only [Bool.or_eq_true, Bool.not_eq_true', not_or, Bool.not_eq_false, Bool.and_eq_true] at hb
    exact ⟨hb.1.1.1, hb.1.1.2⟩
  obtain ⟨x, rfl, hx⟩ := fin_some h4.1
  obtain ⟨y, rfl, hy⟩ := fin_some h4.2
  obtain ⟨e1, n1⟩ := sub_nn hy hx
  obtain ⟨e2, n2⟩ := sub_nn hx hy
  rw [eqc_keys hx hy, decide_eq_true_eq] at he
  rw [e1, e2, gtc_keys hy hx]
  have hq : (if decide (key x < key y) = true then some (fsub y x) else some (fsub x y)) = absc (some (fsub y x)) := by
    show _ = some (rung (fsub y x))
    by_cases h : key x < key y
    · rw [decide_eq_true h, abs_pos (sub_pos hy hx h) (sub_word hy hx)]; rfl
    · rw [decide_eq_false h]
      have hp := sub_pos hx hy (by omega : key y < key x)
      have h1 := sub_swap hx hy
      have h2 := abs_pos hp (sub_word hx hy)
      have h3 : (rung (fsub y x) : Int) = (fsub x y : Nat) := by
        have q1 := key_rung (fsub x y)
        rw [h2] at q1
        have q2 := rung_key (fsub y x)
        omega
      have h4 : rung (fsub y x) = fsub x y := by omega
      rw [h4]; rfl
  rw [hq]
end Go.Proofs.Ytbbjnhajmckjoaa
