/- Heat, plain: a zone, a watch, what a step makes of it. No program here. -/
import Derived.Test.YtdjdkhbagoideaaDoorBnd
import Derived.Test.YtdjdkhbagoideaaDoorCeil
namespace Go.Proofs.YtdjdkhbagoideaaDoor
open flt Ieee

/-- comparisons, as the program makes them -/
def lt (a b : Nat) : Bool := double.order a b == some .lt
def gt (a b : Nat) : Bool := double.order a b == some .gt
def ge (a b : Nat) : Bool := double.order a b == some .gt || double.order a b == some .eq
def le (a b : Nat) : Bool := double.order a b == some .lt || double.order a b == some .eq
theorem nn_of_order {a b : Nat} {o : Ordering} (h : double.order a b = some o) : nn a ∧ nn b := by
  unfold Format.order at h
  constructor
  · cases hr : double.read a <;> rw [hr] at h <;> simp only [Datum.order] at h
    · unfold nn; rw [hr]; rfl
    · unfold nn; rw [hr]; rfl
    · cases h
  · cases hr : double.read b <;> rw [hr] at h
    · unfold nn; rw [hr]; rfl
    · unfold nn; rw [hr]; rfl
    · cases hq : double.read a <;> rw [hq] at h <;> simp only [Datum.order] at h <;> cases h
theorem cmp_cases (a b : Int) : (a < b ∧ compare a b = .lt) ∨ (a = b ∧ compare a b = .eq) ∨ (b < a ∧ compare a b = .gt) := by
  show (a < b ∧ compareOfLessAndEq a b = .lt) ∨ (a = b ∧ compareOfLessAndEq a b = .eq) ∨ (b < a ∧ compareOfLessAndEq a b = .gt)
  unfold compareOfLessAndEq
  rcases Int.lt_trichotomy a b with h | h | h
  · left; exact ⟨h, by rw [if_pos h]⟩
  · right; left; subst h; exact ⟨rfl, by rw [if_neg (Int.lt_irrefl _), if_pos rfl]⟩
  · right; right; exact ⟨h, by rw [if_neg (by omega), if_neg (by omega)]⟩
theorem lt_val {a b : Nat} (ha : nn a) (hb : nn b) : lt a b = decide (key a < key b) := by
  unfold lt; rw [order_key ha hb]
  rcases cmp_cases (key a) (key b) with ⟨h, e⟩ | ⟨h, e⟩ | ⟨h, e⟩
  · rw [e, decide_eq_true (by omega)]; rfl
  · rw [e, decide_eq_false (by omega)]; rfl
  · rw [e, decide_eq_false (by omega)]; rfl
theorem gt_val {a b : Nat} (ha : nn a) (hb : nn b) : gt a b = decide (key b < key a) := by
  unfold gt; rw [order_key ha hb]
  rcases cmp_cases (key a) (key b) with ⟨h, e⟩ | ⟨h, e⟩ | ⟨h, e⟩
  · rw [e, decide_eq_false (by omega)]; rfl
  · rw [e, decide_eq_false (by omega)]; rfl
  · rw [e, decide_eq_true (by omega)]; rfl
theorem ge_val {a b : Nat} (ha : nn a) (hb : nn b) : ge a b = decide (key b ≤ key a) := by
  unfold ge; rw [order_key ha hb]
  rcases cmp_cases (key a) (key b) with ⟨h, e⟩ | ⟨h, e⟩ | ⟨h, e⟩
  · rw [e, decide_eq_false (by omega)]; rfl
  · rw [e, decide_eq_true (by omega)]; rfl
  · rw [e, decide_eq_true (by omega)]; rfl
theorem le_val {a b : Nat} (ha : nn a) (hb : nn b) : le a b = decide (key a ≤ key b) := by
  unfold le; rw [order_key ha hb]
  rcases cmp_cases (key a) (key b) with ⟨h, e⟩ | ⟨h, e⟩ | ⟨h, e⟩
  · rw [e, decide_eq_true (by omega)]; rfl
  · rw [e, decide_eq_true (by omega)]; rfl
  · rw [e, decide_eq_false (by omega)]; rfl
theorem ge_nn {a b : Nat} (h : ge a b = true) : nn a ∧ nn b := by
  unfold ge at h
  cases hq : double.order a b with
  | none => rw [hq] at h; cases h
  | some o => exact nn_of_order hq
theorem le_nn {a b : Nat} (h : le a b = true) : nn a ∧ nn b := by
  unfold le at h
  cases hq : double.order a b with
  | none => rw [hq] at h; cases h
  | some o => exact nn_of_order hq
theorem gt_nn {a b : Nat} (h : gt a b = true) : nn a ∧ nn b := by
  unfold gt at h
  cases hq : double.order a b with
  | none => rw [hq] at h; cases h
  | some o => exact nn_of_order hq
def farN : Nat := 13920209183539462144
def farP : Nat := 4696837146684686336
def oneF : Nat := 4607182418800017408
theorem far_val : (val 13920209183539462144 = -1000000 * (U : Int) ∧ rung 13920209183539462144 < double.infRung) ∧ (val 4696837146684686336 = 1000000 * (U : Int) ∧ rung 4696837146684686336 < double.infRung) ∧ val 4607182418800017408 = (U : Int) ∧ rung 4607182418800017408 < double.infRung ∧ val 0 = 0 := by decide +kernel
/-- a number, not far off; one from 0 on -/
def near (x : Nat) : Bool := ge x 13920209183539462144 && le x 4696837146684686336
def part (x : Nat) : Bool := ge x 0 && le x 4696837146684686336
theorem fin_of {a b x : Nat} (ha : rung a < double.infRung) (hb : rung b < double.infRung) (h1 : val a ≤ val x) (h2 : val x ≤ val b) : rung x < double.infRung :=
  fin_between ha hb (val_le.1 h1) (val_le.1 h2)
theorem near_bt {x : Nat} (h : near x = true) : Bt (-1000000) 1000000 x := by
  unfold near at h
  rw [Bool.and_eq_true] at h
  obtain ⟨⟨a1, a2⟩, ⟨b1, b2⟩, _⟩ := far_val
  have n1 := ge_nn h.1
  have n2 := le_nn h.2
  have k1 := h.1
  have k2 := h.2
  rw [ge_val n1.1 n1.2, decide_eq_true_eq] at k1
  rw [le_val n2.1 n2.2, decide_eq_true_eq] at k2
  have v1 := val_le.2 k1
  have v2 := val_le.2 k2
  exact ⟨fin_of a2 b2 v1 v2, by rw [← a1]; exact v1, by rw [← b1]; exact v2⟩
theorem rung_zero : rung 0 < double.infRung := by decide +kernel
theorem part_bt {x : Nat} (h : part x = true) : Bt 0 1000000 x := by
  unfold part at h
  rw [Bool.and_eq_true] at h
  obtain ⟨_, ⟨b1, b2⟩, _, _, z0⟩ := far_val
  have n1 := ge_nn h.1
  have n2 := le_nn h.2
  have k1 := h.1
  have k2 := h.2
  rw [ge_val n1.1 n1.2, decide_eq_true_eq] at k1
  rw [le_val n2.1 n2.2, decide_eq_true_eq] at k2
  have v1 := val_le.2 k1
  have v2 := val_le.2 k2
  exact ⟨fin_of rung_zero b2 v1 v2, by rw [Int.zero_mul, ← z0]; exact v1, by rw [← b1]; exact v2⟩
structure Tp where
  a : Nat
  b : Nat
  k : Int
structure Zn where
  al : Nat
  tg : Nat
  kp : Nat
  ki : Nat
  cap : Nat
  mo : Int
  tr : List Tp
structure Hs where
  h : Nat
  felt : Bool
  on : List Bool
  sum : Nat
  lv : Int
  sh : Bool
def tripOk (last : Nat) (t : Tp) : Bool := near t.a && !le t.a last && part t.b && decide (1 ≤ t.k) && decide (t.k ≤ 3)
def tripsOk : Nat → List Tp → Bool
  | _, [] => true
  | last, t :: ts => tripOk last t && tripsOk t.a ts
def headOk (Z : Zn) : Bool := gt Z.al 0 && le Z.al 4607182418800017408 && near Z.tg && part Z.kp && part Z.ki && part Z.cap && decide (0 ≤ Z.mo) && decide (Z.mo ≤ 100) && decide (1 ≤ Z.tr.length) && decide (Z.tr.length ≤ 8)
def minusInf : Nat := 18442240474082181120
def okZ (Z : Zn) : Bool := headOk Z && tripsOk minusInf Z.tr
def seconds (s : Nat) : Bool := gt s 0 && le s 4696837146684686336
def isNaN (x : Nat) : Bool := double.order x x != some .eq
def feelh (Z : Zn) (s : Hs) (x : Nat) : Nat := if s.felt then fadd s.h (fmul Z.al (fsub x s.h)) else x
def isOn (h : Nat) (t : Tp) (b : Bool) : Bool := if b then !lt h (fsub t.a t.b) else ge h t.a
def ons (h : Nat) : List Tp → List Bool → List Bool
  | t :: ts, b :: bs => isOn h t b :: ons h ts bs
  | _, _ => []
def evs : Nat → List Bool → List Bool → List (Nat × Bool)
  | k, a :: as, b :: bs => (if b = a then [] else [(k, b)]) ++ evs (k + 1) as bs
  | _, _, _ => []
def anyk (k : Int) : List Tp → List Bool → Bool
  | t :: ts, b :: bs => (b && t.k == k) || anyk k ts bs
  | _, _ => false
def fmax2 (x y : Nat) : Nat := if lt x y then y else if gt x y then x else if neg x then y else x
def fmin2 (x y : Nat) : Nat := if lt x y then x else if gt x y then y else if neg x then x else y
def overh (Z : Zn) (h : Nat) : Nat := fsub h Z.tg
def sum1 (Z : Zn) (s : Hs) (h secs : Nat) : Nat := fadd s.sum (fmul (overh Z h) secs)
def sum2 (Z : Zn) (s : Hs) (h secs : Nat) : Nat := fmin2 (fmax2 (sum1 Z s h secs) 0) Z.cap
def wish (Z : Zn) (s : Hs) (h secs : Nat) : Nat := fadd (fmul Z.kp (overh Z h)) (fmul Z.ki (sum2 Z s h secs))
def ceilI (x : Nat) : Int := (floatToIntVal .f64 (ceilB x) .i64).getD 0
def lvl (n : Nat) (mo : Int) : Int := if gt n 0 then (if ge n (floatOfInt .f64 mo) then mo else ceilI n) else 0
/-- a step that is felt -/
def stepd (Z : Zn) (s : Hs) (x secs : Nat) : Hs :=
  let h := feelh Z s x
  let on := ons h Z.tr s.on
  let sum := if anyk 1 Z.tr on then sum2 Z s h secs else 0
  let lv := if anyk 2 Z.tr on then Z.mo else if anyk 1 Z.tr on then lvl (wish Z s h secs) Z.mo else (if s.lv - 1 < 0 then 0 else s.lv - 1)
  ⟨h, true, on, sum, lv, anyk 3 Z.tr on⟩
/-- what a watch keeps -/
structure Hok (Z : Zn) (s : Hs) : Prop where
  h : Bt (-1048576) 1048576 s.h
  sum : Bt 0 1000000 s.sum
  lv : 0 ≤ s.lv ∧ s.lv ≤ Z.mo
  on : s.on.length = Z.tr.length
structure Zok (Z : Zn) : Prop where
  al : rung Z.al < double.infRung ∧ neg Z.al = false ∧ V (rung Z.al) ≤ U
  tg : Bt (-1000000) 1000000 Z.tg
  kp : Bt 0 1000000 Z.kp
  ki : Bt 0 1000000 Z.ki
  cap : Bt 0 1000000 Z.cap
  mo : 0 ≤ Z.mo ∧ Z.mo ≤ 100
  n : 1 ≤ Z.tr.length ∧ Z.tr.length ≤ 8
  tr : ∀ t ∈ Z.tr, Bt (-1000000) 1000000 t.a ∧ Bt 0 1000000 t.b ∧ 1 ≤ t.k ∧ t.k ≤ 3
theorem tripsOk_mem : ∀ {l : List Tp} {last : Nat}, tripsOk last l = true → ∀ t ∈ l, Bt (-1000000) 1000000 t.a ∧ Bt 0 1000000 t.b ∧ 1 ≤ t.k ∧ t.k ≤ 3
  | t :: ts, last, h, u, hu => by
    unfold tripsOk tripOk at h
    simp only [Bool.and_eq_true, decide_eq_true_eq] at h
    rcases List.mem_cons.1 hu with rfl | q
    · exact ⟨near_bt h.1.1.1.1.1, part_bt h.1.1.1.2, h.1.1.2, h.1.2⟩
    · exact tripsOk_mem h.2 u q
theorem okZ_zok {Z : Zn} (h : okZ Z = true) : Zok Z := by
  unfold okZ headOk at h
  simp only [Bool.and_eq_true, decide_eq_true_eq] at h
  obtain ⟨⟨⟨⟨⟨⟨⟨⟨⟨⟨h1, h2⟩, h3⟩, h4⟩, h5⟩, h6⟩, h7⟩, h8⟩, h9⟩, h10⟩, h11⟩ := h
  obtain ⟨_, _, o1, o2, z0⟩ := far_val
  have n1 := gt_nn h1
  have n2 := le_nn h2
  rw [gt_val n1.1 n1.2, decide_eq_true_eq] at h1
  rw [le_val n2.1 n2.2, decide_eq_true_eq] at h2
  have v2 := val_le.2 h2
  have v1 := val_key.1.2 h1
  rw [z0] at v1
  have hn : neg Z.al = false := by
    unfold val at v1
    cases hq : neg Z.al with
    | false => rfl
    | true => rw [hq] at v1; simp only [if_true] at v1; omega
  refine ⟨⟨fin_of rung_zero o2 (by rw [z0]; omega) v2, hn, ?_⟩, near_bt h3, part_bt h4, part_bt h5, part_bt h6, ⟨h7, h8⟩, ⟨h9, h10⟩, tripsOk_mem h11⟩
  rw [o1] at v2
  unfold val at v2
  rw [hn] at v2
  simpa using v2
end Go.Proofs.YtdjdkhbagoideaaDoor
