/- Net: no impedance's real part is below nought; plain. -/
import Derived.Test.YtfmjmjppkdaanaaWlaw
namespace Go.Proofs.Ytfmjmjppkdaanaa
open Go.RowKit Go.BigFrame flt Ieee

/-- a datum that is not below nought -/
def ng : Datum → Bool
  | .number s m _ => !s || m == 0
  | .infinity s => !s
  | .nan _ _ => true
/-- a class of a number that is not below nought, or none -/
def NG (a : Option Nat) : Prop := ∀ x, a = some x → ng (double.read x) = true
/-- a class of a number without a sign, or none -/
def PS (a : Option Nat) : Prop := ∀ x, a = some x → (double.read x).neg = false
theorem read_nearest (s : Bool) (m : Nat) (e : Int) : (double.read (double.nearest s m e)).neg = s ∧ (m = 0 → ng (double.read (double.nearest s m e)) = true) := by
  have hz : double.nearest s 0 e = double.word s 0 := by unfold Format.nearest; rw [if_pos rfl]
  constructor
  · unfold Format.nearest
    split
    · rw [read_word double s (by decide)]
      rfl
    · rw [read_word double s (Nat.lt_of_le_of_lt (Nat.min_le_right _ _) (Format.infRung_lt double))]
      split
      · rfl
      · split
        · rfl
        · split <;> rfl
  · rintro rfl
    rw [hz, read_word double s (by decide)]
    rw [if_pos (by decide)]
    cases s <;> rfl
theorem ng_of_neg {d : Datum} (h : d.neg = false) : ng d = true := by
  cases d with
  | number s m e => simp only [Datum.neg] at h; subst h; rfl
  | infinity s => simp only [Datum.neg] at h; subst h; rfl
  | nan s t => rfl
theorem write_ng {d : Datum} (hd : d.isNaN = false) (h : ng d = true) : ng (double.read (double.write d)) = true := by
  cases d with
  | number s m e =>
    cases s with
    | false => exact ng_of_neg (read_nearest false m e).1
    | true =>
      have hm : m = 0 := by simpa [ng] using h
      exact (read_nearest true m e).2 hm
  | infinity s =>
    cases s with
    | false => decide +kernel
    | true => exact Bool.noConfusion h
  | nan s t => cases hd
theorem write_neg {d : Datum} (hd : d.isNaN = false) (h : d.neg = false) : (double.read (double.write d)).neg = false := by
  cases d with
  | number s m e => simp only [Datum.neg] at h; subst h; exact (read_nearest false m e).1
  | infinity s => simp only [Datum.neg] at h; subst h; decide +kernel
  | nan s t => cases hd
theorem signed_ng {s : Bool} {m u : Nat} (h : s = true → m = 0) : 0 ≤ signed s m u := by
  unfold signed
  cases s with
  | false => rw [if_neg (by decide)]; exact Int.natCast_nonneg _
  | true => rw [h rfl, Nat.zero_shiftLeft]; decide
theorem ng_num {s : Bool} {m : Nat} {e : Int} (h : ng (.number s m e) = true) : s = true → m = 0 := fun hs => by subst hs; simpa [ng] using h
theorem sum_ng {a b d : Datum} (ha : ng a = true) (hb : ng b = true) (h : a.sum b = some d) : d.isNaN = false ∧ ng d = true := by
  cases a with
  | nan s t => cases b <;> cases h
  | infinity s =>
    cases s with
    | true => exact Bool.noConfusion ha
    | false =>
      cases b with
      | nan s t => cases h
      | number t n j => cases h; exact ⟨rfl, rfl⟩
      | infinity t =>
        cases t with
        | true => exact Bool.noConfusion hb
        | false => cases h; exact ⟨rfl, rfl⟩
  | number s m i =>
    cases b with
    | nan s t => cases h
    | infinity t =>
      cases t with
      | true => exact Bool.noConfusion hb
      | false => cases h; exact ⟨rfl, rfl⟩
    | number t n j =>
      simp only [Datum.sum, Option.some.injEq] at h
      subst h
      have q1 := signed_ng (u := (i - min i j).toNat) (ng_num ha)
      have q2 := signed_ng (u := (j - min i j).toNat) (ng_num hb)
      refine ⟨rfl, ?_⟩
      by_cases hz : signed s m (i - min i j).toNat + signed t n (j - min i j).toNat = 0
      · rw [hz]
        simp [ng]
      · rw [if_neg hz, decide_eq_false (by omega)]
        rfl
theorem sum_neg {a b d : Datum} (ha : a.neg = false) (hb : b.neg = false) (h : a.sum b = some d) : d.isNaN = false ∧ d.neg = false := by
  cases a with
  | nan s t => cases b <;> cases h
  | infinity s =>
    simp only [Datum.neg] at ha
    subst ha
    cases b with
    | nan s t => cases h
    | number t n j => cases h; exact ⟨rfl, rfl⟩
    | infinity t =>
      simp only [Datum.neg] at hb
      subst hb
      cases h; exact ⟨rfl, rfl⟩
  | number s m i =>
    simp only [Datum.neg] at ha
    subst ha
    cases b with
    | nan s t => cases h
    | infinity t =>
      simp only [Datum.neg] at hb
      subst hb
      cases h; exact ⟨rfl, rfl⟩
    | number t n j =>
      simp only [Datum.neg] at hb
      subst hb
      simp only [Datum.sum, Option.some.injEq] at h
      subst h
      have q1 := signed_ng (s := false) (m := m) (u := (i - min i j).toNat) (fun h => Bool.noConfusion h)
      have q2 := signed_ng (s := false) (m := n) (u := (j - min i j).toNat) (fun h => Bool.noConfusion h)
      refine ⟨rfl, ?_⟩
      show (if _ then _ else _) = _
      split
      · rfl
      · exact decide_eq_false (by omega)
theorem quo_ng {a b d : Datum} {k : Nat} (ha : ng a = true) (hb : b.neg = false) (h : a.quotient k b = some d) : d.isNaN = false ∧ ng d = true := by
  cases a with
  | nan s t => cases b <;> cases h
  | infinity s =>
    cases s with
    | true => exact Bool.noConfusion ha
    | false =>
      cases b with
      | nan s t => cases h
      | infinity t => cases h
      | number t n j =>
        simp only [Datum.neg] at hb
        subst hb
        cases h; exact ⟨rfl, rfl⟩
  | number s m i =>
    cases b with
    | nan s t => cases h
    | infinity t =>
      cases h
      exact ⟨rfl, by simp [ng]⟩
    | number t n j =>
      simp only [Datum.neg] at hb
      subst hb
      simp only [Datum.quotient] at h
      by_cases hn : n = 0
      · rw [if_pos hn] at h
        by_cases hm : m = 0
        · rw [if_pos hm] at h; cases h
        · rw [if_neg hm] at h
          cases h
          refine ⟨rfl, ?_⟩
          cases s with
          | false => rfl
          | true => exact absurd (ng_num ha rfl) hm
      · rw [if_neg hn] at h
        cases h
        refine ⟨rfl, ?_⟩
        cases s with
        | false => rfl
        | true =>
          have hm := ng_num ha rfl
          subst hm
          simp [ng]
theorem NG.add {a b : Option Nat} (ha : NG a) (hb : NG b) : NG (op2 .add a b) := fun x h => by
  unfold op2 at h
  revert h
  split
  · rename_i y z
    intro h
    have h' : ((double.read y).sum (double.read z)).map double.write = some x := h
    obtain ⟨d, hd, rfl⟩ := Option.map_eq_some_iff.1 h'
    have q := sum_ng (ha y rfl) (hb z rfl) hd
    exact write_ng q.1 q.2
  · exact fun h => by cases h
theorem PS.add {a b : Option Nat} (ha : PS a) (hb : PS b) : PS (op2 .add a b) := fun x h => by
  unfold op2 at h
  revert h
  split
  · rename_i y z
    intro h
    have h' : ((double.read y).sum (double.read z)).map double.write = some x := h
    obtain ⟨d, hd, rfl⟩ := Option.map_eq_some_iff.1 h'
    have q := sum_neg (ha y rfl) (hb z rfl) hd
    exact write_neg q.1 q.2
  · exact fun h => by cases h
theorem PS.sq (a : Option Nat) : PS (op2 .mul a a) := fun x h => by
  cases a with
  | none => cases h
  | some y =>
    have h' : ((double.read y).product (double.read y)).map double.write = some x := h
    obtain ⟨d, hd, rfl⟩ := Option.map_eq_some_iff.1 h'
    cases hr : double.read y with
    | nan s t => rw [hr] at hd; cases hd
    | infinity s => rw [hr] at hd; cases hd; exact write_neg rfl (by show (s ^^ s) = false; cases s <;> rfl)
    | number s m i => rw [hr] at hd; cases hd; exact write_neg rfl (by show (s ^^ s) = false; cases s <;> rfl)
theorem NG.quo {a b : Option Nat} (ha : NG a) (hb : PS b) : NG (op2 .quo a b) := fun x h => by
  unfold op2 at h
  revert h
  split
  · rename_i y z
    intro h
    have h' : ((double.read y).quotient (double.fractionBits + 2) (double.read z)).map double.write = some x := h
    obtain ⟨d, hd, rfl⟩ := Option.map_eq_some_iff.1 h'
    have q := quo_ng (ha y rfl) (hb z rfl) hd
    exact write_ng q.1 q.2
  · exact fun h => by cases h
theorem NG.zero : NG (some 0) := fun x h => by cases h; decide +kernel
theorem NG.inf : NG (some inf) := fun x h => by cases h; decide +kernel
theorem ng_turn {a b : Option Nat} (ha : NG a) : NG (turn a b).1 := by
  unfold turn
  split
  · exact NG.zero
  · split
    · exact NG.inf
    · exact ha.quo ((PS.sq a).add (PS.sq b))
theorem not_lt {r : Nat} (h : NG (cls r)) : (FloatKind.f64.format.order r 0 == some .lt) = false := by
  show ((double.read r).order (double.read 0) == some .lt) = false
  have h0 : double.read 0 = .number false 0 double.leastPlace := by decide +kernel
  rw [h0]
  cases hr : double.read r with
  | nan s t => rfl
  | infinity s =>
    have hn : cls r = some r := cls_nn (by unfold nn; rw [hr]; rfl)
    have := h r hn
    rw [hr] at this
    cases s with
    | false => rfl
    | true => exact Bool.noConfusion this
  | number s m i =>
    have hn : cls r = some r := cls_nn (by unfold nn; rw [hr]; rfl)
    have := h r hn
    rw [hr] at this
    have q1 := signed_ng (u := (i - min i double.leastPlace).toNat) (ng_num this)
    show (some (compare (signed s m (i - min i double.leastPlace).toNat) (signed false 0 (double.leastPlace - min i double.leastPlace).toNat)) == some .lt) = false
    have e : signed false 0 (double.leastPlace - min i double.leastPlace).toNat = 0 := by unfold signed; rw [Nat.zero_shiftLeft]; rfl
    rw [e]
    rcases Int.lt_or_eq_of_le q1 with q | q
    · rw [Int.compare_eq_gt.2 q]; rfl
    · rw [← q, Int.compare_eq_eq.2 rfl]; rfl
theorem ng_ge0 {x : Nat} (h : ge0 (cls x) = true) : NG (cls x) := fun y hy => by
  obtain ⟨rfl, hn⟩ := cls_some hy
  rw [hy] at h
  have h' : ((double.read x).order (double.read 0) == some .gt || (double.read x).order (double.read 0) == some .eq) = true := h
  have h0 : double.read 0 = .number false 0 double.leastPlace := by decide +kernel
  rw [h0] at h'
  cases hr : double.read x with
  | nan s t => rfl
  | infinity s =>
    rw [hr] at h'
    cases s with
    | false => rfl
    | true => exact Bool.noConfusion h'
  | number s m i =>
    rw [hr] at h'
    cases s with
    | false => rfl
    | true =>
      by_cases hm : m = 0
      · subst hm; rfl
      · exfalso
        have h2 : (some (compare (signed true m (i - min i double.leastPlace).toNat) (signed false 0 (double.leastPlace - min i double.leastPlace).toNat)) == some Ordering.gt ||
          some (compare (signed true m (i - min i double.leastPlace).toNat) (signed false 0 (double.leastPlace - min i double.leastPlace).toNat)) == some Ordering.eq) = true := h'
        have e : signed false 0 (double.leastPlace - min i double.leastPlace).toNat = 0 := by unfold signed; rw [Nat.zero_shiftLeft]; rfl
        rw [e] at h2
        have q : signed true m (i - min i double.leastPlace).toNat < 0 := by
          unfold signed
          rw [if_pos rfl, Nat.shiftLeft_eq]
          have := Nat.mul_pos (Nat.pos_of_ne_zero hm) (Nat.two_pow_pos (i - min i double.leastPlace).toNat)
          omega
        rw [Int.compare_eq_lt.2 q] at h2
        exact Bool.noConfusion h2
theorem pick_ng {zs : List Cx} (h : ∀ z ∈ zs, NG z.1) (k : Int) : NG (pickc zs k).1 := by
  unfold pickc
  rw [List.getD_eq_getElem?_getD]
  cases e : zs[k.toNat]? with
  | none => exact fun x hx => by cases hx
  | some z => exact h z (List.mem_of_getElem? e)
theorem accn_ng {f : Cx → Cx} (hf : ∀ z, NG z.1 → NG (f z).1) {zs : List Cx} (h : ∀ z ∈ zs, NG z.1) (of : List Int) : ∀ k, NG (accn f zs of k).1
  | 0 => hf _ (pick_ng h _)
  | k + 1 => (accn_ng hf h of k).add (hf _ (pick_ng h _))
theorem imp_ng {W : Option Nat} {p : Part} {i : Int} (hp : mayp p i = true) {zs : List Cx} (h : ∀ z ∈ zs, NG z.1) : NG (imp W p zs).1 := by
  unfold imp
  split
  · rename_i hk
    refine ng_ge0 ?_
    unfold mayp at hp
    rw [if_pos (Or.inl hk)] at hp
    simp only [Bool.and_eq_true] at hp
    exact hp.2
  · split
    · exact NG.zero
    · split
      · exact NG.zero
      · split
        · exact accn_ng (f := id) (fun z hz => hz) h _ _
        · exact ng_turn (accn_ng (f := turnc) (fun z hz => ng_turn hz) h _ _)
theorem zsn_ng {W : Option Nat} {l : List Part} (hg : Good l) : ∀ k, k ≤ l.length → ∀ z ∈ zsn W l k, NG z.1
  | 0, _, z, hz => by cases hz
  | k + 1, hk, z, hz => by
    rw [zsn_succ] at hz
    rcases List.mem_append.1 hz with h | h
    · exact zsn_ng hg k (by omega) z h
    · rw [List.mem_singleton] at h
      subst h
      have hkl : k < l.length := by omega
      have e : l.getD k ⟨0, 0, []⟩ = l[k] := by rw [List.getD_eq_getElem?_getD, List.getElem?_eq_getElem hkl]; rfl
      rw [e]
      exact imp_ng (hg.2.2 k hkl) (zsn_ng hg k (by omega))
/-- of a net that is cut short: the same -/
theorem zsn_take {W : Option Nat} (l : List Part) (n : Nat) : ∀ k, k ≤ n → zsn W (l.take n) k = zsn W l k
  | 0, _ => rfl
  | k + 1, hk => by
    rw [zsn_succ, zsn_succ, zsn_take l n k (by omega)]
    congr 2
    rw [List.getD_eq_getElem?_getD, List.getD_eq_getElem?_getD, List.getElem?_take, if_pos (by omega)]
theorem good_take {l : List Part} (hg : Good l) {n : Nat} (h1 : 1 ≤ n) (h2 : n ≤ l.length) : Good (l.take n) := by
  have hl : (l.take n).length = n := by rw [List.length_take]; omega
  refine ⟨by omega, by have := hg.2.1; omega, fun k hk => ?_⟩
  rw [List.getElem_take]
  exact hg.2.2 k (by omega)
end Go.Proofs.Ytfmjmjppkdaanaa
