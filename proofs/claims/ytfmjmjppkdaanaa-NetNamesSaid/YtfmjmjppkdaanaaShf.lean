/- Net: a part put ahead of all; plain. -/
import Derived.Test.YtfmjmjppkdaanaaTrn
namespace Go.Proofs.Ytfmjmjppkdaanaa
open Go.RowKit Go.BigFrame flt Ieee

def shift (p : Part) : Part := ⟨p.kind, p.x, p.of.map (· + 1)⟩
def five : Nat := 4617315517961601024
def ahead : Part := ⟨1, five, []⟩
theorem pick_shift (z0 : Cx) (zs : List Cx) {n : Int} (h : 0 ≤ n) : pickc (z0 :: zs) (n + 1) = pickc zs n := by
  unfold pickc
  have e : (n + 1).toNat = n.toNat + 1 := by omega
  rw [e]
  rfl
theorem accn_shift (f : Cx → Cx) (z0 : Cx) (zs : List Cx) (of : List Int) (h : ∀ n ∈ of, 0 ≤ n) : ∀ j, j < of.length → accn f (z0 :: zs) (of.map (· + 1)) j = accn f zs of j := by
  have hg : ∀ j, j < of.length → pickc (z0 :: zs) ((of.map (· + 1)).getD j 0) = pickc zs (of.getD j 0) := fun j hj => by
    have e1 : (of.map (· + 1)).getD j 0 = of[j] + 1 := by
      rw [List.getD_eq_getElem?_getD, List.getElem?_map, List.getElem?_eq_getElem hj]; rfl
    have e2 : of.getD j 0 = of[j] := by rw [List.getD_eq_getElem?_getD, List.getElem?_eq_getElem hj]; rfl
    rw [e1, e2]
    exact pick_shift _ _ (h _ (List.getElem_mem hj))
  intro j
  induction j with
  | zero =>
    intro hj
    unfold accn
    rw [hg 0 hj]
  | succ j ih =>
    intro hj
    unfold accn
    rw [ih (by omega), hg (j + 1) hj]
theorem may_of {p : Part} {i : Int} (h : mayp p i = true) (hk : ¬ (p.kind = 1 ∨ p.kind = 2 ∨ p.kind = 3)) : (p.kind = 4 ∨ p.kind = 5) ∧ (∀ n ∈ p.of, 0 ≤ n ∧ n < i) ∧ 0 < p.of.length ∧ p.of.length ≤ 64 ∧ p.x = 0 := by
  unfold mayp at h
  rw [if_neg hk] at h
  by_cases h4 : p.kind = 4 ∨ p.kind = 5
  · rw [if_pos h4] at h
    simp only [Bool.and_eq_true, List.all_eq_true, decide_eq_true_eq] at h
    exact ⟨h4, h.1.1.1, h.1.1.2, h.1.2, h.2⟩
  · rw [if_neg h4] at h; cases h
theorem imp_shift (W : Option Nat) {p : Part} {i : Int} (h : mayp p i = true) (z0 : Cx) (zs : List Cx) : imp W (shift p) (z0 :: zs) = imp W p zs := by
  by_cases hk : p.kind = 1 ∨ p.kind = 2 ∨ p.kind = 3
  · unfold imp shift
    rcases hk with e | e | e <;> simp only [e] <;> rfl
  · obtain ⟨h4, hof, h0, _, _⟩ := may_of h hk
    have ha := fun f => accn_shift f z0 zs p.of (fun n hn => (hof n hn).1) (p.of.length - 1) (by omega)
    unfold imp shift
    have hl : (p.of.map (· + 1)).length = p.of.length := List.length_map _
    rcases h4 with e | e
    · simp only [e, sumc, hl]
      rw [ha id]
      rfl
    · simp only [e, sumc, hl]
      rw [ha turnc]
      rfl
theorem may_shift {p : Part} {i : Int} (h : mayp p i = true) : mayp (shift p) (i + 1) = true := by
  by_cases hk : p.kind = 1 ∨ p.kind = 2 ∨ p.kind = 3
  · unfold mayp at h ⊢
    rw [if_pos hk] at h
    have hk' : (shift p).kind = 1 ∨ (shift p).kind = 2 ∨ (shift p).kind = 3 := hk
    rw [if_pos hk']
    show (decide ((p.of.map (· + 1)).length = 0) && isFin (cls p.x) && ge0 (cls p.x)) = true
    rw [List.length_map]
    exact h
  · obtain ⟨h4, hof, h0, h64, hx⟩ := may_of h hk
    unfold mayp
    have hk' : ¬ ((shift p).kind = 1 ∨ (shift p).kind = 2 ∨ (shift p).kind = 3) := hk
    have h4' : (shift p).kind = 4 ∨ (shift p).kind = 5 := h4
    rw [if_neg hk', if_pos h4']
    simp only [Bool.and_eq_true, List.all_eq_true, decide_eq_true_eq]
    refine ⟨⟨⟨fun n hn => ?_, ?_⟩, ?_⟩, hx⟩
    · obtain ⟨m, hm, rfl⟩ := List.mem_map.1 hn
      have := hof m hm
      omega
    · show 0 < (p.of.map (· + 1)).length
      rw [List.length_map]; exact h0
    · show (p.of.map (· + 1)).length ≤ 64
      rw [List.length_map]; exact h64
theorem zsn_shift (W : Option Nat) {l : List Part} (hg : Good l) : ∀ k, k ≤ l.length → zsn W (ahead :: l.map shift) (k + 1) = (cls five, some 0) :: zsn W l k
  | 0, _ => rfl
  | k + 1, hk => by
    have hkl : k < l.length := by omega
    rw [zsn_succ, zsn_shift W hg k (by omega), zsn_succ W l k]
    have e1 : (ahead :: l.map shift).getD (k + 1) ⟨0, 0, []⟩ = shift l[k] := by
      rw [List.getD_eq_getElem?_getD, List.getElem?_cons_succ, List.getElem?_map, List.getElem?_eq_getElem hkl]; rfl
    have e2 : l.getD k ⟨0, 0, []⟩ = l[k] := by rw [List.getD_eq_getElem?_getD, List.getElem?_eq_getElem hkl]; rfl
    rw [e1, e2, imp_shift W (hg.2.2 k hkl)]
    rfl
theorem good_shift {l : List Part} (hg : Good l) (h : l.length ≤ 255) : Good (ahead :: l.map shift) := by
  refine ⟨by simp, by simp; omega, fun k hk => ?_⟩
  match k, hk with
  | 0, _ => show mayp ahead 0 = true; decide +kernel
  | k + 1, hk =>
    have hkl : k < l.length := by simpa using hk
    have e : (ahead :: l.map shift)[k + 1] = shift l[k] := by simp
    rw [e]
    have := may_shift (hg.2.2 k hkl)
    exact this
theorem lastz_shift (W : Option Nat) {l : List Part} (hg : Good l) : lastz W (ahead :: l.map shift) = lastz W l := by
  unfold lastz
  have hl : (ahead :: l.map shift).length = l.length + 1 := by simp
  have h1 := hg.1
  rw [hl, zsn_shift W hg _ (Nat.le_refl _), Nat.add_sub_cancel]
  obtain ⟨n, hn⟩ : ∃ n, l.length = n + 1 := ⟨l.length - 1, by omega⟩
  rw [hn]
  rfl
theorem good_of {l : List Part} (hg : Good l) {k : Nat} (hk : k < l.length) : l[k].of.length ≤ 64 ∧ ∀ n ∈ l[k].of, 0 ≤ n ∧ n < k := by
  have h := hg.2.2 k hk
  by_cases hq : l[k].kind = 1 ∨ l[k].kind = 2 ∨ l[k].kind = 3
  · unfold mayp at h
    rw [if_pos hq] at h
    simp only [Bool.and_eq_true, decide_eq_true_eq] at h
    have e := h.1.1
    refine ⟨by omega, fun n hn => ?_⟩
    rw [List.length_eq_zero_iff.1 e] at hn
    cases hn
  · obtain ⟨_, h2, _, h3, _⟩ := may_of h hq
    exact ⟨h3, h2⟩
end Go.Proofs.Ytfmjmjppkdaanaa
