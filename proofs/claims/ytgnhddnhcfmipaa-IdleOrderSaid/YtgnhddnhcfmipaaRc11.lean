/- Idle: the reference's race begins, in memory. Idle: a step of the reference's race, whole; Run. -/
import Derived.Test.YtgnhddnhcfmipaaRc6
import Derived.Test.YtgnhddnhcfmipaaRc7
import Derived.Test.YtgnhddnhcfmipaaRc9
import Derived.Deep.CutBlock
namespace Go.Proofs.Ytgnhddnhcfmipaa
open Go.RowKit Go.BigFrame

theorem made_rows (z : Array Value) (n : Nat) : (madeCells z (n * z.size)).toList = (List.replicate n z.toList).flatten := by
  induction n with
  | zero => simp [madeCells]
  | succ n ih =>
    rw [List.replicate_succ', List.flatten_append, ← ih]
    unfold madeCells
    rw [Nat.succ_mul]
    simp only [Array.toList_map, Array.toList_range, List.range_add, List.map_append, List.map_map, List.flatten_cons, List.flatten_nil, List.append_nil]
    congr 1
    apply List.ext_getElem (by simp)
    intro i h1 h2
    have hi : i < z.size := by simpa using h2
    simp only [List.getElem_map, List.getElem_range, Function.comp]
    rw [Nat.mul_add_mod_self_right, Nat.mod_eq_of_lt hi]
    simp [hi]
theorem own_made {W : World} {B g n : Nat} {e : TypeId} {z : Array Value} (hg : W.heap[g]? = some (.cells (madeCells z (n * z.size)) e)) (hB : B ≤ g) (hn : n ≤ maxLen) : Own W B e z.size (List.replicate n z.toList) (.slice (some ⟨g, 0, none⟩) n n) := by
  have hl : (List.replicate n z.toList).length = n := List.length_replicate
  refine ⟨⟨by rw [List.length_flatten, List.map_replicate, List.sum_replicate_nat, hl, Array.length_toList], .inr ⟨g, n, _, by rw [hl], hB, hg, by rw [hl]; exact Nat.le_refl _, hn, size_madeCells _ _, ?_⟩⟩, fun r hr => ?_⟩
  · rw [hl, ← made_rows, List.take_of_length_le (by rw [Array.length_toList, size_madeCells]; exact Nat.le_refl _)]
  · rw [(List.mem_replicate.1 hr).2, Array.length_toList]
theorem rep_map {α : Type} (f : α → List Value) (x : α) (n : Nat) : (List.replicate n x).map f = List.replicate n (f x) := by simp
theorem rr_begun {W w' : World} {D : Int} {n : Nat} {A : Option Addr} {c rb g1 g2 g3 g4 : Nat} (hb : w'.heap[rb]? = some (.cells (rarr D A n c zv g1 g2 g3 g4 (.slice none 0 0)) 56)) (hrb : rb = W.heap.size + 4)
    (h1 : w'.heap[g1]? = some (.cells (mk z108 2 n) 108)) (h2 : w'.heap[g2]? = some (.cells (mk z29 4 n) 29)) (h3 : w'.heap[g3]? = some (.cells (mk (.bool false) 1 n) 4)) (h4 : w'.heap[g4]? = some (.cells (mk (.bool false) 1 n) 4)) (hd : Below W.heap.size W w')
    (hg : W.heap.size ≤ g1 ∧ W.heap.size ≤ g2 ∧ W.heap.size ≤ g3 ∧ W.heap.size ≤ g4 ∧ g1 < W.heap.size + 4 ∧ g2 < W.heap.size + 4 ∧ g3 < W.heap.size + 4 ∧ g4 < W.heap.size + 4 ∧ g1 ≠ g2 ∧ g1 ≠ g3 ∧ g1 ≠ g4 ∧ g2 ≠ g3 ∧ g2 ≠ g4 ∧ g3 ≠ g4) (hn : n ≤ maxLen) :
    RR W w' W.heap.size rb D A n c g1 g2 g3 g4 (.slice none 0 0) (List.replicate n zv) (rs0 n) := by
  obtain ⟨q1, q2, q3, q4, r1, r2, r3, r4, p12, p13, p14, p23, p24, p34⟩ := hg
  have e1 : (rs0 n).l = List.replicate n pa0 := rfl
  refine ⟨hb, ?_, ?_, ?_, ?_, Own.nil _ _ _ _, by rw [e1]; exact List.length_replicate, List.length_replicate, fun k hk => ?_, ⟨p12, p13, p14, p23, p24, p34⟩, ⟨by omega, by omega, by omega, by omega⟩, by omega, hd⟩
  · rw [e1, rep_map]; exact own_made h1 q1 hn
  · rw [rep_map]; exact own_made h2 q2 hn
  · rw [e1, rep_map]; exact own_made h3 q3 hn
  · rw [e1, rep_map]; exact own_made h4 q4 hn
  · rw [rs0_get] at hk; cases hk
theorem rcnt0 (n : Nat) : Rcnt (rs0 n) := by
  unfold Rcnt rs0
  simp only [List.length_nil]
  rw [List.countP_replicate]
  rfl
/-- the reference's race under way -/
structure RU (W0 W : World) (B rb : Nat) (D : Int) (A : Option Addr) (n c g1 g2 g3 g4 : Nat) (s : Rs) (N : Int) : Prop where
  r : ∃ vo rd, RR W0 W B rb D A n c g1 g2 g3 g4 vo rd s
  ok : Rok s N
  cnt : Rcnt s
section
variable {W0 W : World} {B rb : Nat} {D N : Int} {A : Option Addr} {n c g1 g2 g3 g4 : Nat} {s : Rs} {cs : List (Int × Int)}
theorem RU.len (h : RU W0 W B rb D A n c g1 g2 g3 g4 s N) : s.l.length = n := by obtain ⟨⟨_, _, r⟩, _, _⟩ := h; exact r.len
theorem RU.up {M : Int} (h : RU W0 W B rb D A n c g1 g2 g3 g4 s N) (hm : N ≤ M) : RU W0 W B rb D A n c g1 g2 g3 g4 s M := ⟨h.r, h.ok.mono hm, h.cnt⟩
theorem RU.keep {W' : World} (h : RU W0 W B rb D A n c g1 g2 g3 g4 s N) (d : Below W.heap.size W W') : RU W0 W' B rb D A n c g1 g2 g3 g4 s N := by
  obtain ⟨⟨vo, rd, r⟩, a, b⟩ := h
  exact ⟨⟨vo, rd, r.keep d⟩, a, b⟩
theorem step46 (h : RU W0 W B rb D A n c g1 g2 g3 g4 s N) (hN : N < 9223372036854775806) (hD : 0 ≤ D ∧ D ≤ 2147483647) (hcl : Cls W0 A cs) (hBW : B = W0.heap.size) (hn : cs.length = n) (hn5 : n ≤ 1000)
    (hcc : ∀ j, ((callAt cs j).1 = 1 ∨ (callAt cs j).1 = 2 ∨ (callAt cs j).1 = 3) ∧ 0 ≤ (callAt cs j).2 ∧ (callAt cs j).2 ≤ 2147483647) (k : Nat) (hk : k < n) :
    Calls Try.prog 46 #[.pointer (some ⟨rb, 0, none⟩), .int .i64 (k : Int)] W fun e w' => e = .returned (.tuple #[]) ∧ RU W0 w' B rb D A n c g1 g2 g3 g4 (rstep D cs s k) (N + 1) := by
  have hl := h.len
  obtain ⟨⟨vo, rd, r⟩, ok, cnt⟩ := h
  have ok' := ok.step (D := D) (cs := cs) (fun j => (hcc j).2) k
  have cnt' := cnt.step (D := D) (cs := cs) (k := k) (by rw [hl]; exact hk)
  have fin : ∀ e w', Rp W0 B rb D A n c g1 g2 g3 g4 (rstep D cs s k) e w' → e = .returned (.tuple #[]) ∧ RU W0 w' B rb D A n c g1 g2 g3 g4 (rstep D cs s k) (N + 1) := fun e w' q => ⟨q.1, q.2, ok', cnt'⟩
  cases ho : (s.l.getD k pa0).o
  · cases hh : (s.l.getD k pa0).h
    · exact (rstep_fresh r ok hN hD hcl hBW hn hn5 cnt hcc hk ho hh).mono fin
    · by_cases hw : s.w = (s.l.getD k pa0).r
      · exact (rstep_hit r ok hN hD hcl hBW hn hn5 cnt hcc hk ho hh hw).mono fin
      · exact (rstep_miss r ok hN hD hcl hBW hn hn5 cnt hcc hk ho hh hw).mono fin
  · rw [rstep_over ho] at fin ⊢
    exact (rstep_none r hk ho).mono fin
theorem step46_go (h : RU W0 W B rb D A n c g1 g2 g3 g4 s N) (hN : N < 9223372036854775806) (hD : 0 ≤ D ∧ D ≤ 2147483647) (hcl : Cls W0 A cs) (hBW : B = W0.heap.size) (hn : cs.length = n) (hn5 : n ≤ 1000)
    (hcc : ∀ j, ((callAt cs j).1 = 1 ∨ (callAt cs j).1 = 2 ∨ (callAt cs j).1 = 3) ∧ 0 ≤ (callAt cs j).2 ∧ (callAt cs j).2 ≤ 2147483647) (i : Int) :
    Calls Try.prog 46 #[.pointer (some ⟨rb, 0, none⟩), .int .i64 i] W fun e w' => e = .returned (.tuple #[]) ∧ RU W0 w' B rb D A n c g1 g2 g3 g4 (rgo D cs s i) (N + 1) := by
  have hl := h.len
  unfold rgo
  rw [hl]
  by_cases hi : 0 ≤ i ∧ i < (n : Int)
  · rw [if_pos hi]
    obtain ⟨k, rfl⟩ : ∃ k : Nat, i = (k : Int) := ⟨i.toNat, by omega⟩
    rw [Int.toNat_natCast]
    exact step46 h hN hD hcl hBW hn hn5 hcc k (by omega)
  · rw [if_neg hi]
    obtain ⟨⟨vo, rd, r⟩, ok, cnt⟩ := h
    exact (rstep_out r i hi).mono fun e w' q => ⟨q.1, q.2, ok.mono (by omega), cnt⟩
/-- whether a call is over, in memory -/
theorem RU.over (h : RU W0 W B rb D A n c g1 g2 g3 g4 s N) {k : Nat} (hk : k < n) : W.cell? ⟨rb, 1, none⟩ = some (.slice A n c) ∧ W.cell? ⟨rb, 9, none⟩ = some (.slice (some ⟨g4, 0, none⟩) n n) ∧ W.cell? ⟨g4, k, none⟩ = some (.bool (s.l.getD k pa0).o) := by
  have hl := h.len
  obtain ⟨⟨vo, rd, r⟩, _, _⟩ := h
  have hkl : k < s.l.length := by omega
  obtain ⟨-, c1, -, -, -, -, -, -, -, c9, -⟩ := r.cells
  have d4 := (r.o4.cells (by simpa using hl) hk (map_at hkl) (f := 0) (u := .bool (s.l.getD k pa0).o) rfl).1
  rw [Nat.mul_one, Nat.add_zero] at d4
  exact ⟨c1, c9, d4⟩
theorem RU.calls (h : RU W0 W B rb D A n c g1 g2 g3 g4 s N) : W.cell? ⟨rb, 1, none⟩ = some (.slice A n c) := by
  obtain ⟨⟨vo, rd, r⟩, _, _⟩ := h
  obtain ⟨-, c1, -⟩ := r.cells
  exact c1
end
end Go.Proofs.Ytgnhddnhcfmipaa
