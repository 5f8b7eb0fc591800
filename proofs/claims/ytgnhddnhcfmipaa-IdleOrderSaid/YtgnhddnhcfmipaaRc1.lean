/- Idle: a race in the program's memory: its attempts; a step of one of them. -/
import Derived.Test.YtgnhddnhcfmipaaRc0
import Derived.Test.YtgnhddnhcfmipaaBook2
import Derived.Test.YtgnhddnhcfmipaaDoes2
namespace Go.Proofs.Ytgnhddnhcfmipaa
open Go.RowKit Go.BigFrame

section
variable {W W' : World} {b g : Nat} {kind now was nxt : Int} {has done : Bool} {code tries d x : Int}
/-- a cell of another attempt is written -/
theorem AC.other {j k i : Nat} (h : AC W b (j * 9) g kind now was nxt has done code tries d x) (hjk : j ≠ k) (hi : i < 9) (v : Value) : AC (W.setCell ⟨b, k * 9 + i, none⟩ v) b (j * 9) g kind now was nxt has done code tries d x := by
  have hne : ∀ i', i' < 9 → k * 9 + i ≠ j * 9 + i' := fun i' h' e => hjk (by omega)
  exact ⟨h.ne, (cell_off (hne 0 (by omega))).trans h.c0, (cell_off (hne 1 (by omega))).trans h.c1, (cell_off (hne 2 (by omega))).trans h.c2, (cell_off (hne 3 (by omega))).trans h.c3, (cell_off (hne 4 (by omega))).trans h.c4, (cell_off (hne 5 (by omega))).trans h.c5, (cell_off (hne 6 (by omega))).trans h.c6, (cell_off (hne 7 (by omega))).trans h.c7, (cell_off (hne 8 (by omega))).trans h.c8,
    fun j => by rw [World.frozen?_setCell]; exact h.f j, (cell_blk h.ne.symm).trans h.w0, (cell_blk h.ne.symm).trans h.w1, by rw [World.frozen?_setCell]; exact h.wf⟩
end
/-- the race's attempts in block b, its word in block g -/
structure PR (W : World) (D : Int) (cs : List (Int × Int)) (g b : Nat) (s : Rs) : Prop where
  ne : g ≠ b
  wd : W.heap[g]? = some (.cells #[.int .i64 D, .int .u64 s.w.num] 100)
  hb : b < W.heap.size
  at_ : ∀ k, k < s.l.length → ∃ was nxt, AC W b (k * 9) g (callAt cs k).1 (callAt cs k).2 was nxt (s.l.getD k pa0).h (s.l.getD k pa0).o (s.l.getD k pa0).c (s.l.getD k pa0).t D s.w.num ∧
    ((s.l.getD k pa0).h = true → was = (s.l.getD k pa0).r.num ∧ nxt = (act (callAt cs k).1 D (callAt cs k).2 (s.l.getD k pa0).r).1.num)
theorem PR.below {W W' : World} {D : Int} {cs : List (Int × Int)} {g b : Nat} {s : Rs} (h : PR W D cs g b s) (d : Below W.heap.size W W') : PR W' D cs g b s :=
  ⟨h.ne, (d.block _ (heap_lt h.wd)).trans h.wd, Nat.lt_of_lt_of_le h.hb d.size, fun k hk => by
    obtain ⟨was, nxt, h1, h2⟩ := h.at_ k hk
    exact ⟨was, nxt, h1.on d, h2⟩⟩
theorem PR.fr {W W' : World} {D : Int} {cs : List (Int × Int)} {g b H : Nat} {S : Nat → Prop} {s : Rs} (h : PR W D cs g b s) (d : Fr H S W W') (hg : g < H ∧ ¬ S g) (hb : b < H ∧ ¬ S b) : PR W' D cs g b s := by
  have eb := d.k b hb.1 hb.2
  have eg := d.k g hg.1 hg.2
  have cb : ∀ j, W'.cell? ⟨b, j, none⟩ = W.cell? ⟨b, j, none⟩ := fun j => World.cell?_of_block eb
  have cg : ∀ j, W'.cell? ⟨g, j, none⟩ = W.cell? ⟨g, j, none⟩ := fun j => World.cell?_of_block eg
  have fb : ∀ j, W'.frozen? ⟨b, j, none⟩ = W.frozen? ⟨b, j, none⟩ := fun j => by unfold World.frozen?; rw [eb]
  have fg : ∀ j, W'.frozen? ⟨g, j, none⟩ = W.frozen? ⟨g, j, none⟩ := fun j => by unfold World.frozen?; rw [eg]
  refine ⟨h.ne, eg.trans h.wd, Nat.lt_of_lt_of_le h.hb d.size, fun k hk => ?_⟩
  obtain ⟨was, nxt, h1, h2⟩ := h.at_ k hk
  exact ⟨was, nxt, ⟨h1.ne, (cb _).trans h1.c0, (cb _).trans h1.c1, (cb _).trans h1.c2, (cb _).trans h1.c3, (cb _).trans h1.c4, (cb _).trans h1.c5, (cb _).trans h1.c6, (cb _).trans h1.c7, (cb _).trans h1.c8, fun j => (fb _).trans (h1.f j), (cg _).trans h1.w0, (cg _).trans h1.w1, (fg _).trans h1.wf⟩, h2⟩
theorem num_eq {v u : VW} (hv : v.ok) (hu : u.ok) : v.num = u.num ↔ v = u := by
  constructor
  · intro h
    obtain ⟨a1, a2, a3, a4, a5, a6⟩ := hv
    obtain ⟨b1, b2, b3, b4, b5, b6⟩ := hu
    obtain ⟨u1, p1, s1, k1⟩ := v
    obtain ⟨u2, p2, s2, k2⟩ := u
    simp only at a1 a2 a3 a4 a5 a6 b1 b2 b3 b4 b5 b6
    unfold VW.num VW.low at h
    simp only at h
    cases p1 <;> cases p2
    all_goals simp only [Bool.false_eq_true, if_false, if_true] at h
    all_goals first
      | (exfalso; omega)
      | (have e1 : u1 = u2 := by omega
         have e2 : s1 = s2 := by omega
         have e3 : k1 = k2 := by omega
         rw [e1, e2, e3])
  · intro h; rw [h]
theorem fr_sets {H : Nat} {S : Nat → Prop} {W X W' : World} (h : Fr H S W X) (d : Below H X W') : Fr H S W W' := h.trans (Fr.of d)
set_option maxHeartbeats 4000000 in
theorem pstep {W : World} {D N : Int} {cs : List (Int × Int)} {g b : Nat} {s : Rs} (h : PR W D cs g b s) (hr : Rok s N) (hN : N < 9223372036854775806) (hD : 0 ≤ D ∧ D ≤ 2147483647) {k : Nat} (hk : k < s.l.length) (ho : (s.l.getD k pa0).o = false)
    (hc : ∀ j, ((callAt cs j).1 = 1 ∨ (callAt cs j).1 = 2 ∨ (callAt cs j).1 = 3) ∧ 0 ≤ (callAt cs j).2 ∧ (callAt cs j).2 ≤ 2147483647) :
    Calls Try.prog 45 #[.pointer (some ⟨b, k * 9, none⟩)] W fun e w' => e = .returned (.tuple #[]) ∧ PR w' D cs g b (rstep D cs s k) ∧ Fr W.heap.size (fun x => x = b ∨ x = g) W w' := by
  obtain ⟨was, nxt, hA, hB⟩ := h.at_ k hk
  have hgl := heap_lt h.wd
  have hbl := h.hb
  have hne := h.ne
  have hck := hc k
  have ha := act_ok (kind := (callAt cs k).1) (delay := D) hr.w hck.2
  have hrk := hr.r k
  have htk := hr.t k
  have hset : ∀ (X : World) (i : Nat) (v : Value), Fr W.heap.size (fun x => x = b ∨ x = g) W X → Fr W.heap.size (fun x => x = b ∨ x = g) W (X.setCell ⟨b, k * 9 + i, none⟩ v) := fun X i v hX => hX.set (fun _ => Or.inl rfl) v
  have hsetg : ∀ (X : World) (v : Value), Fr W.heap.size (fun x => x = b ∨ x = g) W X → Fr W.heap.size (fun x => x = b ∨ x = g) W (X.setCell ⟨g, 1, none⟩ v) := fun X v hX => hX.set (fun _ => Or.inr rfl) v
  have hF0 : Fr W.heap.size (fun x => x = b ∨ x = g) W W := Fr.refl _ _ _
  have heap_b : ∀ (X : World) (i : Nat) (v : Value) (o : Obj), X.heap[g]? = some o → (X.setCell ⟨b, k * 9 + i, none⟩ v).heap[g]? = some o := fun X i v o hX => heap_set_far hX hne v
  have other := fun (j : Nat) (hj : j < s.l.length) (hjk : j ≠ k) => h.at_ j hj
  unfold rstep
  simp only
  rw [ho]
  simp only [Bool.false_eq_true, if_false]
  generalize hp : s.l.getD k pa0 = p at *
  cases hh : p.h
  · simp only [Bool.false_eq_true, if_false]
    rw [hh, ho] at hA
    refine (step_first _ hck.1 b (k * 9) g (callAt cs k).2 was nxt p.c p.t D false s.w hr.w hck.2 hD W hA).mono fun e w' ⟨he, hb'⟩ => ⟨he, ?_⟩
    by_cases hq : (act (callAt cs k).1 D (callAt cs k).2 s.w).1 = s.w
    · rw [if_pos hq]
      rw [if_pos (by rw [hq])] at hb'
      have hs : W.heap.size ≤ w'.heap.size := by have := hb'.size; simpa only [size_set] using this
      refine ⟨⟨hne, (hb'.block _ hgl).trans (heap_b _ _ _ _ (heap_b _ _ _ _ (heap_b _ _ _ _ (heap_b _ _ _ _ h.wd)))), Nat.lt_of_lt_of_le hbl hs, fun j hj => ?_⟩, fr_sets (hset _ _ _ (hset _ _ _ (hset _ _ _ (hset _ _ _ hF0)))) hb'⟩
      simp only [List.length_set] at hj
      by_cases e : j = k
      · subst e
        simp only [getP_set hk]
        exact ⟨_, _, ((((hA.set3 _).set4 _).set7 _).set6 _).below (hb'.mono (Nat.le_refl _)) hbl hgl, fun q => by cases q⟩
      · obtain ⟨w1, n1, h1, h2⟩ := other j hj e
        simp only [getP_far e]
        exact ⟨w1, n1, ((((h1.other e (by decide) _).other e (by decide) _).other e (by decide) _).other e (by decide) _).below hb' hbl hgl, h2⟩
    · rw [if_neg hq]
      rw [if_neg (fun e => hq ((num_eq ha hr.w).1 e))] at hb'
      have hs : W.heap.size ≤ w'.heap.size := by have := hb'.size; simpa only [size_set] using this
      refine ⟨⟨hne, (hb'.block _ hgl).trans (heap_b _ _ _ _ (heap_b _ _ _ _ (heap_b _ _ _ _ h.wd))), Nat.lt_of_lt_of_le hbl hs, fun j hj => ?_⟩, fr_sets (hset _ _ _ (hset _ _ _ (hset _ _ _ hF0))) hb'⟩
      simp only [List.length_set] at hj
      by_cases e : j = k
      · subst e
        simp only [getP_set hk]
        exact ⟨_, _, (((hA.set3 _).set4 _).set5 _).below hb' hbl hgl, fun _ => ⟨rfl, rfl⟩⟩
      · obtain ⟨w1, n1, h1, h2⟩ := other j hj e
        simp only [getP_far e]
        exact ⟨w1, n1, (((h1.other e (by decide) _).other e (by decide) _).other e (by decide) _).below hb' hbl hgl, h2⟩
  · simp only [if_true]
    obtain ⟨rfl, rfl⟩ := hB hh
    rw [hh, ho] at hA
    by_cases hq : s.w = p.r
    · rw [if_pos hq]
      have hA2 := hA
      rw [← hq] at hA2
      refine (step_hit b (k * 9) g _ _ _ p.c p.t D s.w.num false ⟨htk.1, by omega⟩ W hA2).mono fun e w' ⟨he, hb'⟩ => ⟨he, ?_⟩
      have hs : W.heap.size ≤ w'.heap.size := by have := hb'.size; simpa only [size_set] using this
      refine ⟨⟨hne, (hb'.block _ hgl).trans (heap_b _ _ _ _ (heap_b _ _ _ _ (heap_set (heap_b _ _ _ _ h.wd) 1 _))), Nat.lt_of_lt_of_le hbl hs, fun j hj => ?_⟩, fr_sets (hset _ _ _ (hset _ _ _ (hsetg _ _ (hset _ _ _ hF0)))) hb'⟩
      simp only [List.length_set] at hj
      by_cases e : j = k
      · subst e
        simp only [getP_set hk]
        exact ⟨_, _, ((((hA2.set8 _).setw _).set6 _).set5 _).below hb' hbl hgl, fun q => by cases q⟩
      · obtain ⟨w1, n1, h1, h2⟩ := other j hj e
        simp only [getP_far e]
        exact ⟨w1, n1, ((((h1.other e (by decide) _).setw _).other e (by decide) _).other e (by decide) _).below hb' hbl hgl, h2⟩
    · rw [if_neg hq]
      refine (step_miss b (k * 9) g _ _ _ p.c p.t D s.w.num p.r.num (fun e => hq ((num_eq hr.w hrk).1 e)) false ⟨htk.1, by omega⟩ W hA).mono fun e w' ⟨he, hb'⟩ => ⟨he, ?_⟩
      have hs : W.heap.size ≤ w'.heap.size := by have := hb'.size; simpa only [size_set] using this
      refine ⟨⟨hne, (hb'.block _ hgl).trans (heap_b _ _ _ _ (heap_b _ _ _ _ (heap_b _ _ _ _ h.wd))), Nat.lt_of_lt_of_le hbl hs, fun j hj => ?_⟩, fr_sets (hset _ _ _ (hset _ _ _ (hset _ _ _ hF0))) hb'⟩
      simp only [List.length_set] at hj
      by_cases e : j = k
      · subst e
        simp only [getP_set hk]
        exact ⟨_, _, (((hA.set8 _).set6 _).set5 _).below hb' hbl hgl, fun q => by cases q⟩
      · obtain ⟨w1, n1, h1, h2⟩ := other j hj e
        simp only [getP_far e]
        exact ⟨w1, n1, (((h1.other e (by decide) _).other e (by decide) _).other e (by decide) _).below hb' hbl hgl, h2⟩
end Go.Proofs.Ytgnhddnhcfmipaa
