/- Who has released and who has taken over: a WaitGroup's words in the trace. Plain: no program here. -/
import Derived.Test.YtgnhddnhcfmipaaEg6
import Derived.Conc.CrowdCom2
namespace Go.Proofs.Ytgnhddnhcfmipaa.Eg
open Go Go.Conc
open Go.ConcN (PermW RelBy)

/-- Goroutine k has released at r; since then it has touched no memory but a's block, atomically. -/
structure Rel (a : Addr) (t : Trace) (k r : Nat) : Prop where
  by_ : RelBy a t k r
  late : ∀ i x, r < i → t.g? i = some k → touchAt t i = some x → x.loc.isMemory = true → x.kind = .atomic ∧ ∃ c : Addr, x.loc = .cell c ∧ c.block = a.block

/-- Of goroutine k goroutine 0 knows every touch of memory but those of shunned places, and these do not count. -/
def Told (Shun : Nat → Prop) (t : Trace) (k : Nat) : Prop :=
  ∀ i x, t.g? i = some k → touchAt t i = some x → x.loc.isMemory = true → Knows t 0 i ∨ (x.kind = .atomic ∧ (∃ c : Addr, x.loc = .cell c ∧ Shun c.block) ∧ ¬ t.counts i)

theorem g?_of {t : Trace} {i k : Nat} (h : t.g? i = some k) : ∃ op, t[i]? = some op ∧ op.g = k := by
  obtain ⟨op, h1, h2⟩ := Option.map_eq_some_iff.1 h
  exact ⟨op, h1, h2⟩

theorem Told.mono {Shun Shun' : Nat → Prop} {t : Trace} {k : Nat} (h : Told Shun t k) (hs : ∀ b, Shun b → Shun' b) : Told Shun' t k := fun i x a b c => (h i x a b c).imp id fun ⟨d, ⟨e, f, g⟩, j⟩ => ⟨d, ⟨e, f, hs _ g⟩, j⟩

/-- Operations of k that touch nothing, and anybody else's. -/
theorem Told.app {Shun : Nat → Prop} {t u : Trace} {k : Nat} (h : Told Shun t k) (hu : ∀ op ∈ u, op.g = k → op.act.touch? = none) : Told Shun (t ++ u) k := by
  intro i x hg hx hm
  obtain ⟨op, ho, hog⟩ := g?_of hg
  rcases getElem?_append_cases ho with ⟨hi, ho'⟩ | ⟨_, hou⟩
  · rcases h i x (by rw [← g?_old (u := u) hi]; exact hg) (by rw [← touchAt_old (u := u) hi]; exact hx) hm with h | ⟨a, b, c⟩
    · exact .inl (h.app u)
    · exact .inr ⟨a, b, fun hc => c ((counts_old hi).1 hc)⟩
  · rw [touchAt_of ho, hu op hou hog] at hx; cases hx

/-- ████ GOROUTINE 0 TAKES OVER from whoever has released. ████ -/
theorem Rel.told {Shun : Nat → Prop} {a : Addr} {t : Trace} {k r q : Nat} (h : Rel a t k r) (hs : Shun a.block) (hrq : r < q) (hn : NoRelease a t) (hq : t.act? q = some (.mark (.acquire a))) (hg : t.g? q = some 0) (hh : t.heard q) : Told Shun t k := by
  have edge : HappensBefore t r q := .single (.inr ⟨.marked hrq (.inr h.by_.act) hq (fun k _ _ => hn k), h.by_.heard, hh⟩)
  obtain ⟨z, hz, hzg⟩ := g?_of hg
  intro i x hgi hx hm
  rcases Nat.lt_or_ge r i with hlt | hge
  · obtain ⟨h1, c, h2, h3⟩ := h.late i x hlt hgi hx hm
    exact .inr ⟨h1, ⟨c, h2, h3 ▸ hs⟩, h.by_.after i hlt hgi⟩
  · refine .inl ⟨q, z, hz, hzg, .inr ?_⟩
    rcases Nat.lt_or_eq_of_le hge with hlt | rfl
    · exact .trans (.single (.inl ⟨hlt, k, hgi, h.by_.g⟩)) edge
    · exact edge

theorem handedOver_told {Shun : Nat → Prop} {t : Trace} (h : ∀ i k, t.g? i = some k → k ≠ 0 → Told Shun t k) : t.HandedOver := by
  intro i k hg hne hc
  obtain ⟨x, hx, hm, _⟩ := id hc
  rcases h i k hg hne i x hg hx hm with ⟨q, z, hz, hzg, hb⟩ | ⟨_, _, hnc⟩
  · refine ⟨q, by simp [Trace.g?, hz, hzg], ?_⟩
    rcases hb with rfl | hb
    · obtain ⟨op, ho, hog⟩ := g?_of hg
      rw [ho] at hz
      have := Option.some.inj hz
      subst this
      omega
    · exact hb
  · exact absurd hc hnc

/-- What goroutine 0 may touch where it is told of all others. -/
theorem perm_told {Shun : Nat → Prop} {t : Trace} (h : ∀ i k, t.g? i = some k → k ≠ 0 → Told Shun t k) {l : Loc} (hm : l.isMemory = true) (hl : ∀ c : Addr, l = .cell c → ¬ Shun c.block) : Perm t 0 l := by
  intro i a ha e
  obtain ⟨op, ho, hoa⟩ := touch_of ha
  by_cases h0 : op.g = 0
  · have := knows_own ho; rwa [h0] at this
  · rcases h i op.g (by simp [Trace.g?, ho]) h0 i a (by simp [Trace.g?, ho]) (by rw [touchAt_of ho]; exact hoa) (by rw [e]; exact hm) with hk | ⟨_, ⟨c, hc, hs⟩, _⟩
    · exact hk
    · exact absurd hs (hl c (e ▸ hc))

/-- A goroutine that has touched nothing yet. -/
theorem told_none {Shun : Nat → Prop} {t : Trace} {k : Nat} (h : ∀ i, t.g? i ≠ some k) : Told Shun t k := fun i _ hg _ _ => absurd hg (h i)

/-- It releases: what it has done lies ahead. -/
theorem Rel.new {a : Addr} {t : Trace} {k : Nat} {op : MemOp} (hg : op.g = k) (ha : op.act = .mark (.releaseMerge a)) (hd : Deaf t k = 0) : Rel a (t ++ #[op]) k t.size := by
  have hlast : (t ++ #[op])[t.size]? = some op := by rw [Array.getElem?_append_right (Nat.le_refl _)]; simp
  have none_after : ∀ i, t.size < i → (t ++ #[op]).g? i = some k → False := by
    intro i hi h
    obtain ⟨x, hx, _⟩ := g?_of h
    have := lt_size_of_getElem? hx
    simp at this; omega
  refine ⟨⟨by rw [act?_of hlast, ha], by simp [Trace.g?, hg], ⟨k, by simp [Trace.g?, hg], ?_⟩, fun i hi h => (none_after i hi h).elim⟩, fun i x hi h => (none_after i hi h).elim⟩
  rw [deaf_old (Nat.le_refl _)]; exact hd

/-- Kept where others act. -/
theorem Rel.other {a : Addr} {t u : Trace} {k r : Nat} (h : Rel a t k r) (hu : ∀ op ∈ u, op.g ≠ k) : Rel a (t ++ u) k r := by
  refine ⟨h.by_.appNot hu, fun i x hi hg hx hm => ?_⟩
  obtain ⟨op, ho, hog⟩ := g?_of hg
  rcases getElem?_append_cases ho with ⟨hlt, _⟩ | ⟨_, hou⟩
  · exact h.late i x hi (by rw [← g?_old (u := u) hlt]; exact hg) (by rw [← touchAt_old (u := u) hlt]; exact hx) hm
  · exact absurd hog (hu op hou)

/-- Kept where it acts itself, deaf, on the block's cells, atomically, or touches nothing. -/
theorem Rel.own {a : Addr} {t : Trace} {k r : Nat} (h : Rel a t k r) (fn : FuncId) (pos : String) (es : Array Event)
    (hes : ∀ j e, es[j]? = some e → (MemAct.ofEvent e).touch? = none ∨ ((∃ ad : Addr, ad.block = a.block ∧ ∃ wr, e = ⟨.cell ad, wr, true⟩) ∧ 0 < deafBehind (Deaf t k) (es.extract 0 j))) : Rel a (t ++ MemOp.ofEvents k fn pos es) k r := by
  refine ⟨Go.ConcN.RelBy.appOwn h.by_ fn pos es fun j e he => (hes j e he).imp id fun ⟨⟨ad, _, wr, e⟩, hd⟩ => ⟨⟨ad, wr, e⟩, hd⟩, fun i x hi hg hx hm => ?_⟩
  obtain ⟨op, ho, hog⟩ := g?_of hg
  rcases getElem?_append_cases ho with ⟨hlt, _⟩ | ⟨hge, hou⟩
  · exact h.late i x hi (by rw [← g?_old (u := MemOp.ofEvents k fn pos es) hlt]; exact hg) (by rw [← touchAt_old (u := MemOp.ofEvents k fn pos es) hlt]; exact hx) hm
  · obtain ⟨e, he, rfl⟩ := Conc.mem_ofEvents hou
    obtain ⟨j, hj⟩ := Array.mem_iff_getElem?.1 he
    rw [touchAt_of ho] at hx
    rcases hes j e hj with h0 | ⟨⟨ad, hb, wr, rfl⟩, _⟩
    · simp only at hx; rw [h0] at hx; cases hx
    · cases wr <;> simp [MemAct.ofEvent, MemAct.touch?] at hx <;> subst hx <;> exact ⟨rfl, ad, rfl, hb⟩
end Go.Proofs.Ytgnhddnhcfmipaa.Eg
