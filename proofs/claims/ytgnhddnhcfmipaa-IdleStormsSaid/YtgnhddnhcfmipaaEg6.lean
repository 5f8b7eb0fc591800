/- Who may touch what: permissions over a trace. Plain: no program here. -/
import Derived.Test.YtgnhddnhcfmipaaEg5
import Derived.Conc.CrowdTrace
namespace Go.Proofs.Ytgnhddnhcfmipaa.Eg
open Go Go.Conc
open Go.ConcN (PermW fork_knows)

/-- g knows every plain touch of the place: it may touch it atomically. -/
def PermP (t : Trace) (g : Nat) (l : Loc) : Prop := ∀ i a, touchAt t i = some a → a.loc = l → a.kind = .plain → Knows t g i
theorem PermP.of {t : Trace} {g : Nat} {l : Loc} (h : Perm t g l) : PermP t g l := fun i a ha hl _ => h i a ha hl
theorem PermP.app {t u : Trace} {g : Nat} {l : Loc} (h : PermP t g l) (hu : ∀ op ∈ u, ∀ b, op.act.touch? = some b → b.loc = l → b.kind = .plain → op.g = g) : PermP (t ++ u) g l := by
  intro i a ha hl hw
  obtain ⟨x, hx, hxa⟩ := touch_of ha
  rcases getElem?_append_cases hx with ⟨hi, hx'⟩ | ⟨_, hxu⟩
  · exact (h i a (by rw [touchAt_of hx']; exact hxa) hl hw).app u
  · have := knows_own hx
    rwa [hu x hxu a hxa hl hw] at this

/-- own: g alone touches it; rd: it may be read; at_: it may be touched, but not plainly. -/
structure Perms where
  own : Nat → Loc → Prop
  rd : Nat → Loc → Prop
  at_ : Nat → Loc → Prop

structure Apart (p : Perms) : Prop where
  own : ∀ g g' l, p.own g l → p.own g' l → g = g'
  ownRd : ∀ g g' l, p.own g l → p.rd g' l → g = g'
  ownAt : ∀ g g' l, p.own g l → p.at_ g' l → g = g'
  rdAt : ∀ g g' l, p.rd g l → ¬ p.at_ g' l

structure TI (p : Perms) (t : Trace) : Prop where
  clean : ∀ said, ¬ Race said t
  own : ∀ g l, p.own g l → Perm t g l
  rd : ∀ g l, p.rd g l → PermW t g l
  at_ : ∀ g l, p.at_ g l → PermP t g l
  said : ∀ (i : Nat) (op : MemOp) a, t[i]? = some op → op.act.touch? = some a → a.kind = .said → op.g = 0

/-- What g may do. -/
def OkT (p : Perms) (g : Nat) (x : Touch) : Prop := (x.kind = .said → g = 0) ∧ (p.own g x.loc ∨ (p.rd g x.loc ∧ x.write = false) ∨ (p.at_ g x.loc ∧ x.kind ≠ .plain))

theorem TI.app {p : Perms} {t u : Trace} {g : Nat} (A : Apart p) (h : TI p t) (hg : ∀ op ∈ u, op.g = g) (hu : ∀ op ∈ u, ∀ x, op.act.touch? = some x → OkT p g x) : TI p (t ++ u) := by
  refine ⟨fun said => noRace_append (h.clean said) hg fun i a ha op hop b hb hc => ?_, fun g' l hl => (h.own g' l hl).app fun op hop b hb e => ?_, fun g' l hl => (h.rd g' l hl).app fun op hop b hb e hw => ?_,
    fun g' l hl => (h.at_ g' l hl).app fun op hop b hb e hw => ?_, fun i op a hi ha hk => ?_⟩
  · obtain ⟨h0, h1⟩ := hu op hop b hb
    rcases h1 with h1 | ⟨h1, h2⟩ | ⟨h1, h2⟩
    · exact h.own g _ h1 i a ha hc.1
    · exact h.rd g _ h1 i a ha hc.1 (hc.2.2.1.resolve_right (by simp [h2]))
    · rcases hc.2.2.2 with e | e | ⟨_, e1, e2⟩
      · exact h.at_ g _ h1 i a ha hc.1 e
      · exact absurd e h2
      · obtain ⟨x, hx, hxa⟩ := touch_of ha
        have := knows_own hx
        rwa [h.said i x a hx hxa e1, ← h0 e2] at this
  · rw [hg op hop]
    rcases (hu op hop b hb).2 with h1 | ⟨h1, _⟩ | ⟨h1, _⟩
    · exact A.own _ _ l (e ▸ h1) hl
    · exact (A.ownRd _ _ l hl (e ▸ h1)).symm
    · exact (A.ownAt _ _ l hl (e ▸ h1)).symm
  · rw [hg op hop]
    rcases (hu op hop b hb).2 with h1 | ⟨_, h2⟩ | ⟨h1, _⟩
    · exact A.ownRd _ _ l (e ▸ h1) hl
    · rw [h2] at hw; cases hw
    · exact absurd (e ▸ h1) (A.rdAt _ _ l hl)
  · rw [hg op hop]
    rcases (hu op hop b hb).2 with h1 | ⟨h1, _⟩ | ⟨_, h2⟩
    · exact A.ownAt _ _ l (e ▸ h1) hl
    · exact absurd hl (A.rdAt _ _ l (e ▸ h1))
    · exact absurd hw h2
  · rcases getElem?_append_cases hi with ⟨_, hi'⟩ | ⟨_, hiu⟩
    · exact h.said i op a hi' ha hk
    · rw [hg op hiu]; exact (hu op hiu a ha).1 hk

/-- Operations that touch nothing, whoever's, where a race could not come of them. -/
theorem TI.mute {p : Perms} {t u : Trace} {g : Nat} (h : TI p t) (hg : ∀ op ∈ u, op.g = g) (hu : ∀ op ∈ u, op.act.touch? = none) : TI p (t ++ u) := by
  refine ⟨fun said => noRace_append (h.clean said) hg fun i a ha op hop b hb hc => ?_, fun g' l hl => (h.own g' l hl).app fun op hop b hb e => ?_, fun g' l hl => (h.rd g' l hl).app fun op hop b hb e hw => ?_,
    fun g' l hl => (h.at_ g' l hl).app fun op hop b hb e hw => ?_, fun i op a hi ha hk => ?_⟩
  · rw [hu op hop] at hb; cases hb
  · rw [hu op hop] at hb; cases hb
  · rw [hu op hop] at hb; cases hb
  · rw [hu op hop] at hb; cases hb
  · rcases getElem?_append_cases hi with ⟨_, hi'⟩ | ⟨_, hiu⟩
    · exact h.said i op a hi' ha hk
    · rw [hu op hiu] at ha; cases ha

/-- The permissions anew: what is claimed is known. -/
theorem TI.anew {p p' : Perms} {t : Trace} (h : TI p t) (h1 : ∀ g l, p'.own g l → Perm t g l) (h2 : ∀ g l, p'.rd g l → PermW t g l) (h3 : ∀ g l, p'.at_ g l → PermP t g l) : TI p' t := ⟨h.clean, h1, h2, h3, h.said⟩

theorem noTouch_app {t u : Trace} {i : Nat} {a : Touch} (hu : ∀ op ∈ u, op.act.touch? = none) (h : touchAt (t ++ u) i = some a) : touchAt t i = some a := by
  obtain ⟨x, hx, hxa⟩ := touch_of h
  rcases getElem?_append_cases hx with ⟨_, hx'⟩ | ⟨_, hxu⟩
  · rw [touchAt_of hx']; exact hxa
  · rw [hu x hxu] at hxa; cases hxa

/-- A go STATEMENT: the child may whatever the parent may. -/
theorem fork_perm {t : Trace} {k : Nat} {x z : MemOp} (hx : x.g = 0 ∧ x.act = .go k) (hz : z.g = k ∧ z.act = .start) (h0 : Deaf t 0 = 0) (hk : Deaf t k = 0) {l : Loc} :
    (Perm t 0 l → Perm (t ++ #[x, z]) k l) ∧ (PermW t 0 l → PermW (t ++ #[x, z]) k l) ∧ (PermP t 0 l → PermP (t ++ #[x, z]) k l) := by
  have hu : ∀ op ∈ #[x, z], op.act.touch? = none := by
    intro op hop
    simp only [List.mem_toArray, List.mem_cons, List.not_mem_nil, or_false] at hop
    rcases hop with rfl | rfl
    · rw [hx.2]; rfl
    · rw [hz.2]; rfl
  exact ⟨fun h i a ha e => fork_knows hx hz h0 hk (h i a (noTouch_app hu ha) e), fun h i a ha e w => fork_knows hx hz h0 hk (h i a (noTouch_app hu ha) e w), fun h i a ha e w => fork_knows hx hz h0 hk (h i a (noTouch_app hu ha) e w)⟩
theorem TI.two {p : Perms} {t : Trace} {x z : MemOp} (h : TI p t) (hx : x.act.touch? = none) (hz : z.act.touch? = none) : TI p (t ++ #[x, z]) := by
  have e : t ++ #[x, z] = (t ++ #[x]) ++ #[z] := by apply Array.ext'; simp
  rw [e]
  exact (h.mute (u := #[x]) (g := x.g) (by simp) (by simpa using hx)).mute (u := #[z]) (g := z.g) (by simp) (by simpa using hz)
end Go.Proofs.Ytgnhddnhcfmipaa.Eg
