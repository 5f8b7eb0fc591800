/- Dens: each goroutine's own blocks, what all may read, what all touch atomically. Plain: no program here. -/
import Derived.Test.YtgnhddnhcfmipaaEg7
import Derived.Test.YtgnhddnhcfmipaaEg8
namespace Go.Proofs.Ytgnhddnhcfmipaa.Eg
open Go Go.Conc
open Go.ConcN (sumTo upd upd_ne upd_same PermW)

def blk : Loc → Option Nat
  | .cell a => some a.block
  | .obj r => some r
  | _ => none

structure Gh (ρ : Type) where
  own : Nat → Prop
  rem : Nat
  deaf : Nat
  role : ρ

/-- What a role may read, and what it touches atomically: places. -/
structure Sh (ρ : Type) where
  still : ρ → Loc → Prop
  shared : ρ → Loc → Prop

/-- It lies in a block of these. -/
def inB (own : Nat → Prop) (l : Loc) : Prop := ∃ b, blk l = some b ∧ own b

/-- An entry that is let by. -/
def EvOk (still shared : Loc → Prop) (own : Nat → Prop) (main : Prop) (e : Event) : Prop :=
  (∀ x, (MemAct.ofEvent e).touch? = some x → (x.kind = .said → main) ∧ (inB own x.loc ∨ (still x.loc ∧ x.write = false) ∨ (shared x.loc ∧ x.kind ≠ .plain))) ∧ ∀ a, e.loc ≠ .mark (.release a)

section
variable {ρ : Type} (X : Sh ρ)

def perms (sz : Nat) (y : Nat → Gh ρ) (fin : Nat → Bool) : Perms where
  own g l := g < sz ∧ fin g = false ∧ inB (y g).own l
  rd g l := g < sz ∧ fin g = false ∧ X.still (y g).role l
  at_ g l := g < sz ∧ fin g = false ∧ X.shared (y g).role l

/-- The dens lie apart. -/
structure Dens (sz : Nat) (y : Nat → Gh ρ) (fin : Nat → Bool) (n : Nat) : Prop where
  low : ∀ i b, i < sz → fin i = false → (y i).own b → b < n
  lowS : ∀ i l, i < sz → fin i = false → X.still (y i).role l ∨ X.shared (y i).role l → inB (· < n) l
  apart : ∀ i j b, i < sz → j < sz → fin i = false → fin j = false → i ≠ j → (y i).own b → ¬ (y j).own b
  ownSt : ∀ i j l, i < sz → j < sz → fin i = false → fin j = false → inB (y i).own l → ¬ X.still (y j).role l
  ownSh : ∀ i j l, i < sz → j < sz → fin i = false → fin j = false → inB (y i).own l → ¬ X.shared (y j).role l
  stSh : ∀ i j l, i < sz → j < sz → fin i = false → fin j = false → X.still (y i).role l → ¬ X.shared (y j).role l

theorem Dens.perms {X : Sh ρ} {sz : Nat} {y : Nat → Gh ρ} {fin : Nat → Bool} {n : Nat} (h : Dens X sz y fin n) : Apart (perms X sz y fin) := by
  refine ⟨?_, ?_, ?_, ?_⟩
  · rintro g g' l ⟨h1, h2, b, h3, h4⟩ ⟨h1', h2', b', h3', h4'⟩
    rw [h3] at h3'; cases h3'
    exact Classical.byContradiction fun hne => h.apart g g' b h1 h1' h2 h2' hne h4 h4'
  · rintro g g' l ⟨h1, h2, h3⟩ ⟨h1', h2', h3'⟩
    exact absurd h3' (h.ownSt g g' l h1 h1' h2 h2' h3)
  · rintro g g' l ⟨h1, h2, h3⟩ ⟨h1', h2', h3'⟩
    exact absurd h3' (h.ownSh g g' l h1 h1' h2 h2' h3)
  · rintro g g' l ⟨h1, h2, h3⟩ ⟨h1', h2', h3'⟩
    exact h.stSh g g' l h1 h1' h2 h2' h3 h3'

/-- What is held of the dens and the trace, whatever the family. -/
structure GC (sz : Nat) (y : Nat → Gh ρ) (fin : Nat → Bool) (n : Nat) (t : Trace) : Prop where
  dens : Dens X sz y fin n
  deaf : ∀ i, i < sz → fin i = false → Deaf t i = (y i).deaf
  ti : TI (perms X sz y fin) t
  seen : ∀ i a b, touchAt t i = some a → blk a.loc = some b → b < n
  gs : ∀ op ∈ t, op.g < sz
  norel : ∀ a, NoRelease a t
end

section
variable {ρ : Type} {X : Sh ρ} {sz : Nat} {y : Nat → Gh ρ} {fin : Nat → Bool} {n : Nat} {t : Trace}

/-- A fresh block: nobody has touched it. -/
theorem GC.fresh (h : GC X sz y fin n t) {l : Loc} {b : Nat} (hb : blk l = some b) (hn : n ≤ b) (g : Nat) : Perm t g l := fun i a ha e => by
  have := h.seen i a b ha (by rw [e]; exact hb)
  omega

/-- ████ A PLAIN STEP of goroutine i: its own blocks and new ones alone; what it reads and shares stands. ████ -/
theorem GC.plain (h : GC X sz y fin n t) {i : Nat} (hi : i < sz) (hf : fin i = false) {y' : Gh ρ} {n' : Nat} {es : Array Event} (fn : FuncId) (pos : String) (hn : n ≤ n')
    (ho : ∀ b, y'.own b → (y i).own b ∨ (n ≤ b ∧ b < n')) (hst : ∀ l, X.still y'.role l → X.still (y i).role l) (hsh : ∀ l, X.shared y'.role l → X.shared (y i).role l) (hd : y'.deaf = deafBehind (y i).deaf es)
    (he : ∀ e ∈ es, EvOk (X.still y'.role) (X.shared y'.role) y'.own (i = 0) e) : GC X sz (upd y i y') fin n' (t ++ MemOp.ofEvents i fn pos es) := by
  have D := h.dens
  have st' : ∀ j l, X.still (upd y i y' j).role l → X.still (y j).role l := fun j l hl => by
    by_cases e : j = i
    · subst e; rw [upd_same] at hl; exact hst l hl
    · rw [upd_ne _ _ e] at hl; exact hl
  have sh' : ∀ j l, X.shared (upd y i y' j).role l → X.shared (y j).role l := fun j l hl => by
    by_cases e : j = i
    · subst e; rw [upd_same] at hl; exact hsh l hl
    · rw [upd_ne _ _ e] at hl; exact hl
  have ow' : ∀ j b, (upd y i y' j).own b → (y j).own b ∨ (j = i ∧ n ≤ b ∧ b < n') := fun j b hb => by
    by_cases e : j = i
    · subst e; rw [upd_same] at hb; exact (ho b hb).imp id fun x => ⟨rfl, x⟩
    · rw [upd_ne _ _ e] at hb; exact .inl hb
  have lowS : ∀ j l, j < sz → fin j = false → X.still (y j).role l ∨ X.shared (y j).role l → ∀ b, blk l = some b → b < n := fun j l hj hfj hl b hb => by
    obtain ⟨b', h1, h2⟩ := D.lowS j l hj hfj hl
    rw [hb] at h1; cases h1; exact h2
  have dens : Dens X sz (upd y i y') fin n' := by
    refine ⟨fun j b hj hfj hb => ?_, fun j l hj hfj hl => ?_, fun j k b hj hk hfj hfk hne h1 h2 => ?_, fun j k l hj hk hfj hfk h1 h2 => ?_, fun j k l hj hk hfj hfk h1 h2 => ?_, fun j k l hj hk hfj hfk h1 h2 => ?_⟩
    · rcases ow' j b hb with hb | ⟨_, hb⟩
      · have := D.low j b hj hfj hb; omega
      · exact hb.2
    · obtain ⟨b, h1, h2⟩ := D.lowS j l hj hfj (hl.imp (st' j l) (sh' j l))
      exact ⟨b, h1, Nat.lt_of_lt_of_le h2 hn⟩
    · rcases ow' j b h1 with a | ⟨e, a⟩ <;> rcases ow' k b h2 with c | ⟨e', c⟩
      · exact D.apart j k b hj hk hfj hfk hne a c
      · have := D.low j b hj hfj a; omega
      · have := D.low k b hk hfk c; omega
      · exact hne (e.trans e'.symm)
    · obtain ⟨b, h3, h4⟩ := h1
      rcases ow' j b h4 with a | ⟨_, a⟩
      · exact D.ownSt j k l hj hk hfj hfk ⟨b, h3, a⟩ (st' k l h2)
      · have := lowS k l hk hfk (.inl (st' k l h2)) b h3; omega
    · obtain ⟨b, h3, h4⟩ := h1
      rcases ow' j b h4 with a | ⟨_, a⟩
      · exact D.ownSh j k l hj hk hfj hfk ⟨b, h3, a⟩ (sh' k l h2)
      · have := lowS k l hk hfk (.inr (sh' k l h2)) b h3; omega
    · exact D.stSh j k l hj hk hfj hfk (st' j l h1) (sh' k l h2)
  have ti' : TI (perms X sz (upd y i y') fin) t := by
    refine h.ti.anew ?_ ?_ ?_
    · rintro g l ⟨h1, h2, b, h3, h4⟩
      rcases ow' g b h4 with h4 | ⟨_, h4⟩
      · exact h.ti.own g l ⟨h1, h2, b, h3, h4⟩
      · exact h.fresh h3 h4.1 g
    · rintro g l ⟨h1, h2, h3⟩
      exact h.ti.rd g l ⟨h1, h2, st' g l h3⟩
    · rintro g l ⟨h1, h2, h3⟩
      exact h.ti.at_ g l ⟨h1, h2, sh' g l h3⟩
  have hu : ∀ op ∈ MemOp.ofEvents i fn pos es, op.g = i := fun op hop => by obtain ⟨e, _, rfl⟩ := Conc.mem_ofEvents hop; rfl
  refine ⟨dens, fun j hj hfj => ?_, TI.app (g := i) dens.perms ti' hu fun op hop x hx => ?_, fun k a b ha hb => ?_, fun op hop => ?_, fun a k hk => ?_⟩
  · by_cases e : j = i
    · subst e
      rw [Deaf_own, h.deaf j hj hfj, upd_same, hd]
    · rw [Deaf_other t (g' := i) (fun x => e x.symm) _ hu, h.deaf j hj hfj, upd_ne _ _ e]
  · obtain ⟨e, hem, rfl⟩ := Conc.mem_ofEvents hop
    obtain ⟨h1, h3⟩ := (he e hem).1 x hx
    refine ⟨h1, ?_⟩
    rcases h3 with h3 | ⟨h3, h4⟩ | ⟨h3, h4⟩
    · exact .inl ⟨hi, hf, by rw [upd_same]; exact h3⟩
    · exact .inr (.inl ⟨⟨hi, hf, by rw [upd_same]; exact h3⟩, h4⟩)
    · exact .inr (.inr ⟨⟨hi, hf, by rw [upd_same]; exact h3⟩, h4⟩)
  · obtain ⟨op, hop, hox⟩ := touch_of ha
    rcases getElem?_append_cases hop with ⟨hlt, hop'⟩ | ⟨_, hopu⟩
    · have := h.seen k a b (by rw [touchAt_of hop']; exact hox) hb; omega
    · obtain ⟨e, hem, rfl⟩ := Conc.mem_ofEvents hopu
      obtain ⟨_, h3⟩ := (he e hem).1 a hox
      rcases h3 with ⟨b', h4, h5⟩ | ⟨h3, _⟩ | ⟨h3, _⟩
      · rw [hb] at h4; cases h4
        exact dens.low i b hi hf (by rw [upd_same]; exact h5)
      · have := lowS i a.loc hi hf (.inl (hst _ h3)) b hb; omega
      · have := lowS i a.loc hi hf (.inr (hsh _ h3)) b hb; omega
  · rcases Array.mem_append.1 hop with hop | hop
    · exact h.gs op hop
    · rw [hu op hop]; exact hi
  · exact (h.norel a).app (u := MemOp.ofEvents i fn pos es) (fun op hop e => by
      obtain ⟨e', hem, rfl⟩ := Conc.mem_ofEvents hop
      have := (he e' hem).2 a
      exact this (Go.ConcR.loc_of_ofEvent e)) k hk
end
end Go.Proofs.Ytgnhddnhcfmipaa.Eg
