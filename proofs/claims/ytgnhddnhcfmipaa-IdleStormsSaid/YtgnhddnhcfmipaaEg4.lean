/- Many goroutines, each under its judgement: every step of the machine; the run's end. Plain: no program here. -/
import Derived.Test.YtgnhddnhcfmipaaEg3
namespace Go.Proofs.Ytgnhddnhcfmipaa.Eg
open Go Go.Conc
open Go.ConcN (sumTo upd sumTo_upd upd_ne upd_same sumTo_congr)

section
variable {S : Sys} {Post : Value → World → Prop} {L : Law S Post} {gs : Array Goroutine} {w : World} {t : Trace} {y : Nat → S.G} {fin : Nat → Bool} {st : Nat → Stt} {n : Nat → Nat} {K : Nat} {sl : Option (Nat × Nat)}

theorem SitOk.at (L : Law S Post) {i : Nat} {st : Stt} {n : Nat} {y : S.G} {fin : Bool} {g : Goroutine} (h : SitOk S t K i st n y fin g w) (d : Nat) : SitOk S t K i st n y fin g (w.at d) := by
  have r := L.relyAt y K w d
  cases st with
  | run => exact ⟨h.1, h.2.1, h.2.2.rely r⟩
  | blk => exact ⟨h.1, h.2.1, h.2.2.1, L.mayAt _ _ _ h.2.2.2.1, h.2.2.2.2.rely r⟩
  | park =>
    obtain ⟨h1, g₂, cs, sh, h3, h4, h5, h6⟩ := h
    exact ⟨h1, g₂, cs, sh, h3, h4, h5.rely r, fun K₂ k v ok y' w₂ a b c => h6 K₂ k v ok y' w₂ a (S.trans _ _ _ _ _ _ _ r b) c⟩
  | quit => exact h

theorem InvAt.at (h : InvAt S L gs w t y fin st n K) (d : Nat) : InvAt S L gs (w.at d) t y fin st n K :=
  ⟨L.at_ _ _ _ _ _ _ _ h.cons, h.pos, fun i g hg => (h.sit i g hg).at L d, h.calm, h.above⟩

/-- Of the blocked ones each was there before. -/
theorem Calm.sub {gs' : Array Goroutine} {w' : World} (h : Calm gs w) (hs : ∀ (j : Nat) (x : Goroutine), gs'[j]? = some x → x.status = .blocked → ∀ cs sh, x.offers = some (cs, sh) → gs[j]? = some x ∧ ∀ c ∈ cs, shut w' c = false) : Calm gs' w' := by
  intro i g cs sh hi hb ho
  obtain ⟨h1, h2⟩ := hs i g hi hb cs sh ho
  refine ⟨h2, fun j x cs' sh' hne hj hb' ho' => ?_⟩
  exact (h i g cs sh h1 hb ho).2 j x cs' sh' hne (hs j x hj hb' cs' sh' ho').1 hb' ho'

theorem SitOk.offer {i : Nat} {st : Stt} {n : Nat} {y : S.G} {fin : Bool} {g : Goroutine} (h : SitOk S t K i st n y fin g w) (hb : g.status = .blocked) {cs : Array CommCase} {sh : CommShape} (ho : g.offers = some (cs, sh)) : fin = false ∧ S.Offer y cs sh := by
  cases st with
  | run => rw [h.2.1] at hb; cases hb
  | blk => rw [h.2.2.1] at ho; cases ho
  | park =>
    obtain ⟨h1, g₂, cs', sh', rfl, h4, _⟩ := h
    simp only [parked, Option.some.injEq, Prod.mk.injEq] at ho
    obtain ⟨rfl, rfl⟩ := ho
    exact ⟨h1, h4⟩
  | quit => rcases h.2.2.status with h | h <;> rw [h] at hb <;> cases hb

theorem SitOk.idle {i : Nat} {st : Stt} {n : Nat} {y : S.G} {fin : Bool} {g : Goroutine} (h : SitOk S t K i st n y fin g w) (hr : g.status ≠ .running) :
    fin = true ∨ (fin = false ∧ g.status = .blocked ∧ ((g.offers = none ∧ S.MayBlock y w) ∨ ∃ cs sh, g.offers = some (cs, sh) ∧ S.Offer y cs sh)) := by
  cases st with
  | run => exact absurd h.2.1 hr
  | blk => exact .inr ⟨h.1, h.2.1, .inl ⟨h.2.2.1, h.2.2.2.1⟩⟩
  | park =>
    obtain ⟨h1, g₂, cs', sh', rfl, h4, _⟩ := h
    exact .inr ⟨h1, rfl, .inr ⟨cs', sh', rfl, h4⟩⟩
  | quit => exact .inl h.1

theorem SitOk.awake {i : Nat} {st : Stt} {n : Nat} {y : S.G} {fin : Bool} {g : Goroutine} (h : SitOk S t K i st n y fin g w) : Conc.awake g := by
  intro tm
  cases st with
  | run => rw [h.2.1]; simp
  | blk => rw [h.2.1]; simp
  | park => obtain ⟨_, g₂, cs', sh', rfl, _⟩ := h; simp [parked]
  | quit => rcases h.2.2.status with h | h <;> rw [h] <;> simp

/-- The others' wakening, as the machine spells it. -/
theorem woken_eq {g g' o : Goroutine} {w' : World} (hb : g'.status = .running ∨ g'.status = .finished) : woken S.P g g' w' o = if mayWake S.P g then o.again w' else o := by
  unfold woken
  have : (g'.status != .blocked && g'.status != .waiting) = true := by rcases hb with h | h <;> rw [h] <;> rfl
  rw [Bool.and_assoc, this, Bool.and_true]

/-- ████ WHOEVER HAS STEPPED: the invariant anew, where the others are turned and one is laid anew. ████ -/
theorem InvAt.turn {gs' : Array Goroutine} {w' : World} {t' : Trace} {y' : S.G} {fin' : Nat → Bool} {K' i : Nat} {st₀ : Stt} {n₀ : Nat} {g' : Goroutine} {wk : Bool} (h : InvAt S L gs w t y fin st n K) (hi : i < gs.size)
    (hsz : gs'.size = gs.size) (hg' : gs'[i]? = some g') (hgs : ∀ (j : Nat) (x : Goroutine), j ≠ i → gs'[j]? = some x → ∃ x₀, gs[j]? = some x₀ ∧ x = if wk then x₀.again w' else x₀)
    (hK : K' ≤ K) (hfin : ∀ j, j ≠ i → fin' j = fin j) (hd : ∀ j, j ≠ i → Deaf t' j = Deaf t j) (hc : L.Cons gs.size (upd y i y') fin' K' w' t')
    (hR : ∀ j, j < gs.size → j ≠ i → fin j = false → S.R (y j) K K' w w' ∧ (wk = false → S.MayBlock (y j) w → S.MayBlock (y j) w') ∧ (wk = false → ∀ cs sh, S.Offer (y j) cs sh → ∀ c ∈ cs, shut w c = false → shut w' c = false))
    (hs : SitOk S t' K' i st₀ n₀ y' (fin' i) g' w') (hnb : g'.status = .blocked → g'.offers = none) :
    ∃ st' n', InvAt S L gs' w' t' (upd y i y') fin' st' n' K' ∧ st' i = st₀ ∧ n' i = n₀ ∧ (K' = K → ∀ j, j < gs.size → j ≠ i → n' j = n j ∧ (st' j = st j ∨ (wk = true ∧ st' j = .run))) := by
  have key : ∀ j, ∃ p : Stt × Nat, (j ≠ i → ∀ x, gs'[j]? = some x → SitOk S t' K' j p.1 p.2 (y j) (fin j) x w') ∧ (j ≠ i → j < gs.size → K' = K → p.2 = n j ∧ (p.1 = st j ∨ (wk = true ∧ p.1 = .run))) := by
    intro j
    by_cases hj : j < gs.size ∧ j ≠ i
    · have hlt : j < gs'.size := by omega
      obtain ⟨x₀, hx₀, hx⟩ := hgs j gs'[j] hj.2 (Array.getElem?_eq_getElem hlt)
      obtain ⟨st', n', h1, h2, _⟩ := (h.sit j x₀ hx₀).turn (t' := t') (w' := w') (wk := wk) hK (hd j hj.2) (fun hf => ⟨(hR j hj.1 hj.2 hf).1, (hR j hj.1 hj.2 hf).2.1⟩)
      refine ⟨(st', n'), fun _ x hx' => ?_, fun _ _ e => h2 e⟩
      rw [Array.getElem?_eq_getElem hlt] at hx'
      obtain rfl := Option.some.inj hx'
      rw [hx]; exact h1
    · refine ⟨(.run, 0), fun hne x hx => ?_, fun hne hlt => absurd ⟨hlt, hne⟩ hj⟩
      have : j < gs'.size := (Array.getElem?_eq_some_iff.1 hx).1
      exact absurd ⟨by omega, hne⟩ hj
  obtain ⟨p, hp⟩ := Classical.skolem.1 key
  refine ⟨upd (fun j => (p j).1) i st₀, upd (fun j => (p j).2) i n₀, ⟨by rw [hsz]; exact hc, by rw [hsz]; exact h.pos, fun j x hx => ?_, ?_, fun j hj => ?_⟩, upd_same _ _ _, upd_same _ _ _, fun e j hj hne => ?_⟩
  · by_cases hji : j = i
    · subst hji
      rw [hg'] at hx
      obtain rfl := Option.some.inj hx
      rw [upd_same, upd_same, upd_same]; exact hs
    · rw [upd_ne _ _ hji, upd_ne _ _ hji, upd_ne _ _ hji, hfin j hji]
      exact (hp j).1 hji x hx
  · refine h.calm.sub fun j x hx hb cs sh ho => ?_
    by_cases hji : j = i
    · subst hji
      rw [hg'] at hx
      obtain rfl := Option.some.inj hx
      rw [hnb hb] at ho; cases ho
    · obtain ⟨x₀, hx₀, hx'⟩ := hgs j x hji hx
      have hlt : j < gs.size := (Array.getElem?_eq_some_iff.1 hx₀).1
      cases wk with
      | false =>
        simp only [Bool.false_eq_true, if_false] at hx'
        subst hx'
        obtain ⟨hf, hO⟩ := (h.sit j x hx₀).offer hb ho
        exact ⟨hx₀, fun c hc => (hR j hlt hji hf).2.2 rfl cs sh hO c hc ((h.calm j x cs sh hx₀ hb ho).1 c hc)⟩
      | true =>
        simp only [if_true] at hx'
        -- it is blocked behind 'again': it was, and its channels are open
        have hsit := h.sit j x₀ hx₀
        cases hst : st j with
        | run => rw [hst] at hsit; rw [hx'] at hb; simp [Goroutine.again, hsit.2.1] at hb
        | blk => rw [hst] at hsit; rw [hx'] at hb; simp [Goroutine.again, hsit.2.1, hsit.2.2.1] at hb
        | park =>
          rw [hst] at hsit
          obtain ⟨_, g₂, cs', sh', rfl, _⟩ := hsit
          by_cases hs : ∃ c ∈ cs', shut w' c = true
          · obtain ⟨c, hc, hs⟩ := hs
            rw [hx', again_parked_shut hc hs] at hb; cases hb
          · have ho' : ∀ c ∈ cs', shut w' c = false := fun c hc => by
              cases h : shut w' c with
              | false => rfl
              | true => exact absurd ⟨c, hc, h⟩ hs
            rw [again_parked_open ho'] at hx'
            subst hx'
            simp only [parked, Option.some.injEq, Prod.mk.injEq] at ho
            obtain ⟨rfl, rfl⟩ := ho
            exact ⟨hx₀, ho'⟩
        | quit =>
          rw [hst] at hsit
          have := again_running w' hsit.2.2.status
          rw [hx', this] at hb
          rcases hsit.2.2.status with h | h <;> rw [h] at hb <;> cases hb
  · have : j ≠ i := by rw [hsz] at hj; omega
    rw [hd j this]; exact h.above j (by rw [hsz] at hj; exact hj)
  · rw [upd_ne _ _ hne, upd_ne _ _ hne]; exact (hp j).2 hne hj e

theorem weight_le {sz : Nat} {st st' : Nat → Stt} {n n' : Nat → Nat} {j : Nat} (h : n' j = n j ∧ (st' j = st j ∨ st' j = .run)) : weight sz st' n' j ≤ weight sz st n j + 1 := by
  unfold weight
  rw [h.1]
  rcases h.2 with e | e <;> rw [e] <;> (repeat' split) <;> omega
end
end Go.Proofs.Ytgnhddnhcfmipaa.Eg
