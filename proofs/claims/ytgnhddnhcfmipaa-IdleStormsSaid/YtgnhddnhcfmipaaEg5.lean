/- Many goroutines, each under its judgement: every step of the machine; the run's end. Plain: no program here. -/
import Derived.Test.YtgnhddnhcfmipaaEg4
namespace Go.Proofs.Ytgnhddnhcfmipaa.Eg
open Go Go.Conc
open Go.ConcN (sumTo upd sumTo_upd upd_ne upd_same sumTo_congr)

section
variable {S : Sys} {Post : Value → World → Prop} {L : Law S Post} {gs : Array Goroutine} {w : World} {t : Trace} {y : Nat → S.G} {fin : Nat → Bool} {st : Nat → Stt} {n : Nat → Nat} {K : Nat} {sl : Option (Nat × Nat)}

/-- What is to be shown of a step that does not end the run. -/
def Goes1 (S : Sys) {Post : Value → World → Prop} (L : Law S Post) (μ : Mu) (t : Trace) (r : Stepped × Array MemOp) : Prop := ∃ m' μ', r.1 = .next m' ∧ MuLt μ' μ ∧ Inv S L μ' m' (t ++ r.2)

theorem deaf_ofEvents {i j : Nat} (h : j ≠ i) (fn : FuncId) (pos : String) (es : Array Event) : Deaf (t ++ MemOp.ofEvents i fn pos es) j = Deaf t j :=
  Deaf_other t (g' := i) (fun e => h e.symm) _ fun op hop => by obtain ⟨e, _, rfl⟩ := Conc.mem_ofEvents hop; rfl

theorem get_map_ne {i j : Nat} (f : Goroutine → Goroutine) (g' : Goroutine) (hne : j ≠ i) {x : Goroutine} (hx : ((gs.map f).setIfInBounds i g')[j]? = some x) : ∃ x₀, gs[j]? = some x₀ ∧ x = f x₀ := by
  rw [Array.getElem?_setIfInBounds_ne (Ne.symm hne), Array.getElem?_map] at hx
  obtain ⟨x₀, h1, h2⟩ := Option.map_eq_some_iff.1 hx
  exact ⟨x₀, h1, h2.symm⟩

/-- The measure where the budget stands and goroutine i has stepped. -/
theorem mu_own {st' : Nat → Stt} {n' : Nat → Nat} {fin' : Nat → Bool} {i : Nat} (hi : i < gs.size) (hl : live gs.size fin' = live gs.size fin)
    {wk : Bool} (h : ∀ j, j < gs.size → j ≠ i → n' j = n j ∧ (st' j = st j ∨ (wk = true ∧ st' j = .run))) (hd : weight gs.size st' n' i + gs.size + 1 ≤ weight gs.size st n i) :
    MuLt (K, live gs.size fin', sumTo gs.size (weight gs.size st' n')) (K, live gs.size fin, sumTo gs.size (weight gs.size st n)) := by
  rw [hl]
  exact .right _ (.right _ (sum_fall hi (fun j hj hne => weight_le ⟨(h j hj hne).1, (h j hj hne).2.imp id And.right⟩) hd))

/-- ONE WHO ONLY LEAVES. -/
theorem step_quit (h : InvAt S L gs w t y fin st n K) {i : Nat} {g : Goroutine} (hg : gs[i]? = some g) (hr : g.status = .running) (hst : st i = .quit) :
    Goes1 S L (K, live gs.size fin, sumTo gs.size (weight gs.size st n)) t (runT S.P (crowd gs w sl) i) := by
  have hi : i < gs.size := (Array.getElem?_eq_some_iff.1 hg).1
  have hs := h.sit i g hg
  rw [hst] at hs
  obtain ⟨hf, hi0, hq⟩ := hs
  cases hn : n i with
  | zero => rw [hn] at hq; rw [hq.1] at hr; cases hr
  | succ k =>
    rw [hn] at hq
    rcases hq with ⟨hfin, _⟩ | ⟨_, g', es, hm, hstp, hq'⟩
    · rw [hfin] at hr; cases hr
    have hrun := runT_crowd_go (P := S.P) (sl := sl) (i := i) hg (by rw [show (i == 0) = false by simpa using hi0]; exact hstp w)
    have hne : ∀ j, j ≠ i → Deaf (t ++ MemOp.ofEvents i g.frame.fn g.frame.place es) j = Deaf t j := fun j hj => deaf_ofEvents hj _ _ _
    obtain ⟨st', n', hI, h1, h2, h3⟩ := h.turn (gs' := (gs.map (woken S.P g g' w)).setIfInBounds i g') (w' := w) (t' := t ++ MemOp.ofEvents i g.frame.fn g.frame.place es) (y' := y i) (fin' := fin) (K' := K) (st₀ := .quit) (n₀ := k) (g' := g') (wk := mayWake S.P g) hi
      (by simp) (by simp [hi]) (fun j x hne hx => by
        obtain ⟨x₀, a, b⟩ := get_map_ne _ _ hne hx
        exact ⟨x₀, a, by rw [b, woken_eq hq'.status]⟩) (Nat.le_refl K) (fun _ _ => rfl) hne
      (by rw [show upd y i (y i) = y by funext j; by_cases e : j = i <;> simp [upd, e]]; exact L.mute _ _ _ _ _ _ _ _ _ _ h.cons hi hf hm)
      (fun j _ _ _ => ⟨S.refl _ _ _, fun _ a => a, fun _ _ _ _ _ _ a => a⟩)
      ⟨hf, hi0, by rw [Deaf_own]; exact hq'⟩ (fun hb => by rcases hq'.status with e | e <;> rw [e] at hb <;> cases hb)
    have hsz : ((gs.map (woken S.P g g' w)).setIfInBounds i g').size = gs.size := by simp
    refine ⟨_, _, by rw [hrun], mu_own (fin' := fin) hi rfl (h3 rfl) ?_, _, _, _, _, _, _, _, _, rfl, by rw [hrun]; exact hI, by rw [hsz]⟩
    unfold weight
    rw [h1, h2, hst, hn]
    simp [Nat.mul_succ]
    omega

theorem live_upd {sz i : Nat} (hi : i < sz) (hf : fin i = false) : live sz (upd fin i true) < live sz fin := by
  unfold live
  refine sum_fall' hi (fun j _ hne => by simp [upd_ne _ _ hne]) ?_
  simp [upd_same, hf]

/-- A communication that the family allows for. -/
def CommOk (S : Sys) {Post : Value → World → Prop} (L : Law S Post) : Prop :=
  ∀ (gs : Array Goroutine) (w : World) (t : Trace) (y : Nat → S.G) (fin : Nat → Bool) (st : Nat → Stt) (n : Nat → Nat) (K : Nat) (sl : Option (Nat × Nat)) (i : Nat) (g g₂ : Goroutine) cases shape,
    InvAt S L gs w t y fin st n K → gs[i]? = some g → st i = .run → g.status = .running → stepG S.P (i == 0) g w = .comm g₂ cases true shape w #[] → g₂.frame = g.frame → g₂.callers = g.callers → g₂.dying = g.dying → S.Offer (y i) cases shape →
    (∀ K' k v ok y' w₂, K' < K → S.R (y i) K K' w w₂ → S.Out (y i) k v ok w₂ y' → ∃ n, J S (i == 0) K' n y' (g₂.finishComm S.P cases shape k v ok) w₂) →
    Goes1 S L (K, live gs.size fin, sumTo gs.size (weight gs.size st n)) t (runT S.P (crowd gs w sl) i)

theorem deaf_two {x z : MemOp} (hx : ∃ k, x.act = .go k) (hz : z.act = .start) (j : Nat) : Deaf (t ++ #[x, z]) j = Deaf t j := by
  have e : t ++ #[x, z] = (t ++ #[x]) ++ #[z] := by apply Array.ext'; simp
  obtain ⟨k, hx⟩ := hx
  rw [e, Deaf_push, Deaf_push]
  simp [deafStep, hx, hz]

/-- A go STATEMENT. -/
theorem forked {y' yc : S.G} {K' n₂ n₃ : Nat} {g' c : Goroutine} {x z : MemOp} (h : InvAt S L gs w t y fin st n K) (hf : fin 0 = false) (hK : K' ≤ K) (hr' : g'.status = .running) (hrc : c.status = .running)
    (hc : L.Cons (gs.size + 1) (upd (upd y 0 y') gs.size yc) (upd fin gs.size false) K' w (t ++ #[x, z])) (hR : ∀ j, j < gs.size → j ≠ 0 → fin j = false → S.R (y j) K K' w w) (hx : x.g = 0 ∧ x.act = .go gs.size) (hz : z.g = gs.size ∧ z.act = .start)
    (hJ2 : J S true K' n₂ y' g' w) (hJ3 : J S false K' n₃ yc c w) :
    ∃ y fin st n K'', InvAt S L ((gs.setIfInBounds 0 g').push c) w (t ++ #[x, z]) y fin st n K'' ∧ K'' = K' := by
  have hd : ∀ j, Deaf (t ++ #[x, z]) j = Deaf t j := deaf_two ⟨_, hx.2⟩ hz.2
  have key : ∀ j, ∃ p : Stt × Nat, j ≠ 0 → ∀ x₀, gs[j]? = some x₀ → SitOk S (t ++ #[x, z]) K' j p.1 p.2 (y j) (fin j) x₀ w := by
    intro j
    by_cases hj : j < gs.size ∧ j ≠ 0
    · obtain ⟨st', n', h1, _, _⟩ := (h.sit j gs[j] (Array.getElem?_eq_getElem hj.1)).turn (t' := t ++ #[x, z]) (w' := w) (wk := false) hK (hd j) (fun hf => ⟨hR j hj.1 hj.2 hf, fun _ a => a⟩)
      refine ⟨(st', n'), fun _ x₀ hx₀ => ?_⟩
      rw [Array.getElem?_eq_getElem hj.1] at hx₀
      obtain rfl := Option.some.inj hx₀
      exact h1
    · exact ⟨(.run, 0), fun hne x₀ hx₀ => absurd ⟨(Array.getElem?_eq_some_iff.1 hx₀).1, hne⟩ hj⟩
  obtain ⟨p, hp⟩ := Classical.skolem.1 key
  have hpos := h.pos
  refine ⟨_, _, upd (upd (fun j => (p j).1) 0 .run) gs.size .run, upd (upd (fun j => (p j).2) 0 n₂) gs.size n₃, K', ⟨by simpa using hc, by simp, fun j x₀ hx₀ => ?_, ?_, fun j hj => ?_⟩, rfl⟩
  · rw [Array.getElem?_push] at hx₀
    simp only [Array.size_setIfInBounds] at hx₀
    by_cases hj : j = gs.size
    · subst hj
      simp only [if_true, Option.some.injEq] at hx₀
      subst hx₀
      rw [upd_same, upd_same, upd_same, upd_same]
      exact ⟨rfl, hrc, by rw [show (gs.size == 0) = false by rw [beq_eq_false_iff_ne]; omega]; exact hJ3⟩
    · rw [if_neg hj] at hx₀
      rw [upd_ne _ _ hj, upd_ne _ _ hj, upd_ne _ _ hj, upd_ne _ _ hj]
      by_cases h0 : j = 0
      · subst h0
        rw [Array.getElem?_setIfInBounds_self_of_lt hpos] at hx₀
        obtain rfl := Option.some.inj hx₀
        rw [upd_same, upd_same, upd_same]
        exact ⟨hf, hr', hJ2⟩
      · rw [upd_ne _ _ h0, upd_ne _ _ h0, upd_ne _ _ h0]
        rw [Array.getElem?_setIfInBounds_ne (Ne.symm h0)] at hx₀
        exact hp j h0 x₀ hx₀
  · refine h.calm.sub fun j x₀ hx₀ hb cs sh ho => ?_
    rw [Array.getElem?_push] at hx₀
    simp only [Array.size_setIfInBounds] at hx₀
    by_cases hj : j = gs.size
    · subst hj
      simp only [if_true, Option.some.injEq] at hx₀
      subst hx₀
      rw [hrc] at hb; cases hb
    · rw [if_neg hj] at hx₀
      by_cases h0 : j = 0
      · subst h0
        rw [Array.getElem?_setIfInBounds_self_of_lt hpos] at hx₀
        obtain rfl := Option.some.inj hx₀
        rw [hr'] at hb; cases hb
      · rw [Array.getElem?_setIfInBounds_ne (Ne.symm h0)] at hx₀
        exact ⟨hx₀, (h.calm j x₀ cs sh hx₀ hb ho).1⟩
  · rw [hd]
    exact h.above j (by simp at hj; omega)

/-- ████ EVERY STEP OF THE MACHINE. ████ -/
theorem inv_step (hcomm : CommOk S L) (μ : Mu) (m : Machine) (t : Trace) (h : Inv S L μ m t) :
    (∃ o w ops, stepT S.P m = (.ended o w, ops) ∧ Good S.P Post m o w (t ++ ops)) ∨ (∃ m' ops μ', stepT S.P m = (.next m', ops) ∧ MuLt μ' μ ∧ Inv S L μ' m' (t ++ ops)) := by
  obtain ⟨gs, w, sl, y, fin, st, n, K, rfl, h, rfl⟩ := h
  have some1 : ∃ (i : Nat) (g : Goroutine), gs[i]? = some g ∧ g.status = .running := by
    by_cases hx : ∃ (i : Nat) (g : Goroutine), gs[i]? = some g ∧ g.status = .running
    · exact hx
    · exact (L.alive gs y fin K w t h.cons h.pos h.calm fun i g hg => (h.sit i g hg).idle fun hr => hx ⟨i, g, hg, hr⟩).elim
  have haw : ∀ g ∈ gs, awake g := fun g hg => by
    obtain ⟨i, hi, rfl⟩ := Array.mem_iff_getElem.1 hg
    exact (h.sit i _ (Array.getElem?_eq_getElem hi)).awake
  obtain ⟨i, g, d, sl', hg, hr, hst⟩ := crowd_pick (P := S.P) (w := w) (sl := sl) haw some1
  rw [hst]
  have h0 := h
  replace h := h.at d
  obtain ⟨w₁, hw⟩ : ∃ w₁, w₁ = w.at d := ⟨_, rfl⟩
  rw [← hw] at h ⊢
  have hi : i < gs.size := (Array.getElem?_eq_some_iff.1 hg).1
  have hs := h.sit i g hg
  have fin1 : Goes1 S L (K, live gs.size fin, sumTo gs.size (weight gs.size st n)) t (runT S.P (crowd gs w₁ sl') i) →
      (∃ o w₂ ops, runT S.P (crowd gs w₁ sl') i = (.ended o w₂, ops) ∧ Good S.P Post (crowd gs w sl) o w₂ (t ++ ops)) ∨ (∃ m' ops μ', runT S.P (crowd gs w₁ sl') i = (.next m', ops) ∧ MuLt μ' (K, live gs.size fin, sumTo gs.size (weight gs.size st n)) ∧ Inv S L μ' m' (t ++ ops)) := by
    rintro ⟨m', μ', h1, h2, h3⟩
    exact .inr ⟨m', _, μ', Prod.ext h1 rfl, h2, h3⟩
  cases hsti : st i with
  | blk => rw [hsti] at hs; rw [hs.2.1] at hr; cases hr
  | park => rw [hsti] at hs; obtain ⟨_, g₂, cs, sh, rfl, _⟩ := hs; cases hr
  | quit => exact fin1 (step_quit h hg hr hsti)
  | run =>
    rw [hsti] at hs
    obtain ⟨hf, _, hJ⟩ := hs
    rcases hJ.open_.2 with ⟨hi0, q, dd, hq, hl⟩ | ⟨n₁, hn₁, _, hnx⟩
    · -- it only leaves from here
      have hi0' : i ≠ 0 := by simpa using hi0
      obtain ⟨rfl, hc⟩ := L.leave _ _ _ _ _ _ _ _ h.cons hi hi0' hf (hl w₁ (S.refl _ _ _))
      have h' : InvAt S L gs w₁ t y (upd fin i true) (upd st i .quit) (upd n i q) K := by
        refine ⟨hc, h.pos, fun j x hx => ?_, h.calm, h.above⟩
        by_cases hji : j = i
        · subst hji
          rw [hg] at hx
          obtain rfl := Option.some.inj hx
          rw [upd_same, upd_same, upd_same]
          exact ⟨rfl, hi0', hq⟩
        · rw [upd_ne _ _ hji, upd_ne _ _ hji, upd_ne _ _ hji]
          exact h.sit j x hx
      obtain ⟨m', μ', h1, h2, h3⟩ := step_quit (sl := sl') h' hg hr (upd_same _ _ _)
      have hlt := live_upd (fin := fin) hi hf
      refine fin1 ⟨m', μ', h1, ?_, h3⟩
      obtain ⟨a, b, c⟩ := μ'
      cases h2 with
      | left _ _ x => exact .left _ _ x
      | right _ x =>
        refine .right _ ?_
        cases x with
        | left _ _ x => exact .left _ _ (by omega)
        | right _ x => exact .left _ _ hlt
    · have hnx := hnx w₁ (S.refl _ _ _)
      unfold Nxt at hnx
      cases hgo : stepG S.P (i == 0) g w₁ with
      | go g' w' es =>
        rw [hgo] at hnx
        have hrun := runT_crowd_go (P := S.P) (sl := sl') (i := i) hg hgo
        have hne : ∀ j, j ≠ i → Deaf (t ++ MemOp.ofEvents i g.frame.fn g.frame.place es) j = Deaf t j := fun j hj => deaf_ofEvents hj _ _ _
        have hsz : ((gs.map (woken S.P g g' w')).setIfInBounds i g').size = gs.size := by simp
        rcases hnx with ⟨hr', y', K', hD, hK⟩ | ⟨hb, ho, h1, h2, h3, rfl, rfl, hM⟩ | ⟨hi0, y', K', q, d, hE, hKle, hQ⟩
        · -- it goes on
          have hKle : K' ≤ K := by rcases hK with ⟨e, _⟩ | ⟨e, _⟩ <;> omega
          obtain ⟨hc, hR⟩ := L.own _ _ _ _ _ _ _ _ _ _ _ _ g.frame.fn g.frame.place h.cons hi hf hKle hD
          obtain ⟨n₀, hJ', hn₀⟩ : ∃ n₀, J S (i == 0) K' n₀ y' g' w' ∧ (K' = K → n₀ = n₁) := by
            rcases hK with ⟨rfl, hJ'⟩ | ⟨hlt, n₀, hJ'⟩
            · exact ⟨n₁, hJ', fun _ => rfl⟩
            · exact ⟨n₀, hJ', fun e => by omega⟩
          obtain ⟨st', n', hI, e1, e2, e3⟩ := h.turn (gs' := (gs.map (woken S.P g g' w')).setIfInBounds i g') (w' := w') (t' := t ++ MemOp.ofEvents i g.frame.fn g.frame.place es) (y' := y') (fin' := fin) (K' := K') (st₀ := .run) (n₀ := n₀) (g' := g') (wk := mayWake S.P g) hi
            hsz (by simp [hi]) (fun j x hne hx => by
              obtain ⟨x₀, a, b⟩ := get_map_ne _ _ hne hx
              exact ⟨x₀, a, by rw [b, woken_eq (.inl hr')]⟩) hKle (fun _ _ => rfl) hne hc hR ⟨hf, hr', hJ'⟩ (fun hb => by rw [hr'] at hb; cases hb)
          refine fin1 ⟨_, _, by rw [hrun], ?_, _, _, _, _, _, _, _, _, rfl, by rw [hrun]; exact hI, rfl⟩
          rcases Nat.lt_or_eq_of_le hKle with hlt | rfl
          · exact .left _ _ hlt
          · rw [hsz]
            refine mu_own (fin' := fin) hi rfl (e3 rfl) ?_
            unfold weight
            rw [e1, e2, hsti, hn₀ rfl, hn₁]
            simp [Nat.mul_succ]
            omega
        · -- it falls asleep
          have hw' : (gs.map (woken S.P g g' w')).setIfInBounds i g' = gs.setIfInBounds i g' := by
            have : woken S.P g g' w' = id := by funext o; simp [woken, hb]
            rw [this, Array.map_id]
          have hq : ∀ q d, (i == 0) = false → ¬ QuitsD S.P q d g := by
            intro q d e hq
            cases q with
            | zero => rw [hq.1] at hr; cases hr
            | succ q =>
              rcases hq with ⟨e1, _⟩ | ⟨_, g₃, es₃, _, h5, h6⟩
              · rw [e1] at hr; cases hr
              · rw [e] at hgo
                rw [h5] at hgo
                have : g₃ = g' := by injection hgo
                subst this
                rcases h6.status with e2 | e2 <;> rw [e2] at hb <;> cases hb
          have hJ' : J S (i == 0) K (n i) (y i) { g' with status := .running } w' := hJ.same h1 h2 h3 rfl hq
          obtain ⟨st', n', hI, e1, e2, e3⟩ := h.turn (gs' := gs.setIfInBounds i g') (w' := w') (t' := t) (y' := y i) (fin' := fin) (K' := K) (st₀ := .blk) (n₀ := n i) (g' := g') (wk := false) hi
            (by simp) (by simp [hi]) (fun j x hne hx => by
              rw [Array.getElem?_setIfInBounds_ne (Ne.symm hne)] at hx
              exact ⟨x, hx, rfl⟩) (Nat.le_refl K) (fun _ _ => rfl) (fun _ _ => rfl)
            (by rw [show upd y i (y i) = y by funext j; by_cases e : j = i <;> simp [upd, e]]; exact h.cons)
            (fun j _ _ _ => ⟨S.refl _ _ _, fun _ a => a, fun _ _ _ _ _ _ a => a⟩) ⟨hf, hb, ho, hM, hJ'⟩ (fun _ => ho)
          refine fin1 ⟨_, _, by rw [hrun, hw'], ?_, _, _, _, _, _, _, _, _, rfl, by rw [hrun, ofEvents_none, Array.append_empty]; exact hI, rfl⟩
          have hszz : (gs.setIfInBounds i g').size = gs.size := by simp
          rw [hszz]
          refine .right _ (.right _ (sum_fall' hi (fun j hj hne => ?_) ?_))
          · have := e3 rfl j hj hne
            unfold weight
            rw [this.1, this.2.resolve_right (by simp)]
          · unfold weight
            rw [e1, e2, hsti]
            simp
        · -- behind this step it only leaves
          have hi0' : i ≠ 0 := by simpa using hi0
          obtain ⟨rfl, hc, hR⟩ := L.exit _ _ _ _ _ _ _ _ _ _ _ _ _ g.frame.fn g.frame.place h.cons hi hi0' hf hKle hE
          obtain ⟨st', n', hI, e1, e2, e3⟩ := h.turn (gs' := (gs.map (woken S.P g g' w')).setIfInBounds i g') (w' := w') (t' := t ++ MemOp.ofEvents i g.frame.fn g.frame.place es) (y' := y') (fin' := upd fin i true) (K' := K') (st₀ := .quit) (n₀ := q) (g' := g') (wk := mayWake S.P g) hi
            hsz (by simp [hi]) (fun j x hne hx => by
              obtain ⟨x₀, a, b⟩ := get_map_ne _ _ hne hx
              exact ⟨x₀, a, by rw [b, woken_eq hQ.status]⟩) hKle (fun j hne => upd_ne _ _ hne) hne hc hR ⟨upd_same _ _ _, hi0', hQ⟩ (fun hb => by rcases hQ.status with e | e <;> rw [e] at hb <;> cases hb)
          refine fin1 ⟨_, _, by rw [hrun], ?_, _, _, _, _, _, _, _, _, rfl, by rw [hrun]; exact hI, rfl⟩
          rcases Nat.lt_or_eq_of_le hKle with hlt | rfl
          · exact .left _ _ hlt
          · rw [hsz]
            exact .right _ (.left _ _ (live_upd hi hf))
      | spawn g' c w' es =>
        rw [hgo] at hnx
        obtain ⟨hi0, rfl, rfl, hr', hrc, y', yc, K', hK, hF, ⟨n₂, hJ2⟩, ⟨n₃, hJ3⟩⟩ := hnx
        have hi0' : i = 0 := by simpa using hi0
        subst hi0'
        have hrun := runT_crowd_spawn (P := S.P) (sl := sl') (i := 0) hg hgo
        obtain ⟨hc, hR⟩ := L.fork _ _ _ _ _ _ _ _ _ { g := 0, fn := g.frame.fn, pos := g.frame.place, act := .go gs.size } { g := gs.size, fn := c.frame.fn, pos := g.frame.place, act := .start } h.cons h.pos hf hK hF ⟨rfl, rfl⟩ ⟨rfl, rfl⟩
        suffices hx : ∃ y fin st n K'', InvAt S L ((gs.setIfInBounds 0 g').push c) w' (t ++ (runT S.P (crowd gs w' sl') 0).2) y fin st n K'' ∧ K'' = K' by
          obtain ⟨y₂, fin₂, st₂, n₂, K₂, hI, rfl⟩ := hx
          exact fin1 ⟨_, _, by rw [hrun], .left _ _ hK, _, w', sl', y₂, fin₂, st₂, n₂, K₂, rfl, hI, rfl⟩
        have et : t ++ (runT S.P (crowd gs w' sl') 0).2 = t ++ #[{ g := 0, fn := g.frame.fn, pos := g.frame.place, act := .go gs.size }, { g := gs.size, fn := c.frame.fn, pos := g.frame.place, act := .start }] := by
          rw [hrun, ofEvents_none]; rfl
        rw [et]
        exact forked (K' := K') h hf (Nat.le_of_lt hK) hr' hrc hc hR ⟨rfl, rfl⟩ ⟨rfl, rfl⟩ hJ2 hJ3
      | comm g₂ cases blocking shape w' es =>
        rw [hgo] at hnx
        obtain ⟨rfl, rfl, rfl, h3, h4, h5, h6, h7⟩ := hnx
        exact fin1 (hcomm gs w' t y fin st n K sl' i g g₂ cases shape h hg hsti hr hgo h3 h4 h5 h6 h7)
      | ended o w' es =>
        rw [hgo] at hnx
        obtain ⟨hi0, rfl, v, rfl, hE⟩ := hnx
        have hi0' : i = 0 := by simpa using hi0
        subst hi0'
        have hrun := runT_many_ended (P := S.P) (sl := sl') (i := 0) hg hgo
        obtain ⟨hall, hp, hrace, hover⟩ := L.ended _ _ _ _ _ _ _ _ g.frame.fn g.frame.place h.cons hf hE
        have hq : ∀ j x, j ≠ 0 → gs[j]? = some x → QuitsD S.P (n j) (Deaf t j) x := fun j x hj hx => by
          have hlt : j < gs.size := (Array.getElem?_eq_some_iff.1 hx).1
          have hs := h0.sit j x hx
          have hfj := hall j hlt hj
          cases hst : st j with
          | quit => rw [hst] at hs; exact hs.2.2
          | run => rw [hst] at hs; rw [hs.1] at hfj; cases hfj
          | blk => rw [hst] at hs; rw [hs.1] at hfj; cases hfj
          | park => rw [hst] at hs; rw [hs.1] at hfj; cases hfj
        refine .inl ⟨_, _, _, hrun, v, rfl, hp, hrace, hover, ⟨fun x hx => ?_, rfl⟩, fun j x hx hj => ?_⟩
        · obtain ⟨j, hj⟩ := List.mem_iff_getElem?.1 hx
          rw [List.getElem?_drop] at hj
          exact ⟨_, (hq (1 + j) x (by omega) (by simpa [crowd] using hj)).leaves⟩
        · have hqj := hq j x hj hx
          refine ⟨n j, ?_⟩
          have e : (t ++ MemOp.ofEvents 0 g.frame.fn g.frame.place es).deaf j (t ++ MemOp.ofEvents 0 g.frame.fn g.frame.place es).size = Deaf t j := deaf_ofEvents hj _ _ _
          rw [e]
          exact hqj.hears _
      | _ => rw [hgo] at hnx; exact hnx.elim

/-- ████ THE RUN ENDS, AND WELL: on every tape. ████ -/
theorem eng_ends (hcomm : CommOk S L) {μ : Mu} {m : Machine} {t : Trace} (h : Inv S L μ m t) :
    ∃ N last o w' t', runNT S.P (N + 1) m t = (.ended o w', t') ∧ runN S.P N m = .next last ∧ step S.P last = .ended o w' ∧ Good S.P Post last o w' t' :=
  run_of_inv muWf (Inv S L) (Good S.P Post) (inv_step hcomm) μ m t h

/-- From one goroutine alone. -/
theorem eng_start (hcomm : CommOk S L) {a : Goroutine} {y₀ : S.G} (hr : a.status = .running) (hJ : J S true K (n 0) y₀ a w) (hc : L.Cons 1 (fun _ => y₀) (fun _ => false) K w #[]) :
    ∃ N last o w' t', runNT S.P (N + 1) (solo a w) #[] = (.ended o w', t') ∧ runN S.P N (solo a w) = .next last ∧ step S.P last = .ended o w' ∧ Good S.P Post last o w' t' := by
  refine eng_ends hcomm (μ := _) ⟨#[a], w, none, fun _ => y₀, fun _ => false, fun _ => .run, n, K, rfl, ⟨hc, by simp, fun i g hg => ?_, fun i g cs sh hi hb ho => ?_, fun _ _ => rfl⟩, rfl⟩
  · have hi : i < 1 := (Array.getElem?_eq_some_iff.1 hg).1
    obtain rfl : i = 0 := by omega
    simp at hg
    subst hg
    exact ⟨rfl, hr, hJ⟩
  · have hlt : i < 1 := (Array.getElem?_eq_some_iff.1 hi).1
    obtain rfl : i = 0 := by omega
    simp at hi
    subst hi
    rw [hr] at hb; cases hb
end
end Go.Proofs.Ytgnhddnhcfmipaa.Eg
