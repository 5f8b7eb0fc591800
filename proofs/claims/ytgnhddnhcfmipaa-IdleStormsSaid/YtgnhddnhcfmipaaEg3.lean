/- Many goroutines, each under its judgement: the machine's invariant; whoever steps. Plain: no program here. -/
import Derived.Test.YtgnhddnhcfmipaaEg2
import Derived.Conc.CrowdBase
import Derived.Conc.Beside
namespace Go.Proofs.Ytgnhddnhcfmipaa.Eg
open Go Go.Conc
open Go.ConcN (sumTo upd sumTo_upd upd_ne upd_same)

inductive Stt where
  | run | blk | park | quit
  deriving DecidableEq

/-- The communication's channel is closed. -/
def shut (w : World) (c : CommCase) : Bool := match c.chan with
  | .chan (some r) => (w.heap[r]? matches some (.chan _ _ true ..))
  | _ => false

/-- What is held of goroutine i. -/
def SitOk (S : Sys) (t : Trace) (K i : Nat) (st : Stt) (n : Nat) (y : S.G) (fin : Bool) (g : Goroutine) (w : World) : Prop :=
  match st with
  | .run => fin = false ∧ g.status = .running ∧ J S (i == 0) K n y g w
  | .blk => fin = false ∧ g.status = .blocked ∧ g.offers = none ∧ S.MayBlock y w ∧ J S (i == 0) K n y { g with status := .running } w
  | .park => fin = false ∧ ∃ g₂ cases shape, g = parked g₂ cases shape ∧ S.Offer y cases shape ∧ J S (i == 0) K n y { g with status := .running } w ∧
      ∀ K' k v ok y' w₂, K' < K → S.R y K K' w w₂ → S.Out y k v ok w₂ y' → ∃ n, J S (i == 0) K' n y' (g₂.finishComm S.P cases shape k v ok) w₂
  | .quit => fin = true ∧ i ≠ 0 ∧ QuitsD S.P n (Deaf t i) g

def fits (c c' : CommCase) : Prop := ∃ r, c.chan = .chan (some r) ∧ c'.chan = .chan (some r) ∧ c.send.isSome ≠ c'.send.isSome

/-- Nobody who is parked could be served. -/
def Calm (gs : Array Goroutine) (w : World) : Prop :=
  ∀ (i : Nat) (g : Goroutine) cs sh, gs[i]? = some g → g.status = .blocked → g.offers = some (cs, sh) → (∀ c ∈ cs, shut w c = false) ∧
    ∀ (j : Nat) (h : Goroutine) cs' sh', j ≠ i → gs[j]? = some h → h.status = .blocked → h.offers = some (cs', sh') → ∀ c ∈ cs, ∀ c' ∈ cs', ¬ fits c c'

/-- What the goroutines' ghosts say together, with the world and the trace. -/
structure Law (S : Sys) (Post : Value → World → Prop) where
  Cons : Nat → (Nat → S.G) → (Nat → Bool) → Nat → World → Trace → Prop
  at_ : ∀ sz y fin K w t d, Cons sz y fin K w t → Cons sz y fin K (w.at d) t
  relyAt : ∀ y K w d, S.R y K K w (w.at d)
  mayAt : ∀ y w d, S.MayBlock y w → S.MayBlock y (w.at d)
  own : ∀ sz y fin K w t i y' K' w' es wk fn pos, Cons sz y fin K w t → i < sz → fin i = false → K' ≤ K → S.D (y i) K w y' K' w' es wk →
    Cons sz (upd y i y') fin K' w' (t ++ MemOp.ofEvents i fn pos es) ∧ ∀ j, j < sz → j ≠ i → fin j = false → S.R (y j) K K' w w' ∧ (wk = false → S.MayBlock (y j) w → S.MayBlock (y j) w') ∧
      (wk = false → ∀ cs sh, S.Offer (y j) cs sh → ∀ c ∈ cs, shut w c = false → shut w' c = false)
  fork : ∀ sz y fin K w t y' yc K' x z, Cons sz y fin K w t → 0 < sz → fin 0 = false → K' < K → S.Fork (y 0) K w y' yc K' → x.g = 0 ∧ x.act = .go sz → z.g = sz ∧ z.act = .start →
    Cons (sz + 1) (upd (upd y 0 y') sz yc) (upd fin sz false) K' w (t ++ #[x, z]) ∧ ∀ j, j < sz → j ≠ 0 → fin j = false → S.R (y j) K K' w w
  leave : ∀ sz y fin K w t i d, Cons sz y fin K w t → i < sz → i ≠ 0 → fin i = false → S.Leave (y i) d → d = Deaf t i ∧ Cons sz y (upd fin i true) K w t
  exit : ∀ sz y fin K w t i y' K' w' es wk d fn pos, Cons sz y fin K w t → i < sz → i ≠ 0 → fin i = false → K' ≤ K → S.Exit (y i) K w y' K' w' es wk d →
    d = Deaf (t ++ MemOp.ofEvents i fn pos es) i ∧ Cons sz (upd y i y') (upd fin i true) K' w' (t ++ MemOp.ofEvents i fn pos es) ∧ ∀ j, j < sz → j ≠ i → fin j = false → S.R (y j) K K' w w' ∧ (wk = false → S.MayBlock (y j) w → S.MayBlock (y j) w') ∧
      (wk = false → ∀ cs sh, S.Offer (y j) cs sh → ∀ c ∈ cs, shut w c = false → shut w' c = false)
  mute : ∀ sz y fin K w t i es fn pos, Cons sz y fin K w t → i < sz → fin i = true → (∀ e ∈ es, Event.mute e = true) → Cons sz y fin K w (t ++ MemOp.ofEvents i fn pos es)
  ended : ∀ sz y fin K w t v es fn pos, Cons sz y fin K w t → fin 0 = false → S.End (y 0) K w v es → (∀ j, j < sz → j ≠ 0 → fin j = true) ∧ Post v w ∧
    (∀ said, ¬ Race said (t ++ MemOp.ofEvents 0 fn pos es)) ∧ Trace.HandedOver (t ++ MemOp.ofEvents 0 fn pos es)
  alive : ∀ (gs : Array Goroutine) y fin K w t, Cons gs.size y fin K w t → 0 < gs.size → Calm gs w →
    (∀ i g, gs[i]? = some g → fin i = true ∨ (fin i = false ∧ g.status = .blocked ∧ ((g.offers = none ∧ S.MayBlock (y i) w) ∨ ∃ cs sh, g.offers = some (cs, sh) ∧ S.Offer (y i) cs sh))) → False

def weight (sz : Nat) (st : Nat → Stt) (n : Nat → Nat) (i : Nat) : Nat := (sz + 1) * n i + if st i = .run then 1 else 0
def live (sz : Nat) (fin : Nat → Bool) : Nat := sumTo sz fun i => if fin i then 0 else 1

structure InvAt (S : Sys) {Post : Value → World → Prop} (L : Law S Post) (gs : Array Goroutine) (w : World) (t : Trace) (y : Nat → S.G) (fin : Nat → Bool) (st : Nat → Stt) (n : Nat → Nat) (K : Nat) : Prop where
  cons : L.Cons gs.size y fin K w t
  pos : 0 < gs.size
  sit : ∀ i g, gs[i]? = some g → SitOk S t K i (st i) (n i) (y i) (fin i) g w
  calm : Calm gs w
  above : ∀ j, gs.size ≤ j → Deaf t j = 0

abbrev Mu := Nat × Nat × Nat
def MuLt : Mu → Mu → Prop := Prod.Lex (· < ·) (Prod.Lex (· < ·) (· < ·))
theorem muWf : WellFounded MuLt := (Prod.lex Nat.lt_wfRel (Prod.lex Nat.lt_wfRel Nat.lt_wfRel)).wf

def Inv (S : Sys) {Post : Value → World → Prop} (L : Law S Post) (μ : Mu) (m : Machine) (t : Trace) : Prop :=
  ∃ gs w sl y fin st n K, m = crowd gs w sl ∧ InvAt S L gs w t y fin st n K ∧ μ = (K, live gs.size fin, sumTo gs.size (weight gs.size st n))

section
variable {S : Sys} {Post : Value → World → Prop} {L : Law S Post}

/-! ### sums -/
theorem sum_le {f f' : Nat → Nat} {s : Nat} (h : ∀ j, j < s → f' j ≤ f j + 1) : sumTo s f' ≤ sumTo s f + s := by
  induction s with
  | zero => simp [sumTo]
  | succ s ih =>
    have := ih fun j hj => h j (by omega)
    have := h s (by omega)
    simp only [sumTo]; omega
theorem sum_but {f f' : Nat → Nat} {i : Nat} : ∀ {s : Nat}, i < s → (∀ j, j < s → j ≠ i → f' j ≤ f j + 1) → sumTo s f' + f i ≤ sumTo s f + f' i + s
  | s + 1, hi, h => by
    simp only [sumTo]
    rcases Nat.lt_or_ge i s with hlt | hge
    · have := sum_but hlt fun j hj hne => h j (by omega) hne
      have := h s (by omega) (by omega)
      omega
    · obtain rfl : i = s := by omega
      have := sum_le (s := i) fun j hj => h j (by omega) (by omega)
      omega
theorem sum_fall {f f' : Nat → Nat} {i s : Nat} (hi : i < s) (h : ∀ j, j < s → j ≠ i → f' j ≤ f j + 1) (hd : f' i + s + 1 ≤ f i) : sumTo s f' < sumTo s f := by
  have := sum_but hi h; omega
theorem sum_fall' {f f' : Nat → Nat} {i s : Nat} (hi : i < s) (h : ∀ j, j < s → j ≠ i → f' j = f j) (hd : f' i < f i) : sumTo s f' < sumTo s f := by
  induction s with
  | zero => omega
  | succ s ih =>
    simp only [sumTo]
    rcases Nat.lt_or_ge i s with hlt | hge
    · have := ih hlt fun j hj hne => h j (by omega) hne
      have := h s (by omega) (by omega)
      omega
    · obtain rfl : i = s := by omega
      rw [Go.ConcN.sumTo_congr (g := f) fun j hj => h j (by omega) (by omega)]
      omega

/-! ### those who stand by -/
theorem again_parked_open {g : Goroutine} {cs : Array CommCase} {sh : CommShape} {w : World} (h : ∀ c ∈ cs, shut w c = false) : (parked g cs sh).again w = parked g cs sh := by
  unfold Goroutine.again parked
  have : cs.any (shut w) = false := by rw [Array.any_eq_false]; intro i hi; simp [h _ (Array.getElem_mem hi)]
  simp only
  change (if cs.any (shut w) = true then _ else _) = _
  rw [if_neg (by simp [this])]
theorem again_parked_shut {g : Goroutine} {cs : Array CommCase} {sh : CommShape} {w : World} {c : CommCase} (hc : c ∈ cs) (h : shut w c = true) : (parked g cs sh).again w = { parked g cs sh with status := .running } := by
  unfold Goroutine.again parked
  have : cs.any (shut w) = true := by
    rw [Array.any_eq_true]
    obtain ⟨i, hi, rfl⟩ := Array.mem_iff_getElem.1 hc
    exact ⟨i, hi, h⟩
  simp only
  change (if cs.any (shut w) = true then _ else _) = _
  rw [if_pos this]

/-- Goroutine j while another steps: it stays as it is, or is let try again. -/
theorem SitOk.turn {t t' : Trace} {K K' j : Nat} {st : Stt} {n : Nat} {y : S.G} {fin : Bool} {g : Goroutine} {w w' : World} {wk : Bool} (h : SitOk S t K j st n y fin g w) (hK : K' ≤ K) (hd : Deaf t' j = Deaf t j)
    (hR : fin = false → S.R y K K' w w' ∧ (wk = false → S.MayBlock y w → S.MayBlock y w')) :
    ∃ st' n', SitOk S t' K' j st' n' y fin (if wk then g.again w' else g) w' ∧ (K' = K → n' = n ∧ (st' = st ∨ (wk = true ∧ st' = .run))) ∧ (st = .quit → n' = n ∧ st' = .quit) := by
  cases st with
  | run =>
    obtain ⟨h1, h2, h3⟩ := h
    have e : (if wk then g.again w' else g) = g := by
      split
      · unfold Goroutine.again; rw [h2]
      · rfl
    rw [e]
    rcases Nat.lt_or_eq_of_le hK with hlt | rfl
    · obtain ⟨n', hJ⟩ := h3.drop hlt (hR h1).1
      exact ⟨.run, n', ⟨h1, h2, hJ⟩, fun e => by omega, by simp⟩
    · exact ⟨.run, n, ⟨h1, h2, h3.rely (hR h1).1⟩, fun _ => ⟨rfl, .inl rfl⟩, by simp⟩
  | blk =>
    obtain ⟨h1, h2, h3, h4, h5⟩ := h
    obtain ⟨r, hm⟩ := hR h1
    obtain ⟨n', hJ, hn⟩ : ∃ n', J S (j == 0) K' n' y { g with status := .running } w' ∧ (K' = K → n' = n) := by
      rcases Nat.lt_or_eq_of_le hK with hlt | rfl
      · obtain ⟨n', hJ⟩ := h5.drop hlt r
        exact ⟨n', hJ, fun e => by omega⟩
      · exact ⟨n, h5.rely r, fun _ => rfl⟩
    cases wk with
    | true =>
      refine ⟨.run, n', ⟨h1, ?_, ?_⟩, fun e => ⟨hn e, .inr (by simp)⟩, by simp⟩
      · simp [Goroutine.again, h2, h3]
      · simpa [Goroutine.again, h2, h3] using hJ
    | false => exact ⟨.blk, n', ⟨h1, h2, h3, hm rfl h4, hJ⟩, fun e => ⟨hn e, .inl rfl⟩, by simp⟩
  | park =>
    obtain ⟨h1, g₂, cs, sh, rfl, h4, h5, h6⟩ := h
    obtain ⟨r, _⟩ := hR h1
    obtain ⟨n', hJ, hn⟩ : ∃ n', J S (j == 0) K' n' y { parked g₂ cs sh with status := .running } w' ∧ (K' = K → n' = n) := by
      rcases Nat.lt_or_eq_of_le hK with hlt | rfl
      · obtain ⟨n', hJ⟩ := h5.drop hlt r
        exact ⟨n', hJ, fun e => by omega⟩
      · exact ⟨n, h5.rely r, fun _ => rfl⟩
    have h6' : ∀ K₂ k v ok y' w₂, K₂ < K' → S.R y K' K₂ w' w₂ → S.Out y k v ok w₂ y' → ∃ n, J S (j == 0) K₂ n y' (g₂.finishComm S.P cs sh k v ok) w₂ := fun K₂ k v ok y' w₂ a b c => h6 K₂ k v ok y' w₂ (by omega) (S.trans _ _ _ _ _ _ _ r b) c
    cases wk with
    | true =>
      by_cases hs : ∃ c ∈ cs, shut w' c = true
      · obtain ⟨c, hc, hs⟩ := hs
        simp only [if_true]
        rw [again_parked_shut hc hs]
        exact ⟨.run, n', ⟨h1, rfl, hJ⟩, fun e => ⟨hn e, .inr (by simp)⟩, by simp⟩
      · simp only [if_true]
        rw [again_parked_open fun c hc => by
          cases h : shut w' c with
          | false => rfl
          | true => exact absurd ⟨c, hc, h⟩ hs]
        exact ⟨.park, n', ⟨h1, g₂, cs, sh, rfl, h4, hJ, h6'⟩, fun e => ⟨hn e, .inl rfl⟩, by simp⟩
    | false => exact ⟨.park, n', ⟨h1, g₂, cs, sh, rfl, h4, hJ, h6'⟩, fun e => ⟨hn e, .inl rfl⟩, by simp⟩
  | quit =>
    obtain ⟨h1, h2, h3⟩ := h
    have e : (if wk then g.again w' else g) = g := by
      split
      · exact again_running _ h3.status
      · rfl
    rw [e]
    exact ⟨.quit, n, ⟨h1, h2, by rw [hd]; exact h3⟩, fun _ => ⟨rfl, .inl rfl⟩, fun _ => ⟨rfl, rfl⟩⟩
end
end Go.Proofs.Ytgnhddnhcfmipaa.Eg
