/- The judgement of one goroutine in company, with a ghost of its own and a budget of noise. Plain: no program here. -/
import Derived.Conc.CompanyMem
import Derived.Conc.QuitsD
import Derived.Conc.CrowdSel
namespace Go.Proofs.Ytgnhddnhcfmipaa.Eg
open Go Go.Conc

/-- What a family of goroutines agrees upon. `R y K K₁ w w₁`: what the others and the scheduler may have made of w, the budget having fallen from K to K₁; `D`: what an own step may do; `Fork`: a go statement; `Offer`, `Out`: a communication and what comes of it; `MayBlock`: it may fall asleep here; `Leave`: from here it only leaves; `Exit`: a step behind which it only leaves; `End`: the run's end. -/
structure Sys where
  P : Program
  G : Type
  R : G → Nat → Nat → World → World → Prop
  D : G → Nat → World → G → Nat → World → Array Event → Bool → Prop
  MayBlock : G → World → Prop
  Fork : G → Nat → World → G → G → Nat → Prop
  Offer : G → Array CommCase → CommShape → Prop
  Out : G → Int → Value → Bool → World → G → Prop
  Leave : G → Nat → Prop
  Exit : G → Nat → World → G → Nat → World → Array Event → Bool → Nat → Prop
  End : G → Nat → World → Value → Array Event → Prop
  refl : ∀ y K w, R y K K w w
  trans : ∀ y K K₁ K₂ w w₁ w₂, R y K K₁ w w₁ → R y K₁ K₂ w₁ w₂ → R y K K₂ w w₂
  idle : ∀ y K w wk, D y K w y K w #[] wk

section
variable (S : Sys)

/-- What is asked of a step: `cur`: at the same budget; `low`: at a smaller one; `kid`: of a child. -/
def Then (m : Bool) (K : Nat) (cur : S.G → Goroutine → World → Prop) (low kid : Nat → S.G → Goroutine → World → Prop) (y : S.G) (g : Goroutine) (w : World) : GStep → Prop
  | .go g' w' es => (g'.status = .running ∧ ∃ y' K', S.D y K w y' K' w' es (mayWake S.P g) ∧ ((K' = K ∧ cur y' g' w') ∨ (K' < K ∧ low K' y' g' w'))) ∨
      (g'.status = .blocked ∧ g'.offers = none ∧ g'.frame = g.frame ∧ g'.callers = g.callers ∧ g'.dying = g.dying ∧ w' = w ∧ es = #[] ∧ S.MayBlock y w) ∨
      (m = false ∧ ∃ y' K' q d, S.Exit y K w y' K' w' es (mayWake S.P g) d ∧ K' ≤ K ∧ QuitsD S.P q d g')
  | .spawn g' c w' es => m = true ∧ w' = w ∧ es = #[] ∧ g'.status = .running ∧ c.status = .running ∧ ∃ y' yc K', K' < K ∧ S.Fork y K w y' yc K' ∧ low K' y' g' w ∧ kid K' yc c w
  | .comm g₂ cases blocking shape w' es => blocking = true ∧ w' = w ∧ es = #[] ∧ g₂.frame = g.frame ∧ g₂.callers = g.callers ∧ g₂.dying = g.dying ∧ S.Offer y cases shape ∧
      ∀ K' k v ok y' w₂, K' < K → S.R y K K' w w₂ → S.Out y k v ok w₂ y' → low K' y' (g₂.finishComm S.P cases shape k v ok) w₂
  | .ended o w' es => m = true ∧ w' = w ∧ ∃ v, o = .done v ∧ S.End y K w v es
  | _ => False

/-- It is at its end: it only leaves. -/
def Gone (m : Bool) (K : Nat) (y : S.G) (g : Goroutine) (w : World) : Prop :=
  m = false ∧ ∃ q d, QuitsD S.P q d g ∧ ∀ w₁, S.R y K K w w₁ → S.Leave y d

def Lvl (low : Nat → Bool → S.G → Goroutine → World → Prop) (K : Nat) (m : Bool) : Nat → S.G → Goroutine → World → Prop
  | 0, y, g, w => (∀ K₁, K₁ < K → ∀ w₁, S.R y K K₁ w w₁ → low K₁ m y g w₁) ∧ Gone S m K y g w
  | n + 1, y, g, w => (∀ K₁, K₁ < K → ∀ w₁, S.R y K K₁ w w₁ → low K₁ m y g w₁) ∧
      (Gone S m K y g w ∨ (g.status = .running ∧ ∀ w₁, S.R y K K w w₁ →
        Then S m K (fun y' g' w' => Lvl low K m n y' g' w') (fun K' y' g' w' => low K' m y' g' w') (fun K' y' g' w' => low K' false y' g' w') y g w₁ (stepG S.P m g w₁)))

/-- At a budget below K, with some fuel. -/
def Low : Nat → Nat → Bool → S.G → Goroutine → World → Prop
  | 0, _, _, _, _, _ => False
  | K + 1, K', m, y, g, w => if K' = K then ∃ n, Lvl S (Low K) K m n y g w else Low K K' m y g w

/-- ████ THE JUDGEMENT. ████ -/
def J (m : Bool) (K n : Nat) (y : S.G) (g : Goroutine) (w : World) : Prop := Lvl S (Low S K) K m n y g w
end

section
variable {S : Sys} {m : Bool} {K n : Nat} {y : S.G} {g : Goroutine} {w : World}

theorem low_eq : ∀ {K K' : Nat}, K' < K → ∀ (m : Bool) (y : S.G) (g : Goroutine) (w : World), Low S K K' m y g w = ∃ n, J S m K' n y g w
  | 0, _, h => by omega
  | K + 1, K', h => fun m y g w => by
    unfold Low
    split
    · rename_i e; subst e; rfl
    · exact low_eq (K := K) (K' := K') (by omega) m y g w

theorem Then.imp {cur cur' : S.G → Goroutine → World → Prop} {low low' kid kid' : Nat → S.G → Goroutine → World → Prop} (hc : ∀ y g w, cur y g w → cur' y g w)
    (hl : ∀ K', K' < K → ∀ y g w, low K' y g w → low' K' y g w) (hk : ∀ K', K' < K → ∀ y g w, kid K' y g w → kid' K' y g w) {s : GStep} (h : Then S m K cur low kid y g w s) : Then S m K cur' low' kid' y g w s := by
  cases s <;> try exact h
  case go g' w' es =>
    rcases h with ⟨h1, y', K', h3, h4⟩ | h
    · exact .inl ⟨h1, y', K', h3, h4.imp (fun x => ⟨x.1, hc _ _ _ x.2⟩) (fun x => ⟨x.1, hl _ x.1 _ _ _ x.2⟩)⟩
    · exact .inr h
  case spawn g' c w' es =>
    obtain ⟨h1, h2, h3, h4, h5, y', yc, K', h6, h7, h8, h9⟩ := h
    exact ⟨h1, h2, h3, h4, h5, y', yc, K', h6, h7, hl _ h6 _ _ _ h8, hk _ h6 _ _ _ h9⟩
  case comm g₂ cases blocking shape w' es =>
    obtain ⟨h1, h2, h3, h4, h5, h6, h7, h8⟩ := h
    exact ⟨h1, h2, h3, h4, h5, h6, h7, fun K' k v ok y' w₂ a b c => hl _ a _ _ _ (h8 K' k v ok y' w₂ a b c)⟩

/-- What is asked of a step, at budget K: `n` steps are at hand behind it if the budget stands. -/
def Nxt (S : Sys) (m : Bool) (K n : Nat) (y : S.G) (g : Goroutine) (w : World) : Prop :=
  Then S m K (fun y' g' w' => J S m K n y' g' w') (fun K' y' g' w' => ∃ n, J S m K' n y' g' w') (fun K' y' g' w' => ∃ n, J S false K' n y' g' w') y g w (stepG S.P m g w)

/-- What the judgement says, laid open. -/
theorem J.open_ (h : J S m K n y g w) : (∀ K₁, K₁ < K → ∀ w₁, S.R y K K₁ w w₁ → ∃ n, J S m K₁ n y g w₁) ∧
    (Gone S m K y g w ∨ ∃ n₁, n = n₁ + 1 ∧ g.status = .running ∧ ∀ w₁, S.R y K K w w₁ → Nxt S m K n₁ y g w₁) := by
  cases n with
  | zero => exact ⟨fun K₁ h₁ w₁ r => (low_eq h₁ _ _ _ _) ▸ h.1 K₁ h₁ w₁ r, .inl h.2⟩
  | succ n =>
    refine ⟨fun K₁ h₁ w₁ r => (low_eq h₁ _ _ _ _) ▸ h.1 K₁ h₁ w₁ r, h.2.imp id fun x => ⟨n, rfl, x.1, fun w₁ r => ?_⟩⟩
    refine (x.2 w₁ r).imp (fun _ _ _ z => z) (fun K' hK _ _ _ z => ?_) (fun K' hK _ _ _ z => ?_)
    · exact (low_eq hK _ _ _ _) ▸ z
    · exact (low_eq hK _ _ _ _) ▸ z

theorem J.close_ (h₀ : ∀ K₁, K₁ < K → ∀ w₁, S.R y K K₁ w w₁ → ∃ n, J S m K₁ n y g w₁)
    (h : Gone S m K y g w ∨ ∃ n₁, n = n₁ + 1 ∧ g.status = .running ∧ ∀ w₁, S.R y K K w w₁ → Nxt S m K n₁ y g w₁) : J S m K n y g w := by
  have hl : ∀ K₁, K₁ < K → ∀ w₁, S.R y K K₁ w w₁ → Low S K K₁ m y g w₁ := fun K₁ h₁ w₁ r => (low_eq h₁ _ _ _ _).symm ▸ h₀ K₁ h₁ w₁ r
  rcases h with h | ⟨n₁, rfl, hr, h⟩
  · cases n with
    | zero => exact ⟨hl, h⟩
    | succ n => exact ⟨hl, .inl h⟩
  · refine ⟨hl, .inr ⟨hr, fun w₁ r => ?_⟩⟩
    refine Then.imp (fun _ _ _ z => z) (fun K' hK _ _ _ z => ?_) (fun K' hK _ _ _ z => ?_) (h w₁ r)
    · exact (low_eq hK _ _ _ _).symm ▸ z
    · exact (low_eq hK _ _ _ _).symm ▸ z

theorem J.drop (h : J S m K n y g w) {K₁ : Nat} (hK : K₁ < K) {w₁ : World} (r : S.R y K K₁ w w₁) : ∃ n, J S m K₁ n y g w₁ := h.open_.1 K₁ hK w₁ r

theorem J.rely (h : J S m K n y g w) {w₁ : World} (r : S.R y K K w w₁) : J S m K n y g w₁ := by
  obtain ⟨h₀, h⟩ := h.open_
  refine J.close_ (fun K₁ hK w₂ r₂ => h₀ K₁ hK w₂ (S.trans _ _ _ _ _ _ _ r r₂)) (h.imp (fun ⟨a, q, d, b, c⟩ => ⟨a, q, d, b, fun w₂ r₂ => c w₂ (S.trans _ _ _ _ _ _ _ r r₂)⟩) ?_)
  rintro ⟨n₁, e, hr, h⟩
  exact ⟨n₁, e, hr, fun w₂ r₂ => h w₂ (S.trans _ _ _ _ _ _ _ r r₂)⟩

theorem J.more : ∀ {n n' : Nat} {y : S.G} {g : Goroutine} {w : World}, J S m K n y g w → n ≤ n' → J S m K n' y g w := by
  intro n
  induction n with
  | zero =>
    intro n' y g w h _
    obtain ⟨h₀, h⟩ := h.open_
    refine J.close_ h₀ (.inl ?_)
    rcases h with h | ⟨n₁, e, _⟩
    · exact h
    · omega
  | succ n ih =>
    intro n' y g w h hn
    obtain ⟨h₀, h⟩ := h.open_
    refine J.close_ h₀ (h.imp id ?_)
    rintro ⟨n₁, e, hr, hh⟩
    have e : n₁ = n := by omega
    subst e
    obtain ⟨n₂, rfl⟩ : ∃ n₂, n' = n₂ + 1 := ⟨n' - 1, by omega⟩
    exact ⟨n₂, rfl, hr, fun w₁ r => Then.imp (fun _ _ _ z => ih z (by omega)) (fun _ _ _ _ _ z => z) (fun _ _ _ _ _ z => z) (hh w₁ r)⟩

theorem J.running (h : J S m K n y g w) (hg : ¬ Gone S m K y g w) : g.status = .running := by
  rcases h.open_.2 with h | ⟨_, _, hr, _⟩
  · exact absurd h hg
  · exact hr

/-- It stands at another record of the same frames. -/
theorem J.same (h : J S m K n y g w) {g' : Goroutine} (h1 : g'.frame = g.frame) (h2 : g'.callers = g.callers) (h3 : g'.dying = g.dying) (h4 : g'.status = .running) (hng : ∀ q d, m = false → ¬ QuitsD S.P q d g) : J S m K n y g' w := by
  revert n
  induction K using Nat.strongRecOn generalizing w with
  | _ K ihK =>
    intro n h
    obtain ⟨h₀, h⟩ := h.open_
    refine J.close_ (fun K₁ hK w₁ r => (h₀ K₁ hK w₁ r).imp fun _ x => ihK K₁ hK x) ?_
    rcases h with ⟨hm, q, d, hq, _⟩ | ⟨n₁, e, hr, h⟩
    · exact absurd hq (hng q d hm)
    · refine .inr ⟨n₁, e, h4, fun w₁ r => ?_⟩
      unfold Nxt
      rw [stepG_same (h := g) h1 h2 h3]
      have hw : mayWake S.P g' = mayWake S.P g := by unfold mayWake; rw [h1]
      have := h w₁ r
      unfold Nxt at this
      revert this
      cases stepG S.P m g w₁ <;> simp only [Then, hw, h1, h2, h3] <;> exact id

/-- ████ ONE STEP. ████ In every world that the others may have left, at every budget: the step is one that is allowed, and the judgement goes on. -/
theorem J.step {f : Nat → Nat} (hr : g.status = .running) (h : ∀ K₁, K₁ ≤ K → ∀ w₁, S.R y K K₁ w w₁ → Nxt S m K₁ (f K₁) y g w₁) : J S m K (f K + 1) y g w := by
  induction K using Nat.strongRecOn generalizing w with
  | _ K ih =>
    refine J.close_ (fun K₁ hK w₁ r => ?_) (.inr ⟨f K, rfl, hr, fun w₁ r => h K (Nat.le_refl _) w₁ r⟩)
    exact ⟨_, ih K₁ hK fun K₂ hK₂ w₂ r₂ => h K₂ (by omega) w₂ (S.trans _ _ _ _ _ _ _ r r₂)⟩

/-- A silent step: the same in every world: what is judged behind it is judged ahead of it. -/
theorem J.ctl {g' : Goroutine} (hr : g.status = .running) (hr' : g'.status = .running) (hs : ∀ w, stepG S.P m g w = .go g' w #[]) (h : J S m K n y g' w) : J S m K (n + 1) y g w := by
  induction K using Nat.strongRecOn generalizing w n with
  | _ K ih =>
    refine J.close_ (fun K₁ hK w₁ r => ?_) (.inr ⟨n, rfl, hr, fun w₁ r => ?_⟩)
    · obtain ⟨n₁, h₁⟩ := h.drop hK r
      exact ⟨_, ih K₁ hK h₁⟩
    · unfold Nxt
      rw [hs w₁]
      exact .inl ⟨hr', y, K, S.idle _ _ _ _, .inl ⟨rfl, h.rely r⟩⟩

theorem J.gone (hq : ∃ q d, QuitsD S.P q d g ∧ ∀ K₁, K₁ ≤ K → ∀ w₁, S.R y K K₁ w w₁ → S.Leave y d) : J S false K n y g w := by
  obtain ⟨q, d, hq, hl⟩ := hq
  induction K using Nat.strongRecOn generalizing w n with
  | _ K ih =>
    exact J.close_ (fun K₁ hK w₁ r => ⟨0, ih K₁ hK fun K₂ hK₂ w₂ r₂ => hl K₂ (by omega) w₂ (S.trans _ _ _ _ _ _ _ r r₂)⟩) (.inl ⟨rfl, q, d, hq, fun w₁ r => hl K (Nat.le_refl _) w₁ r⟩)

/-- The judgement at every budget from K down, with a fuel for each. -/
theorem J.all (h : J S m K n y g w) {K₁ : Nat} (hK : K₁ ≤ K) {w₁ : World} (r : S.R y K K₁ w w₁) : ∃ n, J S m K₁ n y g w₁ := by
  rcases Nat.lt_or_eq_of_le hK with h' | rfl
  · exact h.drop h' r
  · exact ⟨n, h.rely r⟩
end
end Go.Proofs.Ytgnhddnhcfmipaa.Eg
