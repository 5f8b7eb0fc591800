/- IdleStorms: what all know together (Cons), and what follows of it. -/
import Derived.Test.YtgnhddnhcfmipaaIds1
import Derived.Conc.Beside
import Derived.Laws.Rows
namespace Go.Proofs.Ytgnhddnhcfmipaa.Ids
open Go Go.Conc Go.RowKit Go.Proofs.Ytgnhddnhcfmipaa.Eg
open Go.ConcN (sumTo sumTo_congr le_sumTo upd upd_ne upd_same PermW)

/-! ### sums -/
def sm (f : Gh Role → Nat) (sz : Nat) (y : Nat → Gh Role) (fin : Nat → Bool) : Nat := sumTo sz fun j => if fin j then 0 else f (y j)

theorem sum_one {f g : Nat → Nat} {i : Nat} : ∀ {s : Nat}, i < s → (∀ j, j < s → j ≠ i → f j = g j) → sumTo s f + g i = sumTo s g + f i
  | s + 1, hi, h => by
    simp only [sumTo]
    rcases Nat.lt_or_ge i s with hlt | hge
    · have := sum_one hlt fun j hj hne => h j (by omega) hne
      have := h s (by omega) (by omega)
      omega
    · obtain rfl : i = s := by omega
      have := sumTo_congr (j := i) fun j hj => h j (by omega) (by omega)
      omega

section
variable {f : Gh Role → Nat} {sz : Nat} {y : Nat → Gh Role} {fin : Nat → Bool} {i : Nat}
theorem sm_upd (hi : i < sz) (hf : fin i = false) (y' : Gh Role) : sm f sz (upd y i y') fin + f (y i) = sm f sz y fin + f y' := by
  have := sum_one (f := fun j => if fin j then 0 else f (upd y i y' j)) (g := fun j => if fin j then 0 else f (y j)) hi fun j _ hne => by simp only [upd_ne _ _ hne]
  simpa [sm, hf, upd_same] using this
theorem sm_exit (hi : i < sz) (hf : fin i = false) (y' : Gh Role) : sm f sz (upd y i y') (upd fin i true) + f (y i) = sm f sz y fin := by
  have := sum_one (f := fun j => if upd fin i true j then 0 else f (upd y i y' j)) (g := fun j => if fin j then 0 else f (y j)) hi fun j _ hne => by simp only [upd_ne _ _ hne]
  simpa [sm, hf, upd_same] using this
theorem sm_le (hi : i < sz) (hf : fin i = false) : f (y i) ≤ sm f sz y fin := by
  have := le_sumTo (f := fun j => if fin j then 0 else f (y j)) hi
  simpa [sm, hf] using this
theorem sm_fork (h0 : 0 < sz) (hf : fin 0 = false) (y' yc : Gh Role) : sm f (sz + 1) (upd (upd y 0 y') sz yc) (upd fin sz false) + f (y 0) = sm f sz y fin + f y' + f yc := by
  have h1 := sm_upd (f := f) (y := y) h0 hf y'
  have h2 : sm f (sz + 1) (upd (upd y 0 y') sz yc) (upd fin sz false) = sm f sz (upd y 0 y') fin + f yc := by
    unfold sm
    simp only [sumTo, upd_same]
    congr 1
    exact sumTo_congr fun j hj => by rw [upd_ne _ _ (by omega : j ≠ sz), upd_ne _ _ (by omega : j ≠ sz)]
  omega
theorem sum_room {f g : Nat → Nat} {i : Nat} : ∀ {s : Nat}, i < s → (∀ j, j < s → f j ≤ g j) → sumTo s f + g i ≤ sumTo s g + f i
  | s + 1, hi, h => by
    simp only [sumTo]
    rcases Nat.lt_or_ge i s with hlt | hge
    · have := sum_room hlt fun j hj => h j (by omega)
      have := h s (by omega)
      omega
    · obtain rfl : i = s := by omega
      have : sumTo i f ≤ sumTo i g := by
        have h' : ∀ j, j < i → f j ≤ g j := fun j hj => h j (by omega)
        clear h hi hge
        induction i with
        | zero => exact Nat.le_refl _
        | succ i ih => simp only [sumTo]; have := ih fun j hj => h' j (by omega); have := h' i (by omega); omega
      omega
theorem sm_room {f g : Gh Role → Nat} (hi : i < sz) (hf : fin i = false) (h : ∀ y, f y ≤ g y) : sm f sz y fin + g (y i) ≤ sm g sz y fin + f (y i) := by
  have := sum_room (f := fun j => if fin j then 0 else f (y j)) (g := fun j => if fin j then 0 else g (y j)) hi fun j _ => by
    split
    · exact Nat.le_refl _
    · exact h _
  simpa [sm, hf] using this
theorem sm_zero (h : ∀ j, j < sz → fin j = false → f (y j) = 0) : sm f sz y fin = 0 := by
  unfold sm
  induction sz with
  | zero => rfl
  | succ s ih =>
    simp only [sumTo]
    rw [ih fun j hj => h j (by omega)]
    cases hf : fin s with
    | true => rfl
    | false => simp [h s (by omega) hf]
end

def rc (f : Wp → Nat) (y : Gh Role) : Nat := match y.role with
  | .work _ p => f p
  | _ => 0
theorem rc_work {f : Wp → Nat} {y : Gh Role} {c : Cfg} {p : Wp} (h : y.role = .work c p) : rc f y = f p := by simp [rc, h]
theorem rc_boss {f : Wp → Nat} {y : Gh Role} {c : Cfg} {p : Bp} (h : y.role = .boss c p) : rc f y = 0 := by simp [rc, h]
theorem rc_alone {f : Wp → Nat} {y : Gh Role} {s : Nat → Prop} (h : y.role = .alone s) : rc f y = 0 := by simp [rc, h]

theorem rc_held (y : Gh Role) : rc Wp.held y ≤ rc Wp.cnt y := by
  unfold rc
  split
  · rename_i p _
    cases p with
    | busy a b => cases a <;> simp [Wp.held, Wp.cnt]
    | _ => simp [Wp.held]
  · exact Nat.le_refl _

/-- The world, by the numbers: counted, uses, last, stored; the word is awake. -/
def WP (c : Cfg) (p : Bp) (n h nl ns : Nat) (e : Bool) (w : World) : Prop :=
  Still c w ∧ w.heap[c.wd]? = some (wdO c h e) ∧ h ≤ n ∧ n ≤ 16 ∧ (e = true → 0 < c.T) ∧
    match p with
    | .op k pend => nl = 0 ∧ ns = 0 ∧ n ≤ k ∧ k + b2n pend ≤ 16 ∧ w.heap[c.wg]? = some (grO ((n + b2n pend : Nat) * 4294967296) 0) ∧ (n = k ∨ (0 < c.T → e = true))
    | .reg => ((0 < n ∧ nl = 0 ∧ ns = 0 ∧ w.heap[c.wg]? = some (grO ((n : Nat) * 4294967296 + 1) 0)) ∨ (n = 0 ∧ nl = 1 ∧ ns = 0 ∧ w.heap[c.wg]? = some (grO 1 0)) ∨
        (n = 0 ∧ nl = 0 ∧ ns = 1 ∧ w.heap[c.wg]? = some (grO 0 0)) ∨ (n = 0 ∧ nl = 0 ∧ ns = 0 ∧ w.heap[c.wg]? = some (grO 0 1))) ∧ (0 < n ∨ (0 < c.T → e = true))
    | .free => n = 0 ∧ nl = 0 ∧ ns = 0 ∧ w.heap[c.wg]? = some (grO 0 0) ∧ (0 < c.T → e = true)

def ga (c : Cfg) : Addr := ⟨c.wg, 0, none⟩

/-- goroutine 0 is in a storm -/
structure Bd (sz : Nat) (y : Nat → Gh Role) (fin : Nat → Bool) (w : World) (t : Trace) (c : Cfg) (p : Bp) (e : Bool) : Prop where
  live : ∀ j, j < sz → j ≠ 0 → fin j = false → ∃ q, (y j).role = .work c q ∧ 0 < q.cnt + q.nl + q.ns ∧ (q.sure c.T → e = true) ∧ (q.out = true → ∃ r, Rel (ga c) t j r)
  done : ∀ j, j ≠ 0 → (j < sz ∧ fin j = false) ∨ Eg.Told c.shun t j ∨ ∃ r, Rel (ga c) t j r
  wp : WP c p (sm (rc Wp.cnt) sz y fin) (sm (rc Wp.held) sz y fin) (sm (rc Wp.nl) sz y fin) (sm (rc Wp.ns) sz y fin) e w

structure Cons (W₀ : World) (sz : Nat) (y : Nat → Gh Role) (fin : Nat → Bool) (K : Nat) (w : World) (t : Trace) : Prop where
  gc : GC sh sz y fin w.heap.size t
  below : Below W₀.heap.size W₀ w
  high : ∀ i b, i < sz → fin i = false → (y i).own b → W₀.heap.size ≤ b
  main : 0 < sz ∧ fin 0 = false
  rem : sm Gh.rem sz y fin ≤ K
  clean : Clean (y 0).role (y 0).own w.heap.size
  role : match (y 0).role with
    | .alone s => (∀ j, j < sz → j ≠ 0 → fin j = true) ∧ ∀ j, j ≠ 0 → Eg.Told s t j
    | .boss c p => (W₀.heap.size ≤ c.wg ∧ W₀.heap.size ≤ c.wd ∧ c.wg ≠ c.wd) ∧ ∃ e, Bd sz y fin w t c p e
    | .work .. => False

section
variable {W₀ : World} {sz : Nat} {y : Nat → Gh Role} {fin : Nat → Bool} {K : Nat} {w : World} {t : Trace} {i : Nat}

theorem Cons.apart (h : Cons W₀ sz y fin K w t) {c : Cfg} {p : Bp} (h0 : (y 0).role = .boss c p) (hi : i < sz) (hf : fin i = false) {b : Nat} (hb : (y i).own b) : b ≠ c.tb ∧ b ≠ c.wb ∧ b ≠ c.wd ∧ b ≠ c.wg := by
  have D := h.gc.dens
  obtain ⟨m1, m2⟩ := h.main
  refine ⟨fun e => ?_, fun e => ?_, fun e => ?_, fun e => ?_⟩
  · exact D.ownSt i 0 (.cell ⟨c.tb, 0, none⟩) hi m1 hf m2 ⟨b, by rw [e]; rfl, hb⟩ (by simp only [sh, h0, Role.cfg?]; exact ⟨_, rfl, .inl rfl⟩)
  · exact D.ownSt i 0 (.cell ⟨c.wb, 0, none⟩) hi m1 hf m2 ⟨b, by rw [e]; rfl, hb⟩ (by simp only [sh, h0, Role.cfg?]; exact ⟨_, rfl, .inr (.inl rfl)⟩)
  · exact D.ownSt i 0 (.cell ⟨c.wd, 0, none⟩) hi m1 hf m2 ⟨b, by rw [e]; rfl, hb⟩ (by simp only [sh, h0, Role.cfg?]; exact ⟨_, rfl, .inr (.inr ⟨rfl, by simp⟩)⟩)
  · exact D.ownSh i 0 (.cell ⟨c.wg, 0, none⟩) hi m1 hf m2 ⟨b, by rw [e]; rfl, hb⟩ (by simp only [sh, h0, Role.cfg?]; exact ⟨_, rfl, .inl rfl⟩)


/-- Whoever works. -/
theorem Cons.worker (h : Cons W₀ sz y fin K w t) {j : Nat} (hj : j < sz) (hf : fin j = false) {c : Cfg} {q : Wp} (hr : (y j).role = .work c q) :
    j ≠ 0 ∧ ∃ p e, (y 0).role = .boss c p ∧ Bd sz y fin w t c p e ∧ 0 < q.cnt + q.nl + q.ns ∧ (q.sure c.T → e = true) ∧ (q.out = true → ∃ r, Rel (ga c) t j r) ∧ p.casesOn (motive := fun _ => Prop) (fun _ _ => True) True False ∧ W₀.heap.size ≤ c.wg ∧ W₀.heap.size ≤ c.wd ∧ c.wg ≠ c.wd := by
  have hx := h.role
  have h0 : j ≠ 0 := fun e => by subst e; rw [hr] at hx; exact hx
  refine ⟨h0, ?_⟩
  cases h0r : (y 0).role with
  | alone s => rw [h0r] at hx; have := hx.1 j hj h0; rw [hf] at this; cases this
  | work c' p' => rw [h0r] at hx; exact hx.elim
  | boss c' p =>
    rw [h0r] at hx
    obtain ⟨⟨n1, n2, n3⟩, e, hb⟩ := hx
    obtain ⟨q', hq', hc, hs, ho⟩ := hb.live j hj h0 hf
    rw [hr] at hq'
    injection hq' with e1 e2
    subst e1; subst e2
    refine ⟨p, e, rfl, hb, hc, hs, ho, ?_, n1, n2, n3⟩
    cases p with
    | op k pend => trivial
    | reg => trivial
    | free =>
      have hw := hb.wp.2.2.2.2.2
      have a := sm_le (f := rc Wp.cnt) (y := y) hj hf
      have b := sm_le (f := rc Wp.nl) (y := y) hj hf
      have d := sm_le (f := rc Wp.ns) (y := y) hj hf
      rw [rc_work hr] at a b d
      have := hw.1; have := hw.2.1; have := hw.2.2.1
      show False
      omega

theorem Cons.st (h : Cons W₀ sz y fin K w t) {j : Nat} (hj : j < sz) (hf : fin j = false) : St (y j) K w := by
  have hrem : (y j).rem ≤ K := Nat.le_trans (sm_le (f := Gh.rem) (y := y) hj hf) h.rem
  have hcl : Clean (y j).role (y j).own w.heap.size := by
    by_cases h0 : j = 0
    · subst h0; exact h.clean
    · have hx := h.role
      cases h0r : (y 0).role with
      | alone s => rw [h0r] at hx; have := hx.1 j hj h0; rw [hf] at this; cases this
      | work c' p' => rw [h0r] at hx; exact hx.elim
      | boss c' p' =>
        rw [h0r] at hx
        obtain ⟨_, e, hb⟩ := hx
        obtain ⟨q', hq', _⟩ := hb.live j hj h0 hf
        rw [hq']
        exact ⟨fun b hb => hb.elim, fun b _ hb => hb.elim⟩
  refine ⟨hrem, hcl, ?_⟩
  cases hr : (y j).role with
  | alone s => trivial
  | boss c p =>
    have h0 : j = 0 := Classical.byContradiction fun h0 => by
      have hx := h.role
      cases h0r : (y 0).role with
      | alone s => rw [h0r] at hx; have := hx.1 j hj h0; rw [hf] at this; cases this
      | work c' p' => rw [h0r] at hx; exact hx
      | boss c' p' =>
        rw [h0r] at hx
        obtain ⟨_, e, hb⟩ := hx
        obtain ⟨q', hq', _⟩ := hb.live j hj h0 hf
        rw [hr] at hq'; cases hq'
    subst h0
    have hx := h.role
    rw [hr] at hx
    obtain ⟨_, e, hb⟩ := hx
    obtain ⟨w1, w2, w3, w4, w5, w6⟩ := hb.wp
    refine ⟨⟨w1, _, e, w2, ?_⟩, fun b ho => h.apart hr hj hf ho⟩
    have hfin : (0 < c.T → e = true) → ∀ {m : Nat}, m = 0 → Fin c m e := fun hT m hm => ⟨hm, by
      cases e with
      | true => simp [w5 rfl]
      | false => simp; exact Nat.eq_zero_of_not_pos fun h => by simpa using hT h⟩
    cases p with
    | op k pend =>
      obtain ⟨_, _, a, b, d, g⟩ := w6
      refine ⟨_, w3, a, b, d, fun hn hk => hfin ?_ (by omega)⟩
      rcases g with g | g
      · omega
      · exact g
    | reg =>
      obtain ⟨a, g⟩ := w6
      rcases a with ⟨_, _, _, a⟩ | ⟨_, _, _, a⟩ | ⟨_, _, _, a⟩ | ⟨hn, _, _, a⟩
      · exact ⟨_, _, a, .inl rfl⟩
      · exact ⟨_, _, a, .inl rfl⟩
      · exact ⟨_, _, a, .inl rfl⟩
      · refine ⟨_, _, a, .inr ⟨rfl, rfl, hfin ?_ (by omega)⟩⟩
        rcases g with g | g
        · omega
        · exact g
    | free =>
      obtain ⟨hn, _, _, a, g⟩ := w6
      exact ⟨a, hfin g (by omega)⟩
  | work c q =>
    obtain ⟨h0, p, e, h0r, hb, hc, hs, ho, hp, _⟩ := h.worker hj hf hr
    obtain ⟨w1, w2, w3, w4, w5, w6⟩ := hb.wp
    have a := sm_le (f := rc Wp.cnt) (y := y) hj hf
    have ah := sm_le (f := rc Wp.held) (y := y) hj hf
    have b := sm_le (f := rc Wp.nl) (y := y) hj hf
    have d := sm_le (f := rc Wp.ns) (y := y) hj hf
    have room := sm_room (y := y) hj hf rc_held
    rw [rc_work hr] at a b d ah
    rw [rc_work hr, rc_work hr] at room
    have vac : sm (rc Wp.held) sz y fin + q.vac ≤ 16 := by
      cases q with
      | busy hh dd => cases hh <;> simp only [Wp.vac, Wp.cnt, Wp.held] at room ⊢ <;> omega
      | _ => simp only [Wp.vac]; omega
    refine ⟨⟨w1, ⟨_, e, w2, ah, vac, hs⟩, ?_⟩, fun b hbo => h.apart h0r hj hf hbo⟩
    have cnt : q.cnt = 1 → ∃ v wt : Nat, v < 17 ∧ wt ≤ 1 ∧ w.heap[c.wg]? = some (grO ((v + 1 : Nat) * 4294967296 + wt) 0) := fun hq => by
      cases p with
      | op k pend =>
        obtain ⟨_, _, x1, x2, x3, _⟩ := w6
        have hb1 : b2n pend ≤ 1 := by unfold b2n; split <;> omega
        refine ⟨sm (rc Wp.cnt) sz y fin + b2n pend - 1, 0, by omega, by omega, ?_⟩
        rw [x3]
        have : sm (rc Wp.cnt) sz y fin + b2n pend - 1 + 1 = sm (rc Wp.cnt) sz y fin + b2n pend := by omega
        rw [this]; simp
      | reg =>
        obtain ⟨x, _⟩ := w6
        rcases x with ⟨_, _, _, x⟩ | ⟨x, _⟩ | ⟨x, _⟩ | ⟨x, _⟩
        · refine ⟨sm (rc Wp.cnt) sz y fin - 1, 1, by omega, by omega, ?_⟩
          rw [x]
          have : sm (rc Wp.cnt) sz y fin - 1 + 1 = sm (rc Wp.cnt) sz y fin := by omega
          rw [this]; rfl
        · omega
        · omega
        · omega
      | free => exact hp.elim
    cases q with
    | busy _ _ => exact cnt rfl
    | rel => exact cnt rfl
    | deaf => exact cnt rfl
    | last =>
      have hb' : 0 < sm (rc Wp.nl) sz y fin := b
      cases p with
      | op k pend => have := w6.1; omega
      | reg =>
        obtain ⟨x, _⟩ := w6
        rcases x with ⟨_, x, _⟩ | ⟨_, _, _, x⟩ | ⟨_, x, _⟩ | ⟨_, x, _⟩
        · omega
        · exact x
        · omega
        · omega
      | free => exact hp.elim
    | stored =>
      have hb' : 0 < sm (rc Wp.ns) sz y fin := d
      cases p with
      | op k pend => have := w6.2.1; omega
      | reg =>
        obtain ⟨x, _⟩ := w6
        rcases x with ⟨_, _, x, _⟩ | ⟨_, _, x, _⟩ | ⟨_, _, _, x⟩ | ⟨_, _, x, _⟩
        · omega
        · omega
        · exact x
        · omega
      | free => exact hp.elim
    | gone => exact absurd hc (by decide)

/-- What the others learn of a step of i's. -/
theorem rest {y' : Nat → Gh Role} {fin' : Nat → Bool} {K' : Nat} {w' : World} {t' : Trace} {j : Nat} (h : Cons W₀ sz y fin K w t) (h' : Cons W₀ sz y' fin' K' w' t') (hj : j < sz) (hf : fin j = false) (hf' : fin' j = false) (ey : y' j = y j)
    (hw : ∃ i, i < sz ∧ i ≠ j ∧ fin i = false) (hK : K' ≤ K) (hs : w.heap.size ≤ w'.heap.size) (ho : ∀ b, (y j).own b → w'.heap[b]? = w.heap[b]?) (hst : K' = K → stands (y j).role w w') : R (y j) K K' w w' := by
  have hns : (y j).role.solo = false := by
    obtain ⟨i, hi, hne, hfi⟩ := hw
    have hx := h.role
    cases hr : (y j).role with
    | work c q => rfl
    | alone s =>
      by_cases h0 : j = 0
      · subst h0
        rw [hr] at hx
        have := hx.1 i hi hne
        rw [hfi] at this; cases this
      · cases h0r : (y 0).role with
        | alone s => rw [h0r] at hx; have := hx.1 j hj h0; rw [hf] at this; cases this
        | work c' p' => rw [h0r] at hx; exact hx.elim
        | boss c' p' =>
          rw [h0r] at hx
          obtain ⟨_, e, hb⟩ := hx
          obtain ⟨q', hq', _⟩ := hb.live j hj h0 hf
          rw [hr] at hq'; cases hq'
    | boss c p =>
      cases p with
      | op _ _ => rfl
      | reg => rfl
      | free =>
        by_cases h0 : j = 0
        · subst h0
          rw [hr] at hx
          obtain ⟨_, e, hb⟩ := hx
          obtain ⟨q', hq', _⟩ := hb.live i hi hne hfi
          obtain ⟨_, p, _, h0r, _, _, _, _, hp, _⟩ := h.worker hi hfi hq'
          rw [hr] at h0r
          injection h0r with _ e2
          subst e2
          exact hp.elim
        · cases h0r : (y 0).role with
          | alone s => rw [h0r] at hx; have := hx.1 j hj h0; rw [hf] at this; cases this
          | work c' p' => rw [h0r] at hx; exact hx.elim
          | boss c' p' =>
            rw [h0r] at hx
            obtain ⟨_, e, hb⟩ := hx
            obtain ⟨q', hq', _⟩ := hb.live j hj h0 hf
            rw [hr] at hq'; cases hq'
  unfold R
  rw [if_neg (by simp [hns])]
  exact ⟨hK, hs, ho, fun _ => ey ▸ h'.st hj hf', hst⟩
end
end Go.Proofs.Ytgnhddnhcfmipaa.Ids
