/- IdleStorms: a goroutine's own rows; the rules of a walk over them. -/
import Derived.Test.YtgnhddnhcfmipaaIds6
import Derived.Conc.WgWords
import Derived.Laws.Rows
namespace Go.Proofs.Ytgnhddnhcfmipaa.Ids
open Go Go.Conc Go.RowKit Go.Proofs.Ytgnhddnhcfmipaa.Eg

abbrev Row := Nat × Array Value × TypeId

structure Rows (own : Nat → Prop) (w : World) (l : List Row) : Prop where
  nd : (l.map (·.1)).Nodup
  at_ : ∀ p ∈ l, own p.1 ∧ w.heap[p.1]? = some (.cells p.2.1 p.2.2)

section
variable {own own' : Nat → Prop} {w w' : World} {l l' : List Row}

theorem Rows.get (h : Rows own w l) {k b : Nat} {vs : Array Value} {t : TypeId} (hk : l[k]? = some (b, vs, t)) : own b ∧ w.heap[b]? = some (.cells vs t) := h.at_ _ (List.mem_of_getElem? hk)
theorem Rows.cell (h : Rows own w l) (k i : Nat) {b : Nat} {vs : Array Value} {t : TypeId} {v : Value} (hk : l[k]? = some (b, vs, t)) (hv : vs[i]? = some v) : w.cell? ⟨b, i, none⟩ = some v := by
  simp [World.cell?, (h.get hk).2, hv]
theorem Rows.free (h : Rows own w l) (k i : Nat) {b : Nat} {vs : Array Value} {t : TypeId} (hk : l[k]? = some (b, vs, t)) : w.frozen? ⟨b, i, none⟩ = false := frozen_of_row w b i vs t (h.get hk).2
theorem Rows.row (h : Rows own w l) (k : Nat) {b : Nat} {vs : Array Value} {t : TypeId} (hk : l[k]? = some (b, vs, t)) : w.heap[b]? = some (.cells vs t) := (h.get hk).2
theorem Rows.mine (h : Rows own w l) (k : Nat) {b : Nat} {vs : Array Value} {t : TypeId} (hk : l[k]? = some (b, vs, t)) : own b := (h.get hk).1
theorem Rows.tail {p : Row} (h : Rows own w (p :: l)) : Rows own w l := ⟨(List.nodup_cons.1 h.nd).2, fun q hq => h.at_ q (List.mem_cons_of_mem _ hq)⟩
theorem Rows.of (h : Rows own w l) (ho : ∀ b, own b → own' b) (e : ∀ b, own b → w'.heap[b]? = w.heap[b]?) : Rows own' w' l := ⟨h.nd, fun p hp => ⟨ho _ (h.at_ p hp).1, (e _ (h.at_ p hp).1).trans (h.at_ p hp).2⟩⟩
theorem Rows.lt (h : Rows own w l) {p : Row} (hp : p ∈ l) : p.1 < w.heap.size := lt_of_some (h.at_ p hp).2

/-- What stores into own rows make of a world. -/
structure Upd (own : Nat → Prop) (w w' : World) (l' : List Row) : Prop where
  rows : Rows own w' l'
  size : w'.heap.size = w.heap.size
  far : ∀ c, ¬ own c → w'.heap[c]? = w.heap[c]?
  os : w'.os = w.os
  tape : w'.tape = w.tape
  output : w'.output = w.output

theorem Upd.refl (h : Rows own w l) : Upd own w w l := ⟨h, rfl, fun _ _ => rfl, rfl, rfl, rfl⟩

theorem Upd.chg (h : Upd own w w' l) (k : Nat) {b : Nat} {vs cs : Array Value} {t : TypeId} (hk : l[k]? = some (b, vs, t)) {w₂ : World} (h1 : w₂.heap[b]? = some (.cells cs t)) (h2 : ∀ c, c ≠ b → w₂.heap[c]? = w'.heap[c]?) (h3 : w₂.heap.size = w'.heap.size)
    (h4 : w₂.os = w'.os) (h5 : w₂.tape = w'.tape) (h6 : w₂.output = w'.output) : Upd own w w₂ (l.set k (b, cs, t)) := by
  obtain ⟨hlt, hke⟩ := List.getElem?_eq_some_iff.1 hk
  have hb := h.rows.get hk
  refine ⟨⟨?_, fun p hp => ?_⟩, h3.trans h.size, fun c hc => ?_, h4.trans h.os, h5.trans h.tape, h6.trans h.output⟩
  · rw [List.map_set]
    have : (l.map (·.1)).set k b = l.map (·.1) := by
      apply List.ext_getElem?
      intro j
      by_cases e : j = k
      · subst e
        rw [List.getElem?_set_self (by simpa using hlt), List.getElem?_map, hk]; rfl
      · rw [List.getElem?_set_ne (Ne.symm e)]
    rw [this]; exact h.rows.nd
  · obtain ⟨j, hj, hp'⟩ := List.mem_iff_getElem.1 hp
    by_cases e : j = k
    · subst e
      rw [List.getElem_set_self] at hp'
      subst hp'
      exact ⟨hb.1, h1⟩
    · rw [List.getElem_set_ne (Ne.symm e)] at hp'
      have hj' : j < l.length := by simpa using hj
      have hq := h.rows.at_ p (hp' ▸ List.getElem_mem hj')
      refine ⟨hq.1, (h2 _ ?_).trans hq.2⟩
      intro eb
      have h1 : (l.map (·.1))[j]? = some p.1 := by rw [List.getElem?_map, List.getElem?_eq_getElem hj', hp']; rfl
      have h2 : (l.map (·.1))[k]? = some b := by rw [List.getElem?_map, hk]; rfl
      exact e ((List.getElem?_inj (by simpa using hj') h.rows.nd).1 (h1.trans (by rw [h2, eb])))
  · rw [h2 c fun e => hc (e ▸ hb.1)]
    exact h.far c hc
theorem Upd.set (h : Upd own w w' l) (k i : Nat) {b : Nat} {vs : Array Value} {t : TypeId} (hk : l[k]? = some (b, vs, t)) (v : Value) : Upd own w (w'.setCell ⟨b, i, none⟩ v) (l.set k (b, vs.setIfInBounds i v, t)) :=
  h.chg k hk (heap_setCell_same _ _ _ _ _ _ (h.rows.get hk).2) (fun _ hc => heap_setCell_other _ _ _ _ hc) (set_size _ _ _) rfl rfl rfl
theorem Upd.row (h : Upd own w w' l) (k : Nat) {b : Nat} {vs : Array Value} {t : TypeId} (hk : l[k]? = some (b, vs, t)) (cs : Array Value) : Upd own w (w'.setRow b cs) (l.set k (b, cs, t)) :=
  h.chg k hk (setRow_heap w' b vs cs t _ (h.rows.get hk).2) (fun c hc => by simp only [World.setRow, Array.getElem?_modify]; rw [if_neg (fun e => hc e.symm)]) (by simp) rfl rfl rfl
end

/-- What is known besides, and is kept by what others do and by what turns own blocks alone. -/
structure Keeps (r : Role) (F : Nat → World → Prop) : Prop where
  rely : ∀ y K K₁ w w₁, y.role = r → R y K K₁ w w₁ → F K w → F K₁ w₁
  own : ∀ y K w w', y.role = r → St y K w → (∀ b, b < w.heap.size → ¬ y.own b → w'.heap[b]? = w.heap[b]?) → F K w → F K w'
theorem Keeps.triv (r : Role) : Keeps r fun _ _ => True := ⟨fun _ _ _ _ _ _ _ _ => trivial, fun _ _ _ _ _ _ _ _ => trivial⟩

/-- What a goroutine carries along on a walk. -/
structure Ctx (N : Nat) (F : Nat → World → Prop) (y : Gh Role) (K : Nat) (w : World) (l : List Row) : Prop where
  rows : Rows y.own w l
  st : St y K w
  hi : ∀ b, y.own b → N ≤ b
  lo : ∀ b, y.own b → b < w.heap.size
  big : N ≤ w.heap.size
  keeps : Keeps y.role F
  mem : F K w

/-- It has grown. -/
structure Gr (y y' : Gh Role) : Prop where
  role : y'.role = y.role
  rem : y'.rem = y.rem
  deaf : y'.deaf = y.deaf
  own : ∀ b, y.own b → y'.own b
theorem Gr.refl (y : Gh Role) : Gr y y := ⟨rfl, rfl, rfl, fun _ h => h⟩
theorem Gr.trans {y y₁ y₂ : Gh Role} (h : Gr y y₁) (k : Gr y₁ y₂) : Gr y y₂ := ⟨k.role.trans h.role, k.rem.trans h.rem, k.deaf.trans h.deaf, fun b hb => k.own b (h.own b hb)⟩

section
variable {N : Nat} {F : Nat → World → Prop} {y : Gh Role} {K K₁ : Nat} {w w₁ : World} {l l' : List Row}

theorem R.le (h : R y K K₁ w w₁) : K₁ ≤ K := by
  unfold R at h
  split at h
  · exact Nat.le_of_eq h.1
  · exact h.1

theorem Ctx.rely (H : Ctx N F y K w l) (h : R y K K₁ w w₁) : Ctx N F y K₁ w₁ l := by
  have hm := H.keeps.rely _ _ _ _ _ rfl h H.mem
  unfold R at h
  split at h
  · obtain ⟨rfl, d, rfl⟩ := h
    exact ⟨H.rows.of (fun _ h => h) (fun _ _ => rfl), H.st.of_heap rfl, H.hi, H.lo, H.big, H.keeps, hm⟩
  · obtain ⟨_, h2, h3, h4, _⟩ := h
    exact ⟨H.rows.of (fun _ h => h) h3, h4 H.st, H.hi, fun b hb => Nat.lt_of_lt_of_le (H.lo b hb) h2, Nat.le_trans H.big h2, H.keeps, hm⟩
theorem Ctx.tail {p : Row} (H : Ctx N F y K w (p :: l)) : Ctx N F y K w l := ⟨H.rows.tail, H.st, H.hi, H.lo, H.big, H.keeps, H.mem⟩

def Gh.add (y : Gh Role) (b : Nat) : Gh Role := { y with own := fun c => y.own c ∨ c = b }
theorem gr_add (y : Gh Role) (b : Nat) : Gr y (Gh.add y b) := ⟨rfl, rfl, rfl, fun _ h => .inl h⟩

/-- St is kept where blocks that are its own turn. -/
theorem St.kept {y' : Gh Role} {w' : World} (h : St y K w) (e1 : y'.role = y.role) (e2 : y'.rem = y.rem) (ho : ∀ b, y'.own b → y.own b ∨ w.heap.size ≤ b) (hs : ∀ b, b < w.heap.size → ¬ y.own b → w'.heap[b]? = w.heap[b]?) (hsz : w.heap.size ≤ w'.heap.size) : St y' K w' := by
  have AP : ∀ c, Still c w → (∃ o, w.heap[c.wd]? = some o) → (∃ o, w.heap[c.wg]? = some o) → Ap c y.own → Ap c y'.own := fun c s ⟨o, a⟩ ⟨o', b⟩ ap x hx => by
    rcases ho x hx with hx | hx
    · exact ap x hx
    · have := lt_of_some s.tb; have := lt_of_some s.wb; have := lt_of_some a; have := lt_of_some b
      refine ⟨?_, ?_, ?_, ?_⟩ <;> omega
  have SS : ∀ c b, Ap c y.own → (b = c.tb ∨ b = c.wb ∨ b = c.wd ∨ b = c.wg) → ∀ o, w.heap[b]? = some o → w'.heap[b]? = some o := fun c b ap hb o e => by
    rw [hs b (lt_of_some e) fun hx => ?_]; exact e
    have := ap b hx
    rcases hb with e | e | e | e <;> simp [e] at this
  have ST : ∀ c, Still c w → Ap c y.own → Still c w' := fun c s ap => ⟨SS c _ ap (.inl rfl) _ s.tb, SS c _ ap (.inr (.inl rfl)) _ s.wb, s.d, s.T⟩
  refine ⟨by rw [e2]; exact h.1, ?_, ?_⟩
  · rw [e1]
    refine ⟨fun b hb => Nat.lt_of_lt_of_le (h.2.1.1 b hb) hsz, fun b hb hs' => ?_⟩
    have hlt := h.2.1.1 b hs'
    exact h.2.1.2 b (hb.imp (fun hb => (ho b hb).resolve_right (by omega)) id) hs'
  rw [e1]
  have h2 := h.2.2
  cases hr : y.role with
  | alone s => trivial
  | boss c p =>
    rw [hr] at h2
    obtain ⟨⟨h1, u, e, h3, h4⟩, ap⟩ := h2
    have hg : ∀ o, w.heap[c.wg]? = some o → w'.heap[c.wg]? = some o := SS c _ ap (.inr (.inr (.inr rfl)))
    cases p with
    | op k pend =>
      obtain ⟨n, a0, a, b, d, f⟩ := h4
      exact ⟨⟨ST c h1 ap, u, e, SS c _ ap (.inr (.inr (.inl rfl))) _ h3, n, a0, a, b, hg _ d, f⟩, AP c h1 ⟨_, h3⟩ ⟨_, d⟩ ap⟩
    | reg =>
      obtain ⟨s, m, a, b⟩ := h4
      exact ⟨⟨ST c h1 ap, u, e, SS c _ ap (.inr (.inr (.inl rfl))) _ h3, s, m, hg _ a, b⟩, AP c h1 ⟨_, h3⟩ ⟨_, a⟩ ap⟩
    | free =>
      obtain ⟨a, b⟩ := h4
      exact ⟨⟨ST c h1 ap, u, e, SS c _ ap (.inr (.inr (.inl rfl))) _ h3, hg _ a, b⟩, AP c h1 ⟨_, h3⟩ ⟨_, a⟩ ap⟩
  | work c q =>
    rw [hr] at h2
    obtain ⟨⟨h1, ⟨u, e, h3, h4⟩, h5⟩, ap⟩ := h2
    have hg : ∀ o, w.heap[c.wg]? = some o → w'.heap[c.wg]? = some o := SS c _ ap (.inr (.inr (.inr rfl)))
    have M : ∀ o, w.heap[c.wg]? = some o → StW c q w' → StW c q w' ∧ Ap c y'.own := fun o a b => ⟨b, AP c h1 ⟨_, h3⟩ ⟨_, a⟩ ap⟩
    have hd' := SS c _ ap (.inr (.inr (.inl rfl))) _ h3
    cases q with
    | busy _ _ => obtain ⟨v, wt, a, b, d⟩ := h5; exact M _ d ⟨ST c h1 ap, ⟨u, e, hd', h4⟩, v, wt, a, b, hg _ d⟩
    | rel => obtain ⟨v, wt, a, b, d⟩ := h5; exact M _ d ⟨ST c h1 ap, ⟨u, e, hd', h4⟩, v, wt, a, b, hg _ d⟩
    | deaf => obtain ⟨v, wt, a, b, d⟩ := h5; exact M _ d ⟨ST c h1 ap, ⟨u, e, hd', h4⟩, v, wt, a, b, hg _ d⟩
    | last => exact M _ h5 ⟨ST c h1 ap, ⟨u, e, hd', h4⟩, hg _ h5⟩
    | stored => exact M _ h5 ⟨ST c h1 ap, ⟨u, e, hd', h4⟩, hg _ h5⟩
    | gone => exact h5.elim
end
end Go.Proofs.Ytgnhddnhcfmipaa.Ids
