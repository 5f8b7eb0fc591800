/- IdleStorms: whoever steps, what all know goes on: the kinds of steps. -/
import Derived.Test.YtgnhddnhcfmipaaIds2
namespace Go.Proofs.Ytgnhddnhcfmipaa.Ids
open Go Go.Conc Go.RowKit Go.Proofs.Ytgnhddnhcfmipaa.Eg
open Go.ConcN (sumTo sumTo_congr le_sumTo upd upd_ne upd_same PermW)

theorem atm_eq {b i : Nat} {e : Event} (h : atm b i e) : e = ⟨.cell ⟨b, i, none⟩, e.write, true⟩ := by
  obtain ⟨l, wr, s⟩ := e
  obtain ⟨h1, h2⟩ := h
  simp only at h1 h2
  subst h1; subst h2; rfl
theorem atm_touch {b i : Nat} {e : Event} (h : atm b i e) : (MemAct.ofEvent e).touch? = some ⟨.cell ⟨b, i, none⟩, e.write, .atomic⟩ := by
  rw [atm_eq h]; rfl
theorem atm_ok {r : Role} {c : Cfg} (hc : r.cfg? = some c) {b i : Nat} {e : Event} (h : atm b i e) (hb : b = c.wg ∨ (b = c.wd ∧ i = 1)) (own : Nat → Prop) (m : Prop) : EvOk (sh.still r) (sh.shared r) own m e := by
  refine ⟨fun x hx => ?_, fun a ha => by rw [h.1] at ha; cases ha⟩
  rw [atm_touch h] at hx
  cases hx
  exact ⟨fun hk => (by cases hk), .inr (.inr ⟨(by simp only [sh, hc]; exact ⟨_, rfl, hb⟩), (by simp)⟩)⟩
theorem mark_ok {still shared : Loc → Prop} {own : Nat → Prop} {m : Prop} {e : Event} (ht : (MemAct.ofEvent e).touch? = none) (hr : ∀ a, e.loc ≠ .mark (.release a)) : EvOk still shared own m e :=
  ⟨fun x hx => (by rw [ht] at hx; cases hx), hr⟩
theorem atm_deaf {b i : Nat} {es : Array Event} (h : ∀ e ∈ es, atm b i e) (d : Nat) : deafBehind d es = d :=
  deafBehind_still (fun e he => by rw [(h e he).1]; exact ⟨by simp, by simp⟩) d
/-- An atomic touch of the group's cells by one who is deaf. -/
theorem atm_rel {c : Cfg} {i : Nat} {es : Array Event} (h : ∀ e ∈ es, atm c.wg i e) {d : Nat} (hd : 0 < d) : ∀ j e, es[j]? = some e → (MemAct.ofEvent e).touch? = none ∨ ((∃ ad : Addr, ad.block = (ga c).block ∧ ∃ wr, e = ⟨.cell ad, wr, true⟩) ∧ 0 < deafBehind d (es.extract 0 j)) := by
  intro j e he
  have hm := Array.mem_of_getElem? he
  refine .inr ⟨⟨⟨c.wg, i, none⟩, rfl, _, atm_eq (h e hm)⟩, ?_⟩
  rw [atm_deaf (b := c.wg) (i := i) fun x hx => h x ?_]
  · exact hd
  · obtain ⟨k, hk, rfl⟩ := Array.mem_iff_getElem.1 hx
    simp at hk
    simp

theorem WP.stand {c : Cfg} {p : Bp} {n h nl ns : Nat} {e : Bool} {w w' : World} (H : WP c p n h nl ns e w) (h1 : w'.heap[c.tb]? = w.heap[c.tb]?) (h2 : w'.heap[c.wb]? = w.heap[c.wb]?) (h3 : w'.heap[c.wd]? = w.heap[c.wd]?) (h4 : w'.heap[c.wg]? = w.heap[c.wg]?) : WP c p n h nl ns e w' := by
  unfold WP at *
  rw [h3, h4]
  exact ⟨⟨h1 ▸ H.1.tb, h2 ▸ H.1.wb, H.1.d, H.1.T⟩, H.2⟩

section
variable {W₀ : World} {sz : Nat} {y : Nat → Gh Role} {fin : Nat → Bool} {K : Nat} {w : World} {t : Trace} {i : Nat}

theorem sum_mono {f g : Nat → Nat} {s : Nat} (h : ∀ j, j < s → f j ≤ g j) : sumTo s f ≤ sumTo s g := by
  induction s with
  | zero => exact Nat.le_refl _
  | succ s ih =>
    simp only [sumTo]
    have := ih fun j hj => h j (by omega)
    have := h s (by omega)
    omega
theorem sm_held {sz : Nat} {y : Nat → Gh Role} {fin : Nat → Bool} : sm (rc Wp.held) sz y fin ≤ sm (rc Wp.cnt) sz y fin := by
  refine sum_mono fun j _ => ?_
  split
  · exact Nat.le_refl _
  · unfold rc
    split
    · rename_i p _
      cases p with
      | busy a b => cases a <;> simp [Wp.held, Wp.cnt]
      | _ => simp [Wp.held]
    · exact Nat.le_refl _
theorem lt_of_some {w : World} {b : Nat} {o : Obj} (h : w.heap[b]? = some o) : b < w.heap.size := (Array.getElem?_eq_some_iff.1 h).1

theorem WP.lt {c : Cfg} {p : Bp} {n h nl ns : Nat} {e : Bool} {w : World} (H : WP c p n h nl ns e w) : c.tb < w.heap.size ∧ c.wb < w.heap.size ∧ c.wd < w.heap.size ∧ c.wg < w.heap.size := by
  refine ⟨lt_of_some H.1.tb, lt_of_some H.1.wb, lt_of_some H.2.1, ?_⟩
  have h6 := H.2.2.2.2.2
  cases p with
  | op _ _ => exact lt_of_some h6.2.2.2.2.1
  | reg => rcases h6.1 with ⟨_, _, _, x⟩ | ⟨_, _, _, x⟩ | ⟨_, _, _, x⟩ | ⟨_, _, _, x⟩ <;> exact lt_of_some x
  | free => exact lt_of_some h6.2.2.2.1

/-- The book of those who have gone, where goroutine i acts. -/
theorem done_app {c : Cfg} {fin' : Nat → Bool} (hd : ∀ j, j ≠ 0 → (j < sz ∧ fin j = false) ∨ Eg.Told c.shun t j ∨ ∃ r, Rel (ga c) t j r) {u : Trace} (hu : ∀ op ∈ u, op.g = i) (hi : fin i = false → i < sz → i ≠ 0 → (i < sz ∧ fin' i = false) ∨ ∃ r, Rel (ga c) (t ++ u) i r)
    (hif : i < sz ∧ fin i = false) (hn : ∀ j, j ≠ i → fin' j = fin j) : ∀ j, j ≠ 0 → (j < sz ∧ fin' j = false) ∨ Eg.Told c.shun (t ++ u) j ∨ ∃ r, Rel (ga c) (t ++ u) j r := by
  intro j hj
  by_cases e : j = i
  · subst e
    exact (hi hif.2 hif.1 hj).imp id .inr
  · rw [hn j e]
    refine (hd j hj).imp id (Or.imp (fun h => h.app fun op hop hg => ?_) fun ⟨r, h⟩ => ⟨r, h.other fun op hop hg => ?_⟩)
    · exact absurd ((hu op hop).symm.trans hg).symm e
    · exact absurd ((hu op hop).symm.trans hg).symm e

theorem ops_g {i : Nat} {fn : FuncId} {pos : String} {es : Array Event} : ∀ op ∈ MemOp.ofEvents i fn pos es, op.g = i := fun op hop => by obtain ⟨e, _, rfl⟩ := Conc.mem_ofEvents hop; rfl

/-- ████ A WORKER's TURN. ████ -/
theorem turnW (h : Cons W₀ sz y fin K w t) (hi : i < sz) (hf : fin i = false) {c : Cfg} {q q' : Wp} (hr : (y i).role = .work c q) {r' d' K' : Nat} {w' : World} {es : Array Event} (fn : FuncId) (pos : String) (hd : d' = deafBehind (y i).deaf es)
    (he : ∀ e ∈ es, EvOk (sh.still (.work c q')) (sh.shared (.work c q')) (y i).own (i = 0) e) (hrel : q'.out = true → ∃ r, Rel (ga c) (t ++ MemOp.ofEvents i fn pos es) i r) (hrem : r' + K ≤ (y i).rem + K')
    (hsz : w'.heap.size = w.heap.size) (hB : Below W₀.heap.size w w') (hq : 0 < q'.cnt + q'.nl + q'.ns)
    (hW : ∀ p e n u nl ns n' u' nl' ns', (y 0).role = .boss c p → WP c p n u nl ns e w → (q.sure c.T → e = true) → q.cnt ≤ n → q.held ≤ u → q.nl ≤ nl → q.ns ≤ ns → n' + q.cnt = n + q'.cnt → u' + q.held = u + q'.held → nl' + q.nl = nl + q'.nl → ns' + q.ns = ns + q'.ns → u' ≤ n' →
      ∃ e' : Bool, (e = true → e' = true) ∧ (q'.sure c.T → e' = true) ∧ WP c p n' u' nl' ns' e' w') :
    Cons W₀ sz (upd y i ⟨(y i).own, r', d', .work c q'⟩) fin K' w' (t ++ MemOp.ofEvents i fn pos es) := by
  obtain ⟨h0, p, e, h0r, hb, hc, hs, ho, hp, n1, n2, n3⟩ := h.worker hi hf hr
  have e1 : ∀ l, sh.still (Role.work c q') l → sh.still (y i).role l := fun l hl => by rw [hr]; exact hl
  have e2 : ∀ l, sh.shared (Role.work c q') l → sh.shared (y i).role l := fun l hl => by rw [hr]; exact hl
  have G := h.gc.plain (y' := ⟨(y i).own, r', d', .work c q'⟩) (n' := w'.heap.size) (es := es) hi hf fn pos (by omega) (fun b hb => .inl hb) e1 e2 hd he
  have E : ∀ f : Wp → Nat, sm (rc f) sz (upd y i ⟨(y i).own, r', d', .work c q'⟩) fin + f q = sm (rc f) sz y fin + f q' := fun f => by
    have := sm_upd (f := rc f) (y := y) hi hf ⟨(y i).own, r', d', .work c q'⟩
    rwa [rc_work hr, rc_work (p := q') rfl] at this
  have L : ∀ f : Wp → Nat, f q ≤ sm (rc f) sz y fin := fun f => by
    have := sm_le (f := rc f) (y := y) hi hf
    rwa [rc_work hr] at this
  obtain ⟨e', g1, g2, g3⟩ := hW p e _ _ _ _ _ _ _ _ h0r hb.wp hs (L _) (L _) (L _) (L _) (E _) (E _) (E _) (E _) sm_held
  refine ⟨G, h.below.trans hB, fun j b hj hfj hbj => ?_, h.main, ?_, ?_, ?_⟩
  · by_cases e : j = i
    · subst e; rw [upd_same] at hbj; exact h.high j b hj hfj hbj
    · rw [upd_ne _ _ e] at hbj; exact h.high j b hj hfj hbj
  · have := sm_upd (f := Gh.rem) (y := y) hi hf ⟨(y i).own, r', d', .work c q'⟩
    have := h.rem
    simp only at *
    omega
  · rw [upd_ne _ _ (Ne.symm h0), hsz]; exact h.clean
  · rw [upd_ne _ _ (Ne.symm h0), h0r]
    refine ⟨⟨n1, n2, n3⟩, e', ⟨fun j hj hj0 hfj => ?_, done_app hb.done ops_g (fun a b _ => .inl ⟨b, a⟩) ⟨hi, hf⟩ (fun _ _ => rfl), g3⟩⟩
    by_cases e : j = i
    · subst e
      rw [upd_same]
      exact ⟨q', rfl, hq, g2, hrel⟩
    · rw [upd_ne _ _ e]
      obtain ⟨q₂, a, b, d, f⟩ := hb.live j hj hj0 hfj
      refine ⟨q₂, a, b, fun x => g1 (d x), fun x => ?_⟩
      obtain ⟨r, hr⟩ := f x
      exact ⟨r, hr.other fun op hop hg => e ((ops_g op hop).symm.trans hg).symm⟩

/-- ████ A WORKER LEAVES. ████ -/
theorem turnX (h : Cons W₀ sz y fin K w t) (hi : i < sz) (hf : fin i = false) {c : Cfg} {q : Wp} (hr : (y i).role = .work c q) {y' : Gh Role} {K' : Nat} {w' : World} {es : Array Event} (fn : FuncId) (pos : String)
    (he : ∀ e ∈ es, EvOk (sh.still (.work c q)) (sh.shared (.work c q)) (y i).own (i = 0) e) (hrel : ∃ r, Rel (ga c) (t ++ MemOp.ofEvents i fn pos es) i r) (hrem : K ≤ (y i).rem + K')
    (hsz : w'.heap.size = w.heap.size) (hB : Below W₀.heap.size w w')
    (hW : ∀ p e n u nl ns n' u' nl' ns', (y 0).role = .boss c p → WP c p n u nl ns e w → (q.sure c.T → e = true) → n' + q.cnt = n → u' + q.held = u → nl' + q.nl = nl → ns' + q.ns = ns → u' ≤ n' → WP c p n' u' nl' ns' e w') :
    Cons W₀ sz (upd y i y') (upd fin i true) K' w' (t ++ MemOp.ofEvents i fn pos es) := by
  obtain ⟨h0, p, e, h0r, hb, hc, hs, ho, hp, n1, n2, n3⟩ := h.worker hi hf hr
  have G := h.gc.plain (y' := ⟨(y i).own, (y i).rem, deafBehind (y i).deaf es, .work c q⟩) (n' := w'.heap.size) (es := es) hi hf fn pos (by omega) (fun b hb => .inl hb) (fun l hl => by rw [hr]; exact hl) (fun l hl => by rw [hr]; exact hl) rfl he
  have E : ∀ f : Wp → Nat, sm (rc f) sz (upd y i y') (upd fin i true) + f q = sm (rc f) sz y fin := fun f => by
    have := sm_exit (f := rc f) (y := y) hi hf y'
    rwa [rc_work hr] at this
  have hfi : ∀ j, upd fin i true j = false → j ≠ i ∧ fin j = false := fun j hj => by
    by_cases e : j = i
    · subst e; rw [upd_same] at hj; cases hj
    · rw [upd_ne _ _ e] at hj; exact ⟨e, hj⟩
  have G' : GC sh sz (upd y i y') (upd fin i true) w'.heap.size (t ++ MemOp.ofEvents i fn pos es) := by
    have G2 := G.quit i
    have D := G2.dens
    have ey : ∀ j, upd fin i true j = false → upd y i y' j = upd y i ⟨(y i).own, (y i).rem, deafBehind (y i).deaf es, .work c q⟩ j := fun j hj => by rw [upd_ne _ _ (hfi j hj).1, upd_ne _ _ (hfi j hj).1]
    refine G2.anew (Nat.le_refl _) ⟨fun j b a c => ?_, fun j l a c => ?_, fun j k b a a' c c' => ?_, fun j k b a a' c c' => ?_, fun j k b a a' c c' => ?_, fun j k b a a' c c' => ?_⟩ (fun j a c => ?_) ?_ ?_ ?_
    · rw [ey j c]; exact D.low j b a c
    · rw [ey j c]; exact D.lowS j l a c
    · rw [ey j c, ey k c']; exact D.apart j k b a a' c c'
    · rw [ey j c, ey k c']; exact D.ownSt j k b a a' c c'
    · rw [ey j c, ey k c']; exact D.ownSh j k b a a' c c'
    · rw [ey j c, ey k c']; exact D.stSh j k b a a' c c'
    · rw [ey j c]; exact G2.deaf j a c
    · rintro g l ⟨a, c, hx⟩; rw [ey g c] at hx; exact G2.ti.own g l ⟨a, c, hx⟩
    · rintro g l ⟨a, c, hx⟩; rw [ey g c] at hx; exact G2.ti.rd g l ⟨a, c, hx⟩
    · rintro g l ⟨a, c, hx⟩; rw [ey g c] at hx; exact G2.ti.at_ g l ⟨a, c, hx⟩
  have g3 := hW p e _ _ _ _ _ _ _ _ h0r hb.wp hs (E _) (E _) (E _) (E _) sm_held
  refine ⟨G', h.below.trans hB, fun j b hj hfj hbj => ?_, ⟨h.main.1, by rw [upd_ne _ _ (Ne.symm h0)]; exact h.main.2⟩, ?_, ?_, ?_⟩
  · obtain ⟨a, b'⟩ := hfi j hfj
    rw [upd_ne _ _ a] at hbj; exact h.high j b hj b' hbj
  · have := sm_exit (f := Gh.rem) (y := y) hi hf y'
    have := h.rem
    omega
  · rw [upd_ne _ _ (Ne.symm h0), hsz]; exact h.clean
  · rw [upd_ne _ _ (Ne.symm h0), h0r]
    refine ⟨⟨n1, n2, n3⟩, e, ⟨fun j hj hj0 hfj => ?_, done_app hb.done ops_g (fun a b _ => .inr hrel) ⟨hi, hf⟩ (fun j hj => upd_ne _ _ hj), g3⟩⟩
    obtain ⟨e, hfj'⟩ := hfi j hfj
    rw [upd_ne _ _ e]
    obtain ⟨q₂, a, b, d, f⟩ := hb.live j hj hj0 hfj'
    refine ⟨q₂, a, b, d, fun x => ?_⟩
    obtain ⟨r, hr⟩ := f x
    exact ⟨r, hr.other fun op hop hg => e ((ops_g op hop).symm.trans hg).symm⟩

/-- ████ GOROUTINE 0's TURN IN A STORM. ████ -/
theorem turn0 (h : Cons W₀ sz y fin K w t) {c : Cfg} {p p' : Bp} (hr : (y 0).role = .boss c p) {r' d' K' : Nat} {w' : World} {es : Array Event} (fn : FuncId) (pos : String) (hd : d' = deafBehind (y 0).deaf es)
    (he : ∀ e ∈ es, EvOk (sh.still (.boss c p')) (sh.shared (.boss c p')) (y 0).own True e) (hrem : r' + K ≤ (y 0).rem + K')
    (hsz : w'.heap.size = w.heap.size) (hB : Below W₀.heap.size w w')
    (hW : ∀ e n u nl ns, WP c p n u nl ns e w → WP c p' n u nl ns e w') :
    Cons W₀ sz (upd y 0 ⟨(y 0).own, r', d', .boss c p'⟩) fin K' w' (t ++ MemOp.ofEvents 0 fn pos es) := by
  obtain ⟨hi, hf⟩ := h.main
  have hx := h.role
  rw [hr] at hx
  obtain ⟨n, e, hb⟩ := hx
  have G := h.gc.plain (y' := ⟨(y 0).own, r', d', .boss c p'⟩) (n' := w'.heap.size) (es := es) hi hf fn pos (by omega) (fun b hb => .inl hb) (fun l hl => by rw [hr]; exact hl) (fun l hl => by rw [hr]; exact hl) hd (fun e hem => by
    obtain ⟨a, b⟩ := he e hem
    exact ⟨fun x hx => ⟨fun _ => rfl, (a x hx).2⟩, b⟩)
  have E : ∀ f : Wp → Nat, sm (rc f) sz (upd y 0 ⟨(y 0).own, r', d', .boss c p'⟩) fin = sm (rc f) sz y fin := fun f => by
    have := sm_upd (f := rc f) (y := y) hi hf ⟨(y 0).own, r', d', .boss c p'⟩
    rwa [rc_boss hr, rc_boss (p := p') rfl] at this
  refine ⟨G, h.below.trans hB, fun j b hj hfj hbj => ?_, h.main, ?_, ?_, ?_⟩
  · by_cases e : j = 0
    · subst e; rw [upd_same] at hbj; exact h.high 0 b hj hfj hbj
    · rw [upd_ne _ _ e] at hbj; exact h.high j b hj hfj hbj
  · have := sm_upd (f := Gh.rem) (y := y) hi hf ⟨(y 0).own, r', d', .boss c p'⟩
    have := h.rem
    simp only at *
    omega
  · rw [upd_same, hsz]
    have := h.clean
    rw [hr] at this
    exact this
  · rw [upd_same]
    refine ⟨n, e, ⟨fun j hj hj0 hfj => ?_, done_app hb.done ops_g (fun a b x => absurd rfl x) ⟨hi, hf⟩ (fun _ _ => rfl), by rw [E, E, E, E]; exact hW _ _ _ _ _ hb.wp⟩⟩
    rw [upd_ne _ _ hj0]
    obtain ⟨q₂, a, b, d, f⟩ := hb.live j hj hj0 hfj
    refine ⟨q₂, a, b, d, fun x => ?_⟩
    obtain ⟨r, hr⟩ := f x
    exact ⟨r, hr.other fun op hop hg => hj0 ((ops_g op hop).symm.trans hg).symm⟩
end
end Go.Proofs.Ytgnhddnhcfmipaa.Ids
