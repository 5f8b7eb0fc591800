/- IdleStorms: plain steps; the storm's beginning and end; a go statement. -/
import Derived.Test.YtgnhddnhcfmipaaIds3
namespace Go.Proofs.Ytgnhddnhcfmipaa.Ids
open Go Go.Conc Go.RowKit Go.Proofs.Ytgnhddnhcfmipaa.Eg
open Go.ConcN (sumTo sumTo_congr le_sumTo upd upd_ne upd_same PermW Deaf_absent)

section
variable {W₀ : World} {sz : Nat} {y : Nat → Gh Role} {fin : Nat → Bool} {K : Nat} {w : World} {t : Trace} {i : Nat}

theorem rc_eq {f : Wp → Nat} {y y' : Gh Role} (e : y'.role = y.role) : rc f y' = rc f y := by unfold rc; rw [e]

/-- Who steps where goroutine 0 is alone: goroutine 0. -/
theorem Cons.one (h : Cons W₀ sz y fin K w t) {s : Nat → Prop} (h0 : (y 0).role = .alone s) (hi : i < sz) (hf : fin i = false) : i = 0 :=
  Classical.byContradiction fun hne => by
    have hx := h.role
    rw [h0] at hx
    have := hx.1 i hi hne
    rw [hf] at this; cases this

theorem Cons.mainIs (h : Cons W₀ sz y fin K w t) (hi : i < sz) (hf : fin i = false) (hm : (y i).role.main) : i = 0 :=
  Classical.byContradiction fun hne => by
    have hx := h.role
    cases h0 : (y 0).role with
    | alone s => exact hne (h.one h0 hi hf)
    | work c p => rw [h0] at hx; exact hx
    | boss c p =>
      rw [h0] at hx
      obtain ⟨_, e, hb⟩ := hx
      obtain ⟨q, hq, _⟩ := hb.live i hi hne hf
      rw [hq] at hm; exact hm

theorem plain_step (h : Cons W₀ sz y fin K w t) (hi : i < sz) (hf : fin i = false) {y' : Gh Role} {K' : Nat} {w' : World} {es : Array Event} (fn : FuncId) (pos : String) (hp : Plain W₀.heap.size (y i) K w y' K' w' es) :
    Cons W₀ sz (upd y i y') fin K' w' (t ++ MemOp.ofEvents i fn pos es) := by
  obtain ⟨rfl, er, erem, ed, hB, ho1, ho2, hst, he, hq⟩ := hp
  have G := h.gc.plain (y' := y') (n' := w'.heap.size) (es := es) hi hf fn pos hB.size ho2 (fun l hl => er ▸ hl) (fun l hl => er ▸ hl) ed (fun e hem => by
    obtain ⟨a, b⟩ := he e hem
    refine ⟨fun x hx => ⟨fun hs => h.mainIs hi hf ((a x hx).1 hs), ?_⟩, b⟩
    rw [er]; exact (a x hx).2)
  have E : ∀ f : Wp → Nat, sm (rc f) sz (upd y i y') fin = sm (rc f) sz y fin := fun f => by
    have := sm_upd (f := rc f) (y := y) hi hf y'
    rw [rc_eq er] at this
    omega
  have e0 : (upd y i y' 0).role = (y 0).role := by
    by_cases e : i = 0
    · subst e; rw [upd_same]; exact er
    · rw [upd_ne _ _ (Ne.symm e)]
  refine ⟨G, h.below.trans hB, fun j b hj hfj hbj => ?_, h.main, ?_, ?_, ?_⟩
  · by_cases e : j = i
    · subst e; rw [upd_same] at hbj
      rcases ho2 b hbj with x | x
      · exact h.high j b hj hfj x
      · have := h.below.size; omega
    · rw [upd_ne _ _ e] at hbj; exact h.high j b hj hfj hbj
  · have := sm_upd (f := Gh.rem) (y := y) hi hf y'
    have := h.rem
    omega
  · rw [e0]
    have hcl := h.clean
    refine ⟨fun b hb => Nat.lt_of_lt_of_le (hcl.1 b hb) hB.size, fun b hb hs => ?_⟩
    have hlt := hcl.1 b hs
    refine hcl.2 b (hb.imp (fun hb => ?_) id) hs
    by_cases e : i = 0
    · subst e
      rw [upd_same] at hb
      rcases ho2 b hb with x | x
      · exact x
      · omega
    · rw [upd_ne _ _ (Ne.symm e)] at hb
      exact hb
  · rw [e0]
    have hx := h.role
    cases h0 : (y 0).role with
    | work c p => rw [h0] at hx; exact hx.elim
    | alone s =>
      rw [h0] at hx
      have := h.one h0 hi hf
      subst this
      exact ⟨hx.1, fun j hj => (hx.2 j hj).app fun op hop hg => absurd ((ops_g op hop).symm.trans hg).symm hj⟩
    | boss c p =>
      rw [h0] at hx
      obtain ⟨n, e, hb⟩ := hx
      have hlt := hb.wp.lt
      have ap : ∀ b, (b = c.tb ∨ b = c.wb ∨ b = c.wd ∨ b = c.wg) → ¬ (y i).own b := fun b hb ho => by
        have := h.apart h0 hi hf ho
        rcases hb with e | e | e | e <;> simp [e] at this
      refine ⟨n, e, ⟨fun j hj hj0 hfj => ?_, ?_, ?_⟩⟩
      · by_cases e : j = i
        · subst e
          obtain ⟨q, a, b, d, f⟩ := hb.live j hj hj0 hfj
          refine ⟨q, by rw [upd_same, er]; exact a, b, d, fun x => ?_⟩
          obtain ⟨r, hr⟩ := f x
          have hqq : (y j).role.quiet = true := by rw [a]; cases q <;> first | rfl | cases x
          rw [hq hqq]
          have : MemOp.ofEvents j fn pos #[] = #[] := ofEvents_none _ _ _
          rw [this, Array.append_empty]
          exact ⟨r, hr⟩
        · rw [upd_ne _ _ e]
          obtain ⟨q₂, a, b, d, f⟩ := hb.live j hj hj0 hfj
          refine ⟨q₂, a, b, d, fun x => ?_⟩
          obtain ⟨r, hr⟩ := f x
          exact ⟨r, hr.other fun op hop hg => e ((ops_g op hop).symm.trans hg).symm⟩
      · by_cases e : i = 0
        · subst e
          exact done_app hb.done ops_g (fun a b x => absurd rfl x) ⟨hi, hf⟩ (fun _ _ => rfl)
        · exact done_app hb.done ops_g (fun a b _ => .inl ⟨b, a⟩) ⟨hi, hf⟩ (fun _ _ => rfl)
      · rw [E, E, E, E]
        exact hb.wp.stand (hst _ hlt.1 (ap _ (.inl rfl))) (hst _ hlt.2.1 (ap _ (.inr (.inl rfl)))) (hst _ hlt.2.2.1 (ap _ (.inr (.inr (.inl rfl))))) (hst _ hlt.2.2.2 (ap _ (.inr (.inr (.inr rfl)))))

/-- ████ THE STORM BEGINS. ████ -/
theorem start_step (h : Cons W₀ sz y fin K w t) {c : Cfg} (hr : (y 0).role = .alone c.shun) (hs : Still c w) (hwd : w.heap[c.wd]? = some (wdO c 0 false)) (hwg : w.heap[c.wg]? = some (grO 0 0)) (ho : (y 0).own c.wd ∧ (y 0).own c.wg ∧ (y 0).own c.tb ∧ (y 0).own c.wb)
    (hne : c.wg ≠ c.wd ∧ c.wg ≠ c.tb ∧ c.wg ≠ c.wb ∧ c.wd ≠ c.tb ∧ c.wd ≠ c.wb) :
    Cons W₀ sz (upd y 0 ⟨fun b => (y 0).own b ∧ b ≠ c.wd ∧ b ≠ c.wg ∧ b ≠ c.tb ∧ b ≠ c.wb, (y 0).rem, (y 0).deaf, .boss c (.op 0 false)⟩) fin K w t := by
  obtain ⟨hi, hf⟩ := h.main
  have D := h.gc.dens
  have one : ∀ j, j < sz → fin j = false → j = 0 := fun j a b => h.one hr a b
  have hx := h.role
  rw [hr] at hx
  have ow : ∀ l, sh.still (.boss c (.op 0 false)) l ∨ sh.shared (.boss c (.op 0 false)) l → inB (y 0).own l := by
    rintro l (⟨a, rfl, hb⟩ | ⟨a, rfl, hb⟩)
    · rcases hb with e | e | ⟨e, _⟩
      · exact ⟨_, rfl, e ▸ ho.2.2.1⟩
      · exact ⟨_, rfl, e ▸ ho.2.2.2⟩
      · exact ⟨_, rfl, e ▸ ho.1⟩
    · rcases hb with e | ⟨e, _⟩
      · exact ⟨_, rfl, e ▸ ho.2.1⟩
      · exact ⟨_, rfl, e ▸ ho.1⟩
  have oS : ∀ l, inB (fun b => (y 0).own b ∧ b ≠ c.wd ∧ b ≠ c.wg ∧ b ≠ c.tb ∧ b ≠ c.wb) l → ¬ (sh.still (.boss c (.op 0 false)) l ∨ sh.shared (.boss c (.op 0 false)) l) := by
    rintro l ⟨b, h1, _, b1, b2, b3, b4⟩ (⟨a, rfl, hb⟩ | ⟨a, rfl, hb⟩) <;> (simp only [blk, Option.some.injEq] at h1; subst h1)
    · rcases hb with e | e | ⟨e, _⟩
      · exact b3 e
      · exact b4 e
      · exact b1 e
    · rcases hb with e | ⟨e, _⟩
      · exact b2 e
      · exact b1 e
  have P0 : ∀ l, inB (y 0).own l → Perm t 0 l := fun l hl => h.gc.ti.own 0 l ⟨hi, hf, hl⟩
  refine ⟨h.gc.anew (Nat.le_refl _) ⟨fun j b a a' hb => ?_, fun j l a a' hl => ?_, fun j k b a a' d d' hne' => ?_, fun j k l a a' d d' h1 h2 => ?_, fun j k l a a' d d' h1 h2 => ?_, fun j k l a a' d d' h1 h2 => ?_⟩ (fun j a a' => ?_) ?_ ?_ ?_, h.below, fun j b a a' hb => ?_, h.main, ?_, ?_, ?_⟩
  · obtain rfl := one j a a'; rw [upd_same] at hb; exact D.low 0 b a a' hb.1
  · obtain rfl := one j a a'; rw [upd_same] at hl
    obtain ⟨b, h1, h2⟩ := ow l hl
    exact ⟨b, h1, D.low 0 b a a' h2⟩
  · exact absurd ((one j a d).trans (one k a' d').symm) hne'
  · obtain rfl := one j a d; obtain rfl := one k a' d'; rw [upd_same] at h1 h2; exact oS l h1 (.inl h2)
  · obtain rfl := one j a d; obtain rfl := one k a' d'; rw [upd_same] at h1 h2; exact oS l h1 (.inr h2)
  · obtain rfl := one j a d; obtain rfl := one k a' d'; rw [upd_same] at h1 h2
    obtain ⟨x, rfl, hb⟩ := h1
    obtain ⟨x', e, hb'⟩ := h2
    injection e with e
    subst e
    rcases hb with e | e | ⟨e, e1⟩ <;> rcases hb' with e' | ⟨e', e2⟩
    · exact hne.2.1 (e'.symm.trans e)
    · exact hne.2.2.2.1 (e'.symm.trans e)
    · exact hne.2.2.1 (e'.symm.trans e)
    · exact hne.2.2.2.2 (e'.symm.trans e)
    · exact hne.1 (e'.symm.trans e)
    · exact e1 e2
  · obtain rfl := one j a a'; rw [upd_same]; exact h.gc.deaf 0 a a'
  · rintro g l ⟨a, a', hl⟩
    obtain rfl := one g a a'; rw [upd_same] at hl
    obtain ⟨b, h1, h2⟩ := hl
    exact P0 l ⟨b, h1, h2.1⟩
  · rintro g l ⟨a, a', hl⟩
    obtain rfl := one g a a'; rw [upd_same] at hl
    exact .of (P0 l (ow l (.inl hl)))
  · rintro g l ⟨a, a', hl⟩
    obtain rfl := one g a a'; rw [upd_same] at hl
    exact .of (P0 l (ow l (.inr hl)))
  · obtain rfl := one j a a'; rw [upd_same] at hb; exact h.high 0 b a a' hb.1
  · have := sm_upd (f := Gh.rem) (y := y) hi hf ⟨fun b => (y 0).own b ∧ b ≠ c.wd ∧ b ≠ c.wg ∧ b ≠ c.tb ∧ b ≠ c.wb, (y 0).rem, (y 0).deaf, .boss c (.op 0 false)⟩
    have := h.rem
    simp only at *
    omega
  · rw [upd_same]
    have hcl := h.clean
    rw [hr] at hcl
    refine ⟨hcl.1, fun b hb => ?_⟩
    rcases hb with hb | rfl | rfl | rfl
    · exact hcl.2 b (.inl hb.1)
    · exact hcl.2 _ (.inl ho.1)
    · exact hcl.2 _ (.inl ho.2.2.1)
    · exact hcl.2 _ (.inl ho.2.2.2)
  · rw [upd_same]
    have Z : ∀ f : Wp → Nat, sm (rc f) sz (upd y 0 ⟨fun b => (y 0).own b ∧ b ≠ c.wd ∧ b ≠ c.wg ∧ b ≠ c.tb ∧ b ≠ c.wb, (y 0).rem, (y 0).deaf, .boss c (.op 0 false)⟩) fin = 0 := fun f =>
      sm_zero fun j a a' => by obtain rfl := one j a a'; rw [upd_same]; rfl
    refine ⟨⟨h.high 0 _ hi hf ho.2.1, h.high 0 _ hi hf ho.1, hne.1⟩, false, ⟨fun j a b d => absurd (one j a d) b, fun j hj => .inr (.inl (hx.2 j hj)), ?_⟩⟩
    rw [Z, Z, Z, Z]
    exact ⟨hs, hwd, Nat.le_refl _, by omega, fun e => (by cases e), rfl, rfl, Nat.le_refl _, by simp [b2n], by simpa [b2n] using hwg, .inl rfl⟩

/-- ████ GOROUTINE 0 TAKES OVER. ████ -/
theorem acq_step (h : Cons W₀ sz y fin K w t) {c : Cfg} (hr : (y 0).role = .boss c .free) (hdf : (y 0).deaf = 0) (fn : FuncId) (pos : String) :
    Cons W₀ sz (upd y 0 ⟨fun b => W₀.heap.size ≤ b ∧ b < w.heap.size ∧ ¬ c.shun b ∧ b ≠ c.wg, (y 0).rem, (y 0).deaf, .alone fun b => c.shun b ∨ b = c.wg⟩) fin K w (t ++ MemOp.ofEvents 0 fn pos #[⟨.mark (.acquire ⟨c.wg, 0, none⟩), false, true⟩]) := by
  obtain ⟨hi, hf⟩ := h.main
  have hx := h.role
  rw [hr] at hx
  obtain ⟨_, e, hb⟩ := hx
  have hb' := hb.wp.lt
  have one : ∀ j, j < sz → fin j = false → j = 0 := fun j a a' => Classical.byContradiction fun hne => by
    obtain ⟨q, hq, _⟩ := hb.live j a hne a'
    obtain ⟨_, p, _, h0r, _, _, _, _, hp, _⟩ := h.worker a a' hq
    rw [hr] at h0r
    injection h0r with _ e2
    subst e2
    exact hp
  have hq : (MemOp.ofEvents 0 fn pos #[⟨.mark (.acquire ⟨c.wg, 0, none⟩), false, true⟩]) = #[{ g := 0, fn := fn, pos := pos, act := .mark (.acquire (ga c)) }] := by rw [ofEvents_eq]; simp [MemAct.ofEvent, ga]
  have G := h.gc.plain (y' := y 0) (n' := w.heap.size) (es := #[⟨.mark (.acquire ⟨c.wg, 0, none⟩), false, true⟩]) hi hf fn pos (Nat.le_refl _) (fun b hb => .inl hb) (fun l hl => hl) (fun l hl => hl) (by rw [deafBehind_still]; simp) (fun e hem => by
    simp only [List.mem_toArray, List.mem_cons, List.not_mem_nil, or_false] at hem
    subst hem
    exact mark_ok rfl (by simp))
  have ey : upd y 0 (y 0) = y := by funext j; by_cases e : j = 0 <;> simp [upd, e]
  rw [ey] at G
  rw [hq] at G ⊢
  have hsz : (t ++ #[({ g := 0, fn := fn, pos := pos, act := .mark (.acquire (ga c)) } : MemOp)])[t.size]? = some { g := 0, fn := fn, pos := pos, act := .mark (.acquire (ga c)) } := by
    rw [Array.getElem?_append_right (Nat.le_refl _)]; simp
  have heard : (t ++ #[({ g := 0, fn := fn, pos := pos, act := .mark (.acquire (ga c)) } : MemOp)]).heard t.size := by
    refine ⟨0, by simp [Trace.g?], ?_⟩
    rw [deaf_old (Nat.le_refl _)]
    exact (h.gc.deaf 0 hi hf).trans hdf
  have told : ∀ k, k ≠ 0 → Eg.Told (fun b => c.shun b ∨ b = c.wg) (t ++ #[({ g := 0, fn := fn, pos := pos, act := .mark (.acquire (ga c)) } : MemOp)]) k := fun k hk => by
    rcases hb.done k hk with ⟨a, a'⟩ | a | ⟨r, a⟩
    · exact absurd (one k a a') hk
    · refine Eg.Told.app (a.mono fun b hb => .inl hb) fun op hop hg => ?_
      simp only [List.mem_toArray, List.mem_cons, List.not_mem_nil, or_false] at hop
      subst hop
      exact absurd hg.symm hk
    · have hrlt : r < t.size := by
        have := a.by_.act
        simp only [Trace.act?, Option.map_eq_some_iff] at this
        obtain ⟨x, hx, _⟩ := this
        exact lt_size_of_getElem? hx
      refine Eg.Rel.told (a.other fun op hop hg => ?_) (.inr rfl) hrlt (G.norel (ga c)) (by rw [act?_of hsz]) (by rw [Trace.g?, hsz]; rfl) heard
      simp only [List.mem_toArray, List.mem_cons, List.not_mem_nil, or_false] at hop
      subst hop
      exact hk hg.symm
  have told' : ∀ i k, (t ++ #[({ g := 0, fn := fn, pos := pos, act := .mark (.acquire (ga c)) } : MemOp)]).g? i = some k → k ≠ 0 → Eg.Told (fun b => c.shun b ∨ b = c.wg) (t ++ #[({ g := 0, fn := fn, pos := pos, act := .mark (.acquire (ga c)) } : MemOp)]) k := fun _ k _ hk => told k hk
  have nol : ∀ l, inB (fun b => W₀.heap.size ≤ b ∧ b < w.heap.size ∧ ¬ c.shun b ∧ b ≠ c.wg) l → Perm (t ++ #[({ g := 0, fn := fn, pos := pos, act := .mark (.acquire (ga c)) } : MemOp)]) 0 l := fun l hl => by
    obtain ⟨b, h1, _, _, h2, h3⟩ := hl
    refine perm_told told' ?_ fun a ha => ?_
    · cases l <;> simp_all [blk, Loc.isMemory]
    · subst ha
      simp only [blk, Option.some.injEq] at h1
      subst h1
      exact fun hs => hs.elim h2 h3
  have nosh : ∀ l s, ¬ sh.still (.alone s) l ∧ ¬ sh.shared (.alone s) l := fun l s => ⟨fun x => x, fun x => x⟩
  refine ⟨G.anew (Nat.le_refl _) ⟨fun j b a a' hb => ?_, fun j l a a' hl => ?_, fun j k b a a' d d' hne' => ?_, fun j k l a a' d d' h1 h2 => ?_, fun j k l a a' d d' h1 h2 => ?_, fun j k l a a' d d' h1 h2 => ?_⟩ (fun j a a' => ?_) ?_ ?_ ?_, h.below, fun j b a a' hb => ?_, h.main, ?_, ?_, ?_⟩
  · obtain rfl := one j a a'; rw [upd_same] at hb; exact hb.2.1
  · obtain rfl := one j a a'; rw [upd_same] at hl; exact hl.elim (fun x => x.elim) (fun x => x.elim)
  · exact absurd ((one j a d).trans (one k a' d').symm) hne'
  · obtain rfl := one k a' d'; rw [upd_same] at h2; exact h2
  · obtain rfl := one k a' d'; rw [upd_same] at h2; exact h2
  · obtain rfl := one k a' d'; rw [upd_same] at h2; exact h2
  · obtain rfl := one j a a'; rw [upd_same]; exact G.deaf 0 a a'
  · rintro g l ⟨a, a', hl⟩
    obtain rfl := one g a a'; rw [upd_same] at hl; exact nol l hl
  · rintro g l ⟨a, a', hl⟩
    obtain rfl := one g a a'; rw [upd_same] at hl; exact hl.elim
  · rintro g l ⟨a, a', hl⟩
    obtain rfl := one g a a'; rw [upd_same] at hl; exact hl.elim
  · obtain rfl := one j a a'; rw [upd_same] at hb; exact hb.1
  · have := sm_upd (f := Gh.rem) (y := y) hi hf ⟨fun b => W₀.heap.size ≤ b ∧ b < w.heap.size ∧ ¬ c.shun b ∧ b ≠ c.wg, (y 0).rem, (y 0).deaf, .alone fun b => c.shun b ∨ b = c.wg⟩
    have := h.rem
    simp only at *
    omega
  · rw [upd_same]
    have hcl := h.clean
    rw [hr] at hcl
    refine ⟨fun b hb => hb.elim (hcl.1 b) fun e => e ▸ hb'.2.2.2, fun b hb hs => ?_⟩
    rcases hb with hb | hb
    · exact hs.elim hb.2.2.1 hb.2.2.2
    · exact hb
  · rw [upd_same]
    refine ⟨fun j a b => ?_, told⟩
    cases hfj : fin j with
    | true => rfl
    | false => exact absurd (one j a hfj) b

/-- ████ A GO STATEMENT. ████ -/
theorem fork_step (h : Cons W₀ sz y fin K w t) {y' yc : Gh Role} {K' : Nat} (hF : Fork (y 0) K w y' yc K') {x z : MemOp} (hx : x.g = 0 ∧ x.act = .go sz) (hz : z.g = sz ∧ z.act = .start) :
    Cons W₀ (sz + 1) (upd (upd y 0 y') sz yc) (upd fin sz false) K' w (t ++ #[x, z]) := by
  obtain ⟨c, k, hr, hdf, hy', hyc, hrem, hK⟩ := hF
  obtain ⟨hi, hf⟩ := h.main
  have D := h.gc.dens
  have hxr := h.role
  rw [hr] at hxr
  obtain ⟨hn, e, hb⟩ := hxr
  have r0 : y'.role = .boss c (.op (k + 1) false) := by rw [hy']
  have o0 : y'.own = (y 0).own := by rw [hy']
  have rc0 : yc.role = .work c (.busy false false) := by rw [hyc]
  have oc : yc.own = fun _ => False := by rw [hyc]
  have Y : ∀ j, j < sz + 1 → (j = sz ∧ upd (upd y 0 y') sz yc j = yc) ∨ (j < sz ∧ j ≠ sz ∧ ((j = 0 ∧ upd (upd y 0 y') sz yc j = y') ∨ (j ≠ 0 ∧ upd (upd y 0 y') sz yc j = y j))) := fun j hj => by
    by_cases e : j = sz
    · subst e; exact .inl ⟨rfl, upd_same _ _ _⟩
    · refine .inr ⟨by omega, e, ?_⟩
      rw [upd_ne _ _ e]
      by_cases e0 : j = 0
      · subst e0; exact .inl ⟨rfl, upd_same _ _ _⟩
      · exact .inr ⟨e0, upd_ne _ _ e0⟩
  have F : ∀ j, j ≠ sz → upd fin sz false j = fin j := fun j hj => upd_ne _ _ hj
  have OW : ∀ j b, j < sz + 1 → (upd (upd y 0 y') sz yc j).own b → j < sz ∧ (y j).own b := fun j b hj hb => by
    rcases Y j hj with ⟨_, e⟩ | ⟨a, _, ⟨e0, e⟩ | ⟨_, e⟩⟩
    · rw [e, oc] at hb; exact hb.elim
    · subst e0; rw [e, o0] at hb; exact ⟨a, hb⟩
    · rw [e] at hb; exact ⟨a, hb⟩
  have SR : ∀ j, j < sz + 1 → upd fin sz false j = false → ∃ j', j' < sz ∧ fin j' = false ∧ sh.still (upd (upd y 0 y') sz yc j).role = sh.still (y j').role ∧ sh.shared (upd (upd y 0 y') sz yc j).role = sh.shared (y j').role := fun j hj hfj => by
    rcases Y j hj with ⟨_, e⟩ | ⟨a, a', ⟨e0, e⟩ | ⟨_, e⟩⟩
    · exact ⟨0, hi, hf, by rw [e, rc0, hr]; rfl, by rw [e, rc0, hr]; rfl⟩
    · exact ⟨0, hi, hf, by rw [e, r0, hr]; rfl, by rw [e, r0, hr]; rfl⟩
    · rw [F j a'] at hfj
      exact ⟨j, a, hfj, by rw [e], by rw [e]⟩
  have FO : ∀ j, j < sz → upd fin sz false j = false → fin j = false := fun j hj hfj => by rwa [F j (by omega)] at hfj
  have dens : Dens sh (sz + 1) (upd (upd y 0 y') sz yc) (upd fin sz false) w.heap.size := by
    refine ⟨fun j b a a' hb => ?_, fun j l a a' hl => ?_, fun j k b a a' d d' hne' h1 h2 => ?_, fun j k l a a' d d' h1 h2 => ?_, fun j k l a a' d d' h1 h2 => ?_, fun j k l a a' d d' h1 h2 => ?_⟩
    · obtain ⟨b1, b2⟩ := OW j b a hb
      exact D.low j b b1 (FO j b1 a') b2
    · obtain ⟨j', b1, b2, b3, b4⟩ := SR j a a'
      rw [b3, b4] at hl
      exact D.lowS j' l b1 b2 hl
    · obtain ⟨b1, b2⟩ := OW j b a h1
      obtain ⟨c1, c2⟩ := OW k b a' h2
      exact D.apart j k b b1 c1 (FO j b1 d) (FO k c1 d') hne' b2 c2
    · obtain ⟨b, h3, h4⟩ := h1
      obtain ⟨b1, b2⟩ := OW j b a h4
      obtain ⟨j', c1, c2, c3, c4⟩ := SR k a' d'
      rw [c3] at h2
      exact D.ownSt j j' l b1 c1 (FO j b1 d) c2 ⟨b, h3, b2⟩ h2
    · obtain ⟨b, h3, h4⟩ := h1
      obtain ⟨b1, b2⟩ := OW j b a h4
      obtain ⟨j', c1, c2, c3, c4⟩ := SR k a' d'
      rw [c4] at h2
      exact D.ownSh j j' l b1 c1 (FO j b1 d) c2 ⟨b, h3, b2⟩ h2
    · obtain ⟨j', b1, b2, b3, b4⟩ := SR j a d
      obtain ⟨k', c1, c2, c3, c4⟩ := SR k a' d'
      rw [b3] at h1
      rw [c4] at h2
      exact D.stSh j' k' l b1 c1 b2 c2 h1 h2
  have G := h.gc.fork hi hf dens hdf (by rw [hy']) (by rw [hyc]) (fun b hb => by rcases hb with hb | hb; · exact o0 ▸ hb
                                                                                 · rw [oc] at hb; exact hb.elim)
    (fun l hl => .inr (by rcases hl with hl | hl; · rw [r0] at hl; rw [hr]; exact hl
                          · rw [rc0] at hl; rw [hr]; exact hl))
    (fun l hl => .inr (by rcases hl with hl | hl; · rw [r0] at hl; rw [hr]; exact hl
                          · rw [rc0] at hl; rw [hr]; exact hl)) hx hz
  have hu : ∀ op ∈ #[x, z], op.act.touch? = none := by
    intro op hop
    simp only [List.mem_toArray, List.mem_cons, List.not_mem_nil, or_false] at hop
    rcases hop with rfl | rfl
    · rw [hx.2]; rfl
    · rw [hz.2]; rfl
  have hg : ∀ op ∈ #[x, z], op.g = 0 ∨ op.g = sz := by
    intro op hop
    simp only [List.mem_toArray, List.mem_cons, List.not_mem_nil, or_false] at hop
    rcases hop with rfl | rfl
    · exact .inl hx.1
    · exact .inr hz.1
  refine ⟨G, h.below, fun j b a a' hb => ?_, ⟨by omega, by rw [F 0 (by omega)]; exact hf⟩, ?_, ?_, ?_⟩
  · obtain ⟨b1, b2⟩ := OW j b a hb
    exact h.high j b b1 (FO j b1 a') b2
  · have := sm_fork (f := Gh.rem) (y := y) hi hf y' yc
    have := h.rem
    omega
  · rw [upd_ne _ _ (by omega : 0 ≠ sz), upd_same, r0, o0]
    have hcl := h.clean
    rw [hr] at hcl
    exact hcl
  · rw [upd_ne _ _ (by omega : 0 ≠ sz), upd_same, r0]
    refine ⟨hn, e, ⟨fun j a a' d => ?_, fun j a => ?_, ?_⟩⟩
    · rcases Y j a with ⟨e1, e2⟩ | ⟨b, b', ⟨e0, e2⟩ | ⟨_, e2⟩⟩
      · refine ⟨.busy false false, (by rw [e2, rc0]), (by simp only [Wp.cnt, Wp.nl, Wp.ns]; omega), fun x => ?_, fun x => (by cases x)⟩
        simp [Wp.sure] at x
      · exact absurd e0 a'
      · rw [F j b'] at d
        obtain ⟨q₂, x1, x2, x3, x4⟩ := hb.live j b a' d
        refine ⟨q₂, by rw [e2]; exact x1, x2, x3, fun x => ?_⟩
        obtain ⟨r, hr⟩ := x4 x
        exact ⟨r, hr.other fun op hop hg' => by rcases hg op hop with e | e <;> omega⟩
    · by_cases e1 : j = sz
      · exact .inl ⟨by omega, by rw [e1, upd_same]⟩
      · rcases hb.done j a with ⟨b, b'⟩ | b | ⟨r, b⟩
        · exact .inl ⟨by omega, by rw [F j e1]; exact b'⟩
        · exact .inr (.inl (b.app fun op hop _ => hu op hop))
        · exact .inr (.inr ⟨r, b.other fun op hop hg' => by rcases hg op hop with e | e <;> omega⟩)
    · have E : ∀ f : Wp → Nat, sm (rc f) (sz + 1) (upd (upd y 0 y') sz yc) (upd fin sz false) = sm (rc f) sz y fin + f (.busy false false) := fun f => by
        have := sm_fork (f := rc f) (y := y) hi hf y' yc
        rw [rc_boss hr, rc_boss r0, rc_work rc0] at this
        omega
      rw [E, E, E, E]
      obtain ⟨w1, w2, w3, w4, w5, w6, w7, w8, w9, w10, w11⟩ := hb.wp
      simp only [Wp.cnt, Wp.held, Wp.nl, Wp.ns, Nat.add_zero]
      have : b2n true = 1 := rfl
      have : b2n false = 0 := rfl
      refine ⟨w1, w2, by omega, by omega, w5, w6, w7, by omega, by omega, ?_, ?_⟩
      · rw [w10]; simp [b2n]
      · rcases w11 with e | e
        · exact .inl (by omega)
        · exact .inr e
end
end Go.Proofs.Ytgnhddnhcfmipaa.Ids
