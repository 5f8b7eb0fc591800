/- IdleStorms: the law of the whole. -/
import Derived.Test.YtgnhddnhcfmipaaIds4
namespace Go.Proofs.Ytgnhddnhcfmipaa.Ids
open Go Go.Conc Go.RowKit Go.Proofs.Ytgnhddnhcfmipaa.Eg
open Go.ConcN (sumTo sumTo_congr le_sumTo upd upd_ne upd_same PermW Deaf_absent)

theorem gr_set0 {w : World} {g : Nat} {s m : Int} (h : w.heap[g]? = some (grO s m)) (s' : Int) : (w.setCell ⟨g, 0, none⟩ (.int .u64 s')).heap[g]? = some (grO s' m) := heap_setCell_same w g 0 _ 124 _ h
theorem gr_set1 {w : World} {g : Nat} {s m : Int} (h : w.heap[g]? = some (grO s m)) (m' : Int) : (w.setCell ⟨g, 1, none⟩ (.int .u32 m')).heap[g]? = some (grO s m') := heap_setCell_same w g 1 _ 124 _ h
theorem wd_set {w : World} {c : Cfg} {u : Int} {e : Bool} (h : w.heap[c.wd]? = some (wdO c u e)) (u' : Int) (e' : Bool) : (w.setCell ⟨c.wd, 1, none⟩ (.int .u64 (wdv u' e').num)).heap[c.wd]? = some (wdO c u' e') := heap_setCell_same w c.wd 1 _ 100 _ h
theorem set_size (w : World) (a : Addr) (v : Value) : (w.setCell a v).heap.size = w.heap.size := by simp [World.setCell]

theorem ne_of_obj {w : World} {a b : Nat} {o o' : Obj} (h : w.heap[a]? = some o) (h' : w.heap[b]? = some o') (hne : o ≠ o') : a ≠ b := fun e => by
  subst e; rw [h] at h'; exact hne (Option.some.inj h')

/-- A store into the group. -/
theorem Still.setg {c : Cfg} {w : World} (h : Still c w) {s m : Int} (hg : w.heap[c.wg]? = some (grO s m)) (i : Nat) (v : Value) : Still c (w.setCell ⟨c.wg, i, none⟩ v) :=
  ⟨(heap_setCell_other _ _ _ _ (ne_of_obj h.tb hg (by simp [grO]))).trans h.tb, (heap_setCell_other _ _ _ _ (ne_of_obj h.wb hg (by simp [grO]))).trans h.wb, h.d, h.T⟩
theorem Still.setd {c : Cfg} {w : World} (h : Still c w) {u : Int} {e : Bool} (hg : w.heap[c.wd]? = some (wdO c u e)) (i : Nat) (v : Value) : Still c (w.setCell ⟨c.wd, i, none⟩ v) :=
  ⟨(heap_setCell_other _ _ _ _ (ne_of_obj h.tb hg (by simp [wdO]))).trans h.tb, (heap_setCell_other _ _ _ _ (ne_of_obj h.wb hg (by simp [wdO]))).trans h.wb, h.d, h.T⟩
theorem wdg {c : Cfg} {w : World} {u s m : Int} {e : Bool} (hd : w.heap[c.wd]? = some (wdO c u e)) (hg : w.heap[c.wg]? = some (grO s m)) : c.wd ≠ c.wg := ne_of_obj hd hg (by simp [wdO, grO])

section
variable {W₀ : World} {sz : Nat} {y : Nat → Gh Role} {fin : Nat → Bool} {K : Nat} {w : World} {t : Trace} {i : Nat}

/-- What the others learn of it. -/
def Heard (sz : Nat) (y : Nat → Gh Role) (fin : Nat → Bool) (K K' : Nat) (w w' : World) (i : Nat) (wk : Bool) : Prop :=
  ∀ j, j < sz → j ≠ i → fin j = false → R (y j) K K' w w' ∧ (wk = false → MayBlock (y j) w → MayBlock (y j) w')

theorem heard_of {y' : Nat → Gh Role} {fin' : Nat → Bool} {K' : Nat} {w' : World} {t' : Trace} {wk : Bool} (h : Cons W₀ sz y fin K w t) (h' : Cons W₀ sz y' fin' K' w' t') (hi : i < sz) (hf : fin i = false) (ef : ∀ j, j ≠ i → fin' j = fin j) (ey : ∀ j, j ≠ i → y' j = y j)
    (hK : K' ≤ K) (hs : w.heap.size ≤ w'.heap.size) (ho : ∀ j b, j < sz → j ≠ i → fin j = false → (y j).own b → w'.heap[b]? = w.heap[b]?) (hst : ∀ j, j < sz → j ≠ i → fin j = false → K' = K → stands (y j).role w w')
    (hm : wk = false → ∀ c s, (y 0).role = .boss c .reg → i ≠ 0 → w.heap[c.wg]? = some (grO s 0) → ∃ s', w'.heap[c.wg]? = some (grO s' 0)) : Heard sz y fin K K' w w' i wk := by
  intro j hj hne hfj
  refine ⟨rest h h' hj hfj (by rw [ef j hne]; exact hfj) (ey j hne) ⟨i, hi, Ne.symm hne, hf⟩ hK hs (fun b => ho j b hj hne hfj) (hst j hj hne hfj), ?_⟩
  rintro hwk ⟨c, s, hr, hw⟩
  have h0 : j = 0 := h.mainIs hj hfj (by rw [hr]; trivial)
  subst h0
  obtain ⟨s', h3⟩ := hm hwk c s hr (Ne.symm hne) hw
  exact ⟨c, s', hr, h3⟩

/-- A store into a block that is shared. -/
theorem own_set (h : Cons W₀ sz y fin K w t) {c : Cfg} {p : Bp} (h0 : (y 0).role = .boss c p) {b : Nat} (hb : b = c.wg ∨ b = c.wd) (k : Nat) (v : Value) : ∀ j b', j < sz → j ≠ i → fin j = false → (y j).own b' → (w.setCell ⟨b, k, none⟩ v).heap[b']? = w.heap[b']? := fun j b' hj _ hfj ho => by
  have := h.apart h0 hj hfj ho
  exact heap_setCell_other _ _ _ _ (by rcases hb with e | e <;> simp [e, this])

theorem low {w : World} {b i : Nat} {v : Value} {N : Nat} (h : N ≤ b) : Below N w (w.setCell ⟨b, i, none⟩ v) := (Below.refl N w).setCell (p := ⟨b, i, none⟩) h v

theorem work_ok {c : Cfg} {q : Wp} {b k : Nat} {es : Array Event} (h : ∀ x ∈ es, atm b k x) (hb : b = c.wg ∨ (b = c.wd ∧ k = 1)) (own : Nat → Prop) (m : Prop) : ∀ e ∈ es, EvOk (sh.still (.work c q)) (sh.shared (.work c q)) own m e := fun e he => atm_ok rfl (h e he) hb own m
theorem boss_ok {c : Cfg} {p : Bp} {b k : Nat} {es : Array Event} (h : ∀ x ∈ es, atm b k x) (hb : b = c.wg ∨ (b = c.wd ∧ k = 1)) (own : Nat → Prop) (m : Prop) : ∀ e ∈ es, EvOk (sh.still (.boss c p)) (sh.shared (.boss c p)) own m e := fun e he => atm_ok rfl (h e he) hb own m
theorem wdv_inj {u v : Nat} {e e' : Bool} (hu : u ≤ 17) (hv : v ≤ 17) (h : (wdv u e).num = (wdv v e').num) : u = v ∧ e = e' := by
  cases e <;> cases e' <;> simp [wdv, VW.num, VW.low] at h ⊢ <;> omega
theorem wdO_inj {c : Cfg} {u v : Nat} {e e' : Bool} (hu : u ≤ 17) (hv : v ≤ 17) (h : wdO c u e = wdO c v e') : u = v ∧ e = e' := by
  refine wdv_inj hu hv ?_
  simpa [wdO] using h
theorem grO_inj {s m s' m' : Int} (h : grO s m = grO s' m') : s = s' ∧ m = m' := by simpa [grO] using h
theorem b2n_false : b2n false = 0 := rfl
theorem b2n_true : b2n true = 1 := rfl

/-- The others' stand where the word stands and no boss counts. -/
theorem stand_wd {K' : Nat} {w' : World} (h : Cons W₀ sz y fin K w t) {c : Cfg} {p : Bp} (h0 : (y 0).role = .boss c p) (hwd : w'.heap[c.wd]? = w.heap[c.wd]?) (hp : i ≠ 0 → w'.heap[c.wg]? = w.heap[c.wg]? ∨ p = .reg) : ∀ j, j < sz → j ≠ i → fin j = false → K' = K → stands (y j).role w w' := by
  intro j hj hne hfj _
  by_cases e : j = 0
  · subst e
    rw [h0]
    rcases hp (Ne.symm hne) with e | e
    · cases p <;> simp [stands, e]
    · subst e; trivial
  · have hx := h.role
    rw [h0] at hx
    obtain ⟨_, e', hb⟩ := hx
    obtain ⟨q, hq, _⟩ := hb.live j hj e hfj
    rw [hq]; exact hwd

theorem own_law (h : Cons W₀ sz y fin K w t) (hi : i < sz) (hf : fin i = false) {y' : Gh Role} {K' : Nat} {w' : World} {es : Array Event} {wk : Bool} (fn : FuncId) (pos : String) (hK : K' ≤ K) (hD : D W₀.heap.size (y i) K w y' K' w' es wk) :
    Cons W₀ sz (upd y i y') fin K' w' (t ++ MemOp.ofEvents i fn pos es) ∧ Heard sz y fin K K' w w' i wk := by
  have eu : ∀ z : Gh Role, ∀ j, j ≠ i → upd y i z j = y j := fun z j hj => upd_ne _ _ hj
  have sub : ∀ {c : Cfg} {q : Wp}, (y i).role = .work c q → 1 ≤ (y i).rem → (y i).rem - 1 + 1 = (y i).rem := fun _ h => by omega
  cases hD with
  | plain hp =>
    have C := plain_step h hi hf fn pos hp
    refine ⟨C, ?_⟩
    obtain ⟨e1, er, erem, ed, hB, ho1, ho2, hst, he, hq⟩ := hp
    have D := h.gc.dens
    refine heard_of h C hi hf (fun _ _ => rfl) (eu _) hK hB.size (fun j b hj hne hfj hb => hst b (D.low j b hj hfj hb) fun hx => D.apart i j b hi hj hf hfj (Ne.symm hne) hx hb) (fun j hj hne hfj _ => ?_) (fun _ c s hr h0 hw => ?_)
    · have hx := h.role
      cases h0 : (y 0).role with
      | alone s =>
        have a := h.one h0 hi hf
        have b := h.one h0 hj hfj
        exact absurd (b.trans a.symm) hne
      | work c p => rw [h0] at hx; exact hx.elim
      | boss c p =>
        rw [h0] at hx
        obtain ⟨_, e, hb⟩ := hx
        have hlt := hb.wp.lt
        have nd : ¬ (y i).own c.wd := fun x => (h.apart h0 hi hf x).2.2.1 rfl
        have ng : ¬ (y i).own c.wg := fun x => (h.apart h0 hi hf x).2.2.2 rfl
        by_cases e0 : j = 0
        · subst e0; rw [h0]; cases p <;> first | exact hst _ hlt.2.2.2 ng | trivial
        · obtain ⟨q, hq', _⟩ := hb.live j hj e0 hfj
          rw [hq']; exact hst _ hlt.2.2.1 nd
    · have ng : ¬ (y i).own c.wg := fun x => (h.apart hr hi hf x).2.2.2 rfl
      exact ⟨s, (hst _ (lt_of_some hw) ng).trans hw⟩
  | @get c d e _ _ _ u hr hT hw hu hr1 hk he =>
    obtain ⟨h0, p, e0, h0r, hb, hc, hs, ho, hp, n1, n2, n3⟩ := h.worker hi hf hr
    have C := turnW (q' := .busy true true) h hi hf hr (r' := (y i).rem - 1) (K' := K') (es := es) (w' := w.setCell ⟨c.wd, 1, none⟩ (.int .u64 (wdv ((u + 1 : Nat) : Int) true).num)) fn pos (atm_deaf he _).symm (work_ok he (.inr ⟨rfl, rfl⟩) _ _) (fun x => by cases x) (by omega) (set_size _ _ _) (low n2) (by simp only [Wp.cnt]; omega)
      fun p e n uu nl ns n' u' nl' ns' hp W hsu l1 l2 l3 l4 a1 a2 a3 a4 a5 => by
        simp only [Wp.cnt, Wp.held, Wp.nl, Wp.ns] at *
        obtain ⟨w1, w2, w3, w4, w5, w6⟩ := W
        have ⟨e1, e2⟩ := wdO_inj (by omega) (by omega) (Option.some.inj (hw.symm.trans w2))
        subst e1
        obtain rfl : n' = n := by omega
        obtain rfl : u' = u + 1 := by omega
        obtain rfl : nl' = nl := by omega
        obtain rfl : ns' = ns := by omega
        have hg : (w.setCell ⟨c.wd, 1, none⟩ (.int .u64 (wdv ((u + 1 : Nat) : Int) true).num)).heap[c.wg]? = w.heap[c.wg]? := heap_setCell_other _ _ _ _ n3
        refine ⟨true, fun _ => rfl, fun _ => rfl, w1.setd hw _ _, wd_set hw _ _, a5, w4, fun _ => hT, ?_⟩
        rw [hg]
        cases p with
        | op k pend => exact ⟨w6.1, w6.2.1, w6.2.2.1, w6.2.2.2.1, w6.2.2.2.2.1, .inr fun _ => rfl⟩
        | reg => exact ⟨w6.1, .inr fun _ => rfl⟩
        | free => exact ⟨w6.1, w6.2.1, w6.2.2.1, w6.2.2.2.1, fun _ => rfl⟩
    exact ⟨C, heard_of h C hi hf (fun _ _ => rfl) (eu _) hK (by rw [set_size]; omega) (own_set h h0r (.inr rfl) _ _) (fun j hj hne hfj e => by omega) fun _ c' s hr' _ hw' => by
      rw [h0r] at hr'; injection hr' with e1; subst e1
      exact ⟨s, (heap_setCell_other _ _ _ _ n3).trans hw'⟩⟩
  | @put c d _ _ _ u hr hw hu hr1 hk he =>
    obtain ⟨h0, p, e0, h0r, hb, hc, hs, ho, hp, n1, n2, n3⟩ := h.worker hi hf hr
    have C := turnW (q' := .busy false d) h hi hf hr (r' := (y i).rem - 1) (K' := K') (es := es) (w' := w.setCell ⟨c.wd, 1, none⟩ (.int .u64 (wdv (u : Int) true).num)) fn pos (atm_deaf he _).symm (work_ok he (.inr ⟨rfl, rfl⟩) _ _) (fun x => by cases x) (by omega) (set_size _ _ _) (low n2) (by simp only [Wp.cnt]; omega)
      fun p e n uu nl ns n' u' nl' ns' hp W hsu l1 l2 l3 l4 a1 a2 a3 a4 a5 => by
        simp only [Wp.cnt, Wp.held, Wp.nl, Wp.ns] at *
        obtain ⟨w1, w2, w3, w4, w5, w6⟩ := W
        have ⟨e1, e2⟩ := wdO_inj (by omega) (by omega) (Option.some.inj (hw.symm.trans w2))
        subst e1; subst e2
        obtain rfl : n' = n := by omega
        obtain rfl : u' = u := by omega
        obtain rfl : nl' = nl := by omega
        obtain rfl : ns' = ns := by omega
        have hg : (w.setCell ⟨c.wd, 1, none⟩ (.int .u64 (wdv (u' : Int) true).num)).heap[c.wg]? = w.heap[c.wg]? := heap_setCell_other _ _ _ _ n3
        refine ⟨true, fun _ => rfl, fun _ => rfl, w1.setd hw _ _, wd_set hw _ _, a5, w4, w5, ?_⟩
        rw [hg]; exact w6
    exact ⟨C, heard_of h C hi hf (fun _ _ => rfl) (eu _) hK (by rw [set_size]; omega) (own_set h h0r (.inr rfl) _ _) (fun j hj hne hfj e => by omega) fun _ c' s hr' _ hw' => by
      rw [h0r] at hr'; injection hr' with e1; subst e1
      exact ⟨s, (heap_setCell_other _ _ _ _ n3).trans hw'⟩⟩
  | @rel c d _ hr hd hdf =>
    obtain ⟨h0, p, e0, h0r, hb, hc, hs, ho, hp, n1, n2, n3⟩ := h.worker hi hf hr
    have hdt : Deaf t i = 0 := (h.gc.deaf i hi hf).trans hdf
    have C := turnW (q' := .rel) h hi hf hr (r' := (y i).rem) (K' := K) (w' := w) (es := #[⟨.mark (.releaseMerge ⟨c.wg, 0, none⟩), false, true⟩]) fn pos (by rw [deafBehind_still]; simp) (fun e he => by
        simp only [List.mem_toArray, List.mem_cons, List.not_mem_nil, or_false] at he
        subst he; exact mark_ok rfl (by simp)) (fun _ => ⟨t.size, by
          have : MemOp.ofEvents i fn pos #[(⟨.mark (.releaseMerge ⟨c.wg, 0, none⟩), false, true⟩ : Event)] = #[{ g := i, fn := fn, pos := pos, act := .mark (.releaseMerge (ga c)) }] := by rw [ofEvents_eq]; simp [MemAct.ofEvent, ga]
          rw [this]
          exact Rel.new rfl rfl hdt⟩) (by omega) rfl (Below.refl _ _) (by simp only [Wp.cnt]; omega)
      fun p e n uu nl ns n' u' nl' ns' hp W hsu l1 l2 l3 l4 a1 a2 a3 a4 a5 => by
        simp only [Wp.cnt, Wp.held, Wp.nl, Wp.ns] at *
        obtain rfl : n' = n := by omega
        obtain rfl : u' = uu := by omega
        obtain rfl : nl' = nl := by omega
        obtain rfl : ns' = ns := by omega
        exact ⟨e, id, fun hT => hsu (.inr (hd hT)), W⟩
    exact ⟨C, heard_of h C hi hf (fun _ _ => rfl) (eu _) hK (Nat.le_refl _) (fun _ _ _ _ _ _ => rfl) (fun _ _ _ _ _ => stands_heap rfl) fun _ c' s hr' _ hw' => ⟨s, hw'⟩⟩
  | @deaf c _ hr hdf =>
    obtain ⟨h0, p, e0, h0r, hb, hc, hs, ho, hp, n1, n2, n3⟩ := h.worker hi hf hr
    obtain ⟨r, hrel⟩ := ho rfl
    have C := turnW (q' := .deaf) h hi hf hr (r' := (y i).rem) (K' := K) (w' := w) (d' := 1) (es := #[⟨.mark .disable, false, true⟩]) fn pos (by rw [hdf]; rfl) (fun e he => by
        simp only [List.mem_toArray, List.mem_cons, List.not_mem_nil, or_false] at he
        subst he; exact mark_ok rfl (by simp)) (fun _ => ⟨r, hrel.own fn pos _ fun j e he => .inl (by
          have hm := Array.mem_of_getElem? he
          simp only [List.mem_toArray, List.mem_cons, List.not_mem_nil, or_false] at hm
          subst hm; rfl)⟩) (by omega) rfl (Below.refl _ _) (by simp only [Wp.cnt]; omega)
      fun p e n uu nl ns n' u' nl' ns' hp W hsu l1 l2 l3 l4 a1 a2 a3 a4 a5 => by
        simp only [Wp.cnt, Wp.held, Wp.nl, Wp.ns] at *
        obtain rfl : n' = n := by omega
        obtain rfl : u' = uu := by omega
        obtain rfl : nl' = nl := by omega
        obtain rfl : ns' = ns := by omega
        exact ⟨e, id, hsu, W⟩
    exact ⟨C, heard_of h C hi hf (fun _ _ => rfl) (eu _) hK (Nat.le_refl _) (fun _ _ _ _ _ _ => rfl) (fun _ _ _ _ _ => stands_heap rfl) fun _ c' s hr' _ hw' => ⟨s, hw'⟩⟩
  | @last c _ _ _ hr hdf hw hr1 hk he =>
    obtain ⟨h0, p, e0, h0r, hb, hc, hs, ho, hp, n1, n2, n3⟩ := h.worker hi hf hr
    obtain ⟨r, hrel⟩ := ho rfl
    have hdt : Deaf t i = 1 := (h.gc.deaf i hi hf).trans hdf
    have C := turnW (q' := .last) h hi hf hr (r' := (y i).rem - 1) (K' := K') (es := es) (w' := w.setCell ⟨c.wg, 0, none⟩ (.int .u64 1)) fn pos (atm_deaf he _).symm (work_ok he (.inl rfl) _ _) (fun _ => ⟨r, hrel.own fn pos _ (by rw [hdt]; exact atm_rel he (by omega))⟩) (by omega) (set_size _ _ _) (low n1) (by simp only [Wp.nl]; omega)
      fun p e n uu nl ns n' u' nl' ns' hp W hsu l1 l2 l3 l4 a1 a2 a3 a4 a5 => by
        simp only [Wp.cnt, Wp.held, Wp.nl, Wp.ns] at *
        obtain ⟨w1, w2, w3, w4, w5, w6⟩ := W
        obtain rfl : ns' = ns := by omega
        obtain rfl : u' = uu := by omega
        have hd' : (w.setCell ⟨c.wg, 0, none⟩ (.int .u64 1)).heap[c.wd]? = w.heap[c.wd]? := heap_setCell_other _ _ _ _ (Ne.symm n3)
        refine ⟨e, id, hsu, w1.setg hw _ _, hd'.trans w2, a5, by omega, w5, ?_⟩
        cases p with
        | op k pend =>
          have := (grO_inj (Option.some.inj (hw.symm.trans w6.2.2.2.2.1))).1
          omega
        | reg =>
          refine ⟨.inr (.inl ⟨?_, ?_, ?_, gr_set0 hw 1⟩), .inr hsu⟩ <;> (rcases w6.1 with ⟨x1, x2, x3, x4⟩ | ⟨x1, x2, x3, x4⟩ | ⟨x1, x2, x3, x4⟩ | ⟨x1, x2, x3, x4⟩ <;> (have := (grO_inj (Option.some.inj (hw.symm.trans x4))).1; omega))
        | free => have := w6.1; omega
    exact ⟨C, heard_of h C hi hf (fun _ _ => rfl) (eu _) hK (by rw [set_size]; omega) (own_set h h0r (.inl rfl) _ _) (fun j hj hne hfj e => by omega) fun _ c' s hr' _ hw' => by
      rw [h0r] at hr'; injection hr' with e1; subst e1
      exact ⟨1, gr_set0 hw' 1⟩⟩
  | @look c _ _ hr hdf he =>
    obtain ⟨h0, p, e0, h0r, hb, hc, hs, ho, hp, n1, n2, n3⟩ := h.worker hi hf hr
    obtain ⟨r, hrel⟩ := ho rfl
    have hdt : Deaf t i = 1 := (h.gc.deaf i hi hf).trans hdf
    have C := turnW (q' := .last) h hi hf hr (r' := (y i).rem) (d' := (y i).deaf) (K' := K) (es := es) (w' := w) fn pos (atm_deaf he _).symm (work_ok he (.inl rfl) _ _) (fun _ => ⟨r, hrel.own fn pos _ (by rw [hdt]; exact atm_rel he (by omega))⟩) (by omega) rfl (Below.refl _ _) (by simp only [Wp.nl]; omega)
      fun p e n uu nl ns n' u' nl' ns' hp W hsu l1 l2 l3 l4 a1 a2 a3 a4 a5 => by
        obtain rfl : n' = n := by omega
        obtain rfl : u' = uu := by omega
        obtain rfl : nl' = nl := by omega
        obtain rfl : ns' = ns := by omega
        exact ⟨e, id, hsu, W⟩
    have ey : (⟨(y i).own, (y i).rem, (y i).deaf, .work c .last⟩ : Gh Role) = y i := by rw [← hr]
    rw [ey] at C
    exact ⟨C, heard_of h C hi hf (fun _ _ => rfl) (eu _) hK (Nat.le_refl _) (fun _ _ _ _ _ _ => rfl) (fun _ _ _ _ _ => stands_heap rfl) fun _ c' s hr' _ hw' => ⟨s, hw'⟩⟩
  | @store c _ _ hr hdf he =>
    obtain ⟨h0, p, e0, h0r, hb, hc, hs, ho, hp, n1, n2, n3⟩ := h.worker hi hf hr
    obtain ⟨r, hrel⟩ := ho rfl
    have hdt : Deaf t i = 1 := (h.gc.deaf i hi hf).trans hdf
    have hw : w.heap[c.wg]? = some (grO 1 0) := by
      have := (h.st hi hf).2.2
      rw [hr] at this
      exact this.1.2.2
    have hreg : p = .reg := by
      have hl := sm_le (f := rc Wp.nl) (y := y) hi hf
      rw [rc_work hr] at hl
      simp only [Wp.nl] at hl
      obtain ⟨_, _, _, _, _, w6⟩ := hb.wp
      cases p with
      | op k pend => have := w6.1; omega
      | reg => rfl
      | free => have := w6.2.1; omega
    subst hreg
    have C := turnW (q' := .stored) h hi hf hr (r' := (y i).rem) (d' := (y i).deaf) (K' := K) (es := es) (w' := w.setCell ⟨c.wg, 0, none⟩ (.int .u64 0)) fn pos (atm_deaf he _).symm (work_ok he (.inl rfl) _ _) (fun _ => ⟨r, hrel.own fn pos _ (by rw [hdt]; exact atm_rel he (by omega))⟩) (by omega) (set_size _ _ _) (low n1) (by simp only [Wp.ns]; omega)
      fun p e n uu nl ns n' u' nl' ns' hp W hsu l1 l2 l3 l4 a1 a2 a3 a4 a5 => by
        simp only [Wp.cnt, Wp.held, Wp.nl, Wp.ns] at *
        rw [h0r] at hp; injection hp with _ hp; subst hp
        obtain ⟨w1, w2, w3, w4, w5, w6⟩ := W
        obtain rfl : n' = n := by omega
        obtain rfl : u' = uu := by omega
        have hd' : (w.setCell ⟨c.wg, 0, none⟩ (.int .u64 0)).heap[c.wd]? = w.heap[c.wd]? := heap_setCell_other _ _ _ _ (Ne.symm n3)
        refine ⟨e, id, hsu, w1.setg hw _ _, hd'.trans w2, a5, by omega, w5, ?_⟩
        refine ⟨.inr (.inr (.inl ⟨?_, ?_, ?_, gr_set0 hw 0⟩)), .inr hsu⟩ <;> (rcases w6.1 with ⟨x1, x2, x3, x4⟩ | ⟨x1, x2, x3, x4⟩ | ⟨x1, x2, x3, x4⟩ | ⟨x1, x2, x3, x4⟩ <;> omega)
    have hd' : (w.setCell ⟨c.wg, 0, none⟩ (.int .u64 0)).heap[c.wd]? = w.heap[c.wd]? := heap_setCell_other _ _ _ _ (Ne.symm n3)
    exact ⟨C, heard_of h C hi hf (fun _ _ => rfl) (eu _) hK (by rw [set_size]; omega) (own_set h h0r (.inl rfl) _ _) (stand_wd h h0r hd' fun _ => .inr rfl) fun _ c' s hr' _ hw' => by
      rw [h0r] at hr'; injection hr' with e1; subst e1
      exact ⟨0, gr_set0 hw' 0⟩⟩
  | @start c _ hr hs hwd hwg ho hne hdf =>
    have h0 : i = 0 := h.mainIs hi hf (by rw [hr]; trivial)
    subst h0
    have C := start_step h hr hs hwd hwg ho hne
    have : MemOp.ofEvents 0 fn pos #[] = #[] := ofEvents_none _ _ _
    rw [this, Array.append_empty]
    exact ⟨C, fun j hj hne' hfj => absurd (h.one hr hj hfj) hne'⟩
  | @add c k _ _ n hr hk hw he =>
    have h0 : i = 0 := h.mainIs hi hf (by rw [hr]; trivial)
    subst h0
    have hx := h.role
    rw [hr] at hx
    obtain ⟨⟨n1, n2, n3⟩, _⟩ := hx
    have hd' : (w.setCell ⟨c.wg, 0, none⟩ (.int .u64 ((n + 1 : Nat) * 4294967296))).heap[c.wd]? = w.heap[c.wd]? := heap_setCell_other _ _ _ _ (Ne.symm n3)
    have C := turn0 (p' := .op k true) h hr (r' := (y 0).rem) (d' := (y 0).deaf) (K' := K) (es := es) (w' := w.setCell ⟨c.wg, 0, none⟩ (.int .u64 ((n + 1 : Nat) * 4294967296))) fn pos (atm_deaf he _).symm (boss_ok he (.inl rfl) _ _) (by omega) (set_size _ _ _) (low n1)
      fun e nn u nl ns W => by
        obtain ⟨w1, w2, w3, w4, w5, w6, w7, w8, w9, w10, w11⟩ := W
        have := (grO_inj (Option.some.inj (hw.symm.trans w10))).1
        simp only [b2n_false] at this w9
        obtain rfl : n = nn := by omega
        exact ⟨w1.setg hw _ _, hd'.trans w2, w3, w4, w5, w6, w7, w8, by simp only [b2n_true]; omega, by rw [gr_set0 hw]; simp [b2n], w11⟩
    exact ⟨C, heard_of h C hi hf (fun _ _ => rfl) (eu _) hK (by rw [set_size]; omega) (own_set h hr (.inl rfl) _ _) (stand_wd h hr hd' fun e => absurd rfl e) fun _ c' s hr' h0 hw' => absurd rfl h0⟩
  | @reg c k _ _ _ n hr hk hw hr1 hkk he =>
    have h0 : i = 0 := h.mainIs hi hf (by rw [hr]; trivial)
    subst h0
    have hx := h.role
    rw [hr] at hx
    obtain ⟨⟨n1, n2, n3⟩, _⟩ := hx
    have hd' : (w.setCell ⟨c.wg, 0, none⟩ (.int .u64 ((n + 1 : Nat) * 4294967296 + 1))).heap[c.wd]? = w.heap[c.wd]? := heap_setCell_other _ _ _ _ (Ne.symm n3)
    have C := turn0 (p' := .reg) h hr (r' := (y 0).rem - 1) (d' := (y 0).deaf) (K' := K') (es := es) (w' := w.setCell ⟨c.wg, 0, none⟩ (.int .u64 ((n + 1 : Nat) * 4294967296 + 1))) fn pos (atm_deaf he _).symm (boss_ok he (.inl rfl) _ _) (by omega) (set_size _ _ _) (low n1)
      fun e nn u nl ns W => by
        obtain ⟨w1, w2, w3, w4, w5, w6, w7, w8, w9, w10, w11⟩ := W
        have := (grO_inj (Option.some.inj (hw.symm.trans w10))).1
        simp only [b2n_false] at this w9
        obtain rfl : nn = n + 1 := by omega
        exact ⟨w1.setg hw _ _, hd'.trans w2, w3, w4, w5, .inl ⟨by omega, w6, w7, gr_set0 hw _⟩, .inl (by omega)⟩
    exact ⟨C, heard_of h C hi hf (fun _ _ => rfl) (eu _) hK (by rw [set_size]; omega) (own_set h hr (.inl rfl) _ _) (fun j hj hne hfj e => by omega) fun _ c' s hr' h0 hw' => absurd rfl h0⟩
  | @zero c k _ _ hr hk hw he =>
    have h0 : i = 0 := h.mainIs hi hf (by rw [hr]; trivial)
    subst h0
    have hx := h.role
    rw [hr] at hx
    obtain ⟨⟨n1, n2, n3⟩, _⟩ := hx
    have C := turn0 (p' := .free) h hr (r' := (y 0).rem) (d' := (y 0).deaf) (K' := K) (es := es) (w' := w) fn pos (atm_deaf he _).symm (boss_ok he (.inl rfl) _ _) (by omega) rfl (Below.refl _ _)
      fun e nn u nl ns W => by
        obtain ⟨w1, w2, w3, w4, w5, w6, w7, w8, w9, w10, w11⟩ := W
        have := (grO_inj (Option.some.inj (hw.symm.trans w10))).1
        simp only [b2n_false] at this w9
        obtain rfl : nn = 0 := by omega
        refine ⟨w1, w2, w3, w4, w5, rfl, w6, w7, hw, ?_⟩
        rcases w11 with e | e
        · omega
        · exact e
    exact ⟨C, heard_of h C hi hf (fun _ _ => rfl) (eu _) hK (Nat.le_refl _) (fun _ _ _ _ _ _ => rfl) (fun _ _ _ _ _ => stands_heap rfl) fun _ c' s hr' _ hw' => ⟨s, hw'⟩⟩
  | @sem c _ hr hw =>
    have h0 : i = 0 := h.mainIs hi hf (by rw [hr]; trivial)
    subst h0
    have hx := h.role
    rw [hr] at hx
    obtain ⟨⟨n1, n2, n3⟩, _⟩ := hx
    have hd' : (w.setCell ⟨c.wg, 1, none⟩ (.int .u32 0)).heap[c.wd]? = w.heap[c.wd]? := heap_setCell_other _ _ _ _ (Ne.symm n3)
    have C := turn0 (p' := .free) h hr (r' := (y 0).rem) (d' := (y 0).deaf) (K' := K) (es := semEvents ⟨c.wg, 1, none⟩) (w' := w.setCell ⟨c.wg, 1, none⟩ (.int .u32 0)) fn pos rfl (fun e he => by
        simp only [semEvents, List.mem_toArray, List.mem_cons, List.not_mem_nil, or_false] at he
        rcases he with rfl | rfl | rfl | rfl
        · exact mark_ok rfl (by simp)
        · exact atm_ok (b := c.wg) (i := 1) rfl ⟨rfl, rfl⟩ (.inl rfl) _ _
        · exact atm_ok (b := c.wg) (i := 1) rfl ⟨rfl, rfl⟩ (.inl rfl) _ _
        · exact mark_ok rfl (by simp)) (by omega) (set_size _ _ _) (low n1)
      fun e nn u nl ns W => by
        obtain ⟨w1, w2, w3, w4, w5, w6, w7⟩ := W
        rcases w6 with ⟨x1, x2, x3, x4⟩ | ⟨x1, x2, x3, x4⟩ | ⟨x1, x2, x3, x4⟩ | ⟨x1, x2, x3, x4⟩
        · have := (grO_inj (Option.some.inj (hw.symm.trans x4))).2; omega
        · have := (grO_inj (Option.some.inj (hw.symm.trans x4))).2; omega
        · have := (grO_inj (Option.some.inj (hw.symm.trans x4))).2; omega
        · refine ⟨w1.setg hw _ _, hd'.trans w2, w3, w4, w5, x1, x2, x3, gr_set1 hw _, ?_⟩
          rcases w7 with e | e
          · omega
          · exact e
    exact ⟨C, heard_of h C hi hf (fun _ _ => rfl) (eu _) hK (by rw [set_size]; omega) (own_set h hr (.inl rfl) _ _) (stand_wd h hr hd' fun e => absurd rfl e) fun _ c' s hr' h0 hw' => absurd rfl h0⟩
  | @acq c _ hr hdf =>
    have h0 : i = 0 := h.mainIs hi hf (by rw [hr]; trivial)
    subst h0
    have C := acq_step h hr hdf fn pos
    exact ⟨C, heard_of h C hi hf (fun _ _ => rfl) (eu _) hK (Nat.le_refl _) (fun _ _ _ _ _ _ => rfl) (fun _ _ _ _ _ => stands_heap rfl) fun _ c' s hr' _ hw' => ⟨s, hw'⟩⟩
end
end Go.Proofs.Ytgnhddnhcfmipaa.Ids
