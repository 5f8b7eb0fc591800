/- IdleStorms: the law, whole. -/
import Derived.Test.YtgnhddnhcfmipaaIds5
namespace Go.Proofs.Ytgnhddnhcfmipaa.Ids
open Go Go.Conc Go.RowKit Go.Proofs.Ytgnhddnhcfmipaa.Eg
open Go.ConcN (sumTo sumTo_congr le_sumTo upd upd_ne upd_same PermW Deaf_absent)

section
variable {W₀ : World} {sz : Nat} {y : Nat → Gh Role} {fin : Nat → Bool} {K : Nat} {w : World} {t : Trace} {i : Nat}

theorem sem_rel (c : Cfg) : ∀ j e, (semEvents ⟨c.wg, 1, none⟩)[j]? = some e → (MemAct.ofEvent e).touch? = none ∨ ((∃ ad : Addr, ad.block = (ga c).block ∧ ∃ wr, e = ⟨.cell ad, wr, true⟩) ∧ 0 < deafBehind 1 ((semEvents ⟨c.wg, 1, none⟩).extract 0 j)) := by
  intro j e he
  match j with
  | 0 => simp [semEvents] at he; subst he; exact .inl rfl
  | 1 => simp [semEvents] at he; subst he; exact .inr ⟨⟨⟨c.wg, 1, none⟩, rfl, _, rfl⟩, by simp [semEvents, deafBehind]⟩
  | 2 => simp [semEvents] at he; subst he; exact .inr ⟨⟨⟨c.wg, 1, none⟩, rfl, _, rfl⟩, by simp [semEvents, deafBehind]⟩
  | 3 => simp [semEvents] at he; subst he; exact .inl rfl
  | n + 4 => simp [semEvents] at he

theorem exit_law (h : Cons W₀ sz y fin K w t) (hi : i < sz) (hf : fin i = false) {y' : Gh Role} {K' : Nat} {w' : World} {es : Array Event} {wk : Bool} {d : Nat} (fn : FuncId) (pos : String) (hK : K' ≤ K) (hD : Exit (y i) K w y' K' w' es wk d) :
    d = Deaf (t ++ MemOp.ofEvents i fn pos es) i ∧ Cons W₀ sz (upd y i y') (upd fin i true) K' w' (t ++ MemOp.ofEvents i fn pos es) ∧ Heard sz y fin K K' w w' i wk := by
  have eu : ∀ z : Gh Role, ∀ j, j ≠ i → upd y i z j = y j := fun z j hj => upd_ne _ _ hj
  have ef : ∀ j, j ≠ i → upd fin i true j = fin j := fun j hj => upd_ne _ _ hj
  cases hD with
  | @dec c _ _ _ v wt hr hdf hw hvw hv hwt hr1 hk he =>
    obtain ⟨h0, p, e0, h0r, hb, hc, hs, ho, hp, n1, n2, n3⟩ := h.worker hi hf hr
    obtain ⟨r, hrel⟩ := ho rfl
    have hdt : Deaf t i = 1 := (h.gc.deaf i hi hf).trans hdf
    refine ⟨by rw [Deaf_own, hdt, atm_deaf he], ?_⟩
    have hd' : ∀ x, (w.setCell ⟨c.wg, 0, none⟩ x).heap[c.wd]? = w.heap[c.wd]? := fun x => heap_setCell_other _ _ _ _ (Ne.symm n3)
    have C := turnX (y' := ⟨fun _ => False, 0, 1, .work c .gone⟩) h hi hf hr (K' := K') (es := es) (w' := w.setCell ⟨c.wg, 0, none⟩ (.int .u64 ((v : Nat) * 4294967296 + (wt : Nat)))) fn pos (work_ok he (.inl rfl) _ _) ⟨r, hrel.own fn pos _ (by rw [hdt]; exact atm_rel he (by omega))⟩ (by omega) (set_size _ _ _) (low n1)
      fun p e n uu nl ns n' u' nl' ns' hp W hsu a1 a2 a3 a4 a5 => by
        simp only [Wp.cnt, Wp.held, Wp.nl, Wp.ns] at *
        obtain ⟨w1, w2, w3, w4, w5, w6⟩ := W
        obtain rfl : nl' = nl := by omega
        obtain rfl : ns' = ns := by omega
        obtain rfl : u' = uu := by omega
        refine ⟨w1.setg hw _ _, (hd' _).trans w2, a5, by omega, w5, ?_⟩
        cases p with
        | op k pend =>
          obtain ⟨x1, x2, x3, x4, x5, x6⟩ := w6
          have := (grO_inj (Option.some.inj (hw.symm.trans x5))).1
          have hb1 : b2n pend ≤ 1 := by unfold b2n; split <;> omega
          obtain rfl : wt = 0 := by omega
          have e1 : v = n' + b2n pend := by omega
          refine ⟨x1, x2, by omega, x4, ?_, .inr hsu⟩
          rw [gr_set0 hw, e1]; simp
        | reg =>
          refine ⟨.inl ?_, .inr hsu⟩
          rcases w6.1 with ⟨x1, x2, x3, x4⟩ | ⟨x1, x2, x3, x4⟩ | ⟨x1, x2, x3, x4⟩ | ⟨x1, x2, x3, x4⟩
          · have := (grO_inj (Option.some.inj (hw.symm.trans x4))).1
            obtain rfl : wt = 1 := by omega
            have e1 : v = n' := by omega
            refine ⟨by omega, x2, x3, ?_⟩
            rw [gr_set0 hw, e1]; rfl
          · omega
          · omega
          · omega
        | free => have := w6.1; omega
    exact ⟨C, heard_of h C hi hf ef (eu _) hK (by rw [set_size]; omega) (own_set h h0r (.inl rfl) _ _) (fun j hj hne hfj e => by omega) fun _ c' s hr' _ hw' => by
      rw [h0r] at hr'; injection hr' with e1; subst e1
      exact ⟨_, gr_set0 hw' _⟩⟩
  | @sem c hr hdf =>
    obtain ⟨h0, p, e0, h0r, hb, hc, hs, ho, hp, n1, n2, n3⟩ := h.worker hi hf hr
    obtain ⟨r, hrel⟩ := ho rfl
    have hdt : Deaf t i = 1 := (h.gc.deaf i hi hf).trans hdf
    have hw : w.heap[c.wg]? = some (grO 0 0) := by
      have := (h.st hi hf).2.2
      rw [hr] at this
      exact this.1.2.2
    have hreg : p = .reg := by
      have hl := sm_le (f := rc Wp.ns) (y := y) hi hf
      rw [rc_work hr] at hl
      simp only [Wp.ns] at hl
      obtain ⟨_, _, _, _, _, w6⟩ := hb.wp
      cases p with
      | op k pend => have := w6.2.1; omega
      | reg => rfl
      | free => have := w6.2.2.1; omega
    subst hreg
    refine ⟨by rw [Deaf_own, hdt]; simp [semEvents, deafBehind], ?_⟩
    have hd' : ∀ x, (w.setCell ⟨c.wg, 1, none⟩ x).heap[c.wd]? = w.heap[c.wd]? := fun x => heap_setCell_other _ _ _ _ (Ne.symm n3)
    have C := turnX (y' := ⟨fun _ => False, 0, 1, .work c .gone⟩) h hi hf hr (K' := K) (es := semEvents ⟨c.wg, 1, none⟩) (w' := w.setCell ⟨c.wg, 1, none⟩ (.int .u32 1)) fn pos (fun e he => by
        simp only [semEvents, List.mem_toArray, List.mem_cons, List.not_mem_nil, or_false] at he
        rcases he with rfl | rfl | rfl | rfl
        · exact mark_ok rfl (by simp)
        · exact atm_ok (b := c.wg) (i := 1) rfl ⟨rfl, rfl⟩ (.inl rfl) _ _
        · exact atm_ok (b := c.wg) (i := 1) rfl ⟨rfl, rfl⟩ (.inl rfl) _ _
        · exact mark_ok rfl (by simp)) ⟨r, hrel.own fn pos _ (by rw [hdt]; exact sem_rel c)⟩ (by omega) (set_size _ _ _) (low n1)
      fun p e n uu nl ns n' u' nl' ns' hp W hsu a1 a2 a3 a4 a5 => by
        simp only [Wp.cnt, Wp.held, Wp.nl, Wp.ns] at *
        rw [h0r] at hp; injection hp with _ hp; subst hp
        obtain ⟨w1, w2, w3, w4, w5, w6⟩ := W
        obtain rfl : u' = uu := by omega
        refine ⟨w1.setg hw _ _, (hd' _).trans w2, a5, by omega, w5, ?_⟩
        refine ⟨.inr (.inr (.inr ⟨?_, ?_, ?_, gr_set1 hw 1⟩)), .inr hsu⟩ <;> (rcases w6.1 with ⟨x1, x2, x3, x4⟩ | ⟨x1, x2, x3, x4⟩ | ⟨x1, x2, x3, x4⟩ | ⟨x1, x2, x3, x4⟩ <;> omega)
    exact ⟨C, heard_of h C hi hf ef (eu _) hK (by rw [set_size]; omega) (own_set h h0r (.inl rfl) _ _) (stand_wd h h0r (hd' _) fun _ => .inr rfl) fun hwk => by cases hwk⟩

theorem mute_law (h : Cons W₀ sz y fin K w t) (hi : i < sz) (hf : fin i = true) {es : Array Event} (fn : FuncId) (pos : String) (he : ∀ e ∈ es, Event.mute e = true) : Cons W₀ sz y fin K w (t ++ MemOp.ofEvents i fn pos es) := by
  have G := h.gc.mute hi hf fn pos he
  have tn : ∀ op ∈ MemOp.ofEvents i fn pos es, op.act.touch? = none := fun op hop => by obtain ⟨e, hem, rfl⟩ := Conc.mem_ofEvents hop; exact touch_mute (he e hem)
  have rl : ∀ (c : Cfg) (j : Nat), (∃ r, Rel (ga c) t j r) → ∃ r, Rel (ga c) (t ++ MemOp.ofEvents i fn pos es) j r := fun c j ⟨r, hr⟩ => by
    by_cases e : j = i
    · subst e
      exact ⟨r, hr.own fn pos es fun k e hk => .inl (touch_mute (he e (Array.mem_of_getElem? hk)))⟩
    · exact ⟨r, hr.other fun op hop hg => e ((ops_g op hop).symm.trans hg).symm⟩
  refine ⟨G, h.below, h.high, h.main, h.rem, h.clean, ?_⟩
  have hx := h.role
  cases h0 : (y 0).role with
  | work c p => rw [h0] at hx; exact hx
  | alone s => rw [h0] at hx; exact ⟨hx.1, fun j hj => (hx.2 j hj).app fun op hop _ => tn op hop⟩
  | boss c p =>
    rw [h0] at hx
    obtain ⟨n, e, hb⟩ := hx
    refine ⟨n, e, ⟨fun j a b d => ?_, fun j hj => ?_, hb.wp⟩⟩
    · obtain ⟨q, x1, x2, x3, x4⟩ := hb.live j a b d
      exact ⟨q, x1, x2, x3, fun x => rl _ _ (x4 x)⟩
    · exact (hb.done j hj).imp id (Or.imp (fun x => x.app fun op hop _ => tn op hop) (rl _ _))
end

theorem Below.at_ {N : Nat} {W w : World} (h : Below N W w) (d : Nat) : Below N W (w.at d) := ⟨h.os, h.tape, h.output, h.size, h.block⟩

theorem WP.at_ {c : Cfg} {p : Bp} {n h nl ns : Nat} {e : Bool} {w : World} (H : WP c p n h nl ns e w) (d : Nat) : WP c p n h nl ns e (w.at d) := H.stand rfl rfl rfl rfl

noncomputable def L (W₀ : World) : Eg.Law (S W₀.heap.size) (fun v w => v = .bool true ∧ Below W₀.heap.size W₀ w) where
  Cons := Cons W₀
  at_ := fun sz y fin K w t d h => by
    refine ⟨h.gc, Below.at_ h.below d, h.high, h.main, h.rem, h.clean, ?_⟩
    have hx := h.role
    cases h0 : (y 0).role with
    | work c p => rw [h0] at hx; exact hx
    | alone s => rw [h0] at hx; exact hx
    | boss c p =>
      rw [h0] at hx
      obtain ⟨n, e, hb⟩ := hx
      exact ⟨n, e, hb.live, hb.done, hb.wp.at_ d⟩
  relyAt := fun y K w d => R.at y K w d
  mayAt := fun y w d h => h
  own := fun sz y fin K w t i y' K' w' es wk fn pos h hi hf hK hD => by
    obtain ⟨a, b⟩ := own_law h hi hf fn pos hK hD
    exact ⟨a, fun j hj hne hfj => ⟨(b j hj hne hfj).1, (b j hj hne hfj).2, fun _ cs sh ho => ho.elim⟩⟩
  fork := fun sz y fin K w t y' yc K' x z h h0 hf hK hF hx hz => by
    have C := fork_step h hF hx hz
    refine ⟨C, fun j hj hj0 hfj => ?_⟩
    have e1 : upd (upd y 0 y') sz yc j = y j := by rw [upd_ne _ _ (by omega), upd_ne _ _ hj0]
    have e2 : upd fin sz false j = false := by rw [upd_ne _ _ (by omega)]; exact hfj
    obtain ⟨c, k, hr, _⟩ := hF
    have hxr := h.role
    rw [hr] at hxr
    obtain ⟨_, e, hb⟩ := hxr
    obtain ⟨q, hq, _⟩ := hb.live j hj hj0 hfj
    show R (y j) K K' w w
    unfold R
    rw [if_neg (by rw [hq]; simp [Role.solo])]
    exact ⟨by omega, Nat.le_refl _, fun _ _ => rfl, fun _ => e1 ▸ C.st (by omega) e2, fun _ => stands_heap rfl⟩
  leave := fun sz y fin K w t i d h hi hi0 hf hl => hl.elim
  exit := fun sz y fin K w t i y' K' w' es wk d fn pos h hi hi0 hf hK hE => by
    obtain ⟨a, b, c⟩ := exit_law h hi hf fn pos hK hE
    exact ⟨a, b, fun j hj hne hfj => ⟨(c j hj hne hfj).1, (c j hj hne hfj).2, fun _ cs sh ho => ho.elim⟩⟩
  mute := fun sz y fin K w t i es fn pos h hi hf he => mute_law h hi hf fn pos he
  ended := fun sz y fin K w t v es fn pos h hf hE => by
    obtain ⟨⟨s, hr⟩, rfl, rfl⟩ := hE
    have hx := h.role
    rw [hr] at hx
    have : MemOp.ofEvents 0 fn pos #[] = #[] := ofEvents_none _ _ _
    rw [this, Array.append_empty]
    exact ⟨hx.1, ⟨rfl, h.below⟩, h.gc.ti.clean, handedOver_told fun _ k _ hk => hx.2 k hk⟩
  alive := fun gs y fin K w t h h0 _ hall => by
    obtain ⟨m1, m2⟩ := h.main
    have hb : ∀ i, i < gs.size → fin i = true ∨ MayBlock (y i) w := fun i hi => by
      rcases hall i gs[i] (Array.getElem?_eq_getElem hi) with a | ⟨_, _, ⟨_, a⟩ | ⟨_, _, _, a⟩⟩
      · exact .inl a
      · exact .inr a
      · exact a.elim
    obtain ⟨c, s, hr, hw⟩ := (hb 0 h0).resolve_left (by rw [m2]; simp)
    have hx := h.role
    rw [hr] at hx
    obtain ⟨_, e, hbd⟩ := hx
    have Z : ∀ f : Wp → Nat, sm (rc f) gs.size y fin = 0 := fun f => sm_zero fun j hj hfj => by
      obtain ⟨c', s', hr', _⟩ := (hb j hj).resolve_left (by rw [hfj]; simp)
      exact rc_boss hr'
    obtain ⟨_, _, _, _, _, w6, _⟩ := hbd.wp
    rw [Z, Z, Z] at w6
    rcases w6 with ⟨x, _⟩ | ⟨_, x, _⟩ | ⟨_, _, x, _⟩ | ⟨_, _, _, x⟩
    · omega
    · omega
    · omega
    · have := (grO_inj (Option.some.inj (hw.symm.trans x))).2
      omega
end Go.Proofs.Ytgnhddnhcfmipaa.Ids
