/- IdleStorms: the word under the eyes of others; a loop with an index. -/
import Derived.Test.YtgnhddnhcfmipaaIds9
namespace Go.Proofs.Ytgnhddnhcfmipaa.Eg
open Go Go.Conc
/-- A LOOP: an invariant with an index; every round lowers the index or finds that the budget has fallen. -/
theorem WF.loopJ {S : Sys} {m : Bool} {fn : FuncId} {Q : PostF S} {K : Nat} {y : S.G} {a : Act} {w : World} {c : Code} (I : Nat → Nat → S.G → Act → World → Prop) (r N : Nat) {j₀ : Nat} (h₀ : I j₀ K y a w) (hN : ∀ j K y a w, I j K y a w → j ≤ N)
    (round : ∀ j K' y a w, K' ≤ K → I j K' y a w → WF S m fn c r (thenF (fun K₂ y' a' w' => ∃ j', I j' K₂ y' a' w' ∧ (K₂ < K' ∨ j' < j)) Q) K' y a w) : WF S m fn (.loop c) ((N + 1) * (r + 1) + 1) Q K y a w := by
  intro b k cs f hb hk hc
  have key : ∀ K₁, K₁ ≤ K → ∀ M j y a w, j ≤ M → M ≤ N → I j K₁ y a w → J S m K₁ (f K₁ + (M + 1) * (r + 1)) y (Conc.G (b.at a (.code c :: .inLoop c :: k)) cs) w := by
    intro K₁
    induction K₁ using Nat.strongRecOn with
    | _ K₁ ihK =>
      intro hK₁ M
      induction M with
      | zero =>
        intro j y a w hμ _ hI
        have := round j K₁ y a w hK₁ hI b (.inLoop c :: k) cs (fun K' => if K' = K₁ then f K' + 1 else f K' + (N + 1) * (r + 1) + 1) hb hk fun e K' y' a' w' hK q => by
          have hle : f K' ≤ (if K' = K₁ then f K' + 1 else f K' + (N + 1) * (r + 1) + 1) := by split <;> omega
          cases e with
          | normal =>
            obtain ⟨j', q1, q2⟩ := q
            rcases q2 with h | h
            · have hne : K' ≠ K₁ := by omega
              show J S m K' (if K' = K₁ then f K' + 1 else f K' + (N + 1) * (r + 1) + 1) y' _ w'
              rw [if_neg hne]
              exact J.ctl rfl rfl (fun _ => stepG_inLoop) (ihK K' h (by omega) N j' y' a' w' (hN _ _ _ _ _ q1) (Nat.le_refl N) q1)
            · omega
          | exit id => exact ((hc _ _ _ _ _ (by omega) q).more hle).push rfl (by simp)
          | ret => exact ((hc _ _ _ _ _ (by omega) q).more hle).push (x := .inLoop c) rfl (by simp)
          | goto l => exact hc _ _ _ _ _ (by omega) q
          | panic ch => exact hc _ _ _ _ _ (by omega) q
          | outgrown => exact hc _ _ _ _ _ (by omega) q
        simp only [if_true] at this
        exact this.more (by simp; omega)
      | succ M ih =>
        intro j y a w hμ hM hI
        have := round j K₁ y a w hK₁ hI b (.inLoop c :: k) cs (fun K' => if K' = K₁ then f K' + (M + 1) * (r + 1) + 1 else f K' + (N + 1) * (r + 1) + 1) hb hk fun e K' y' a' w' hK q => by
          have hle : f K' ≤ (if K' = K₁ then f K' + (M + 1) * (r + 1) + 1 else f K' + (N + 1) * (r + 1) + 1) := by split <;> omega
          cases e with
          | normal =>
            obtain ⟨j', q1, q2⟩ := q
            show J S m K' (if K' = K₁ then f K' + (M + 1) * (r + 1) + 1 else f K' + (N + 1) * (r + 1) + 1) y' _ w'
            rcases Nat.lt_or_eq_of_le hK with h | rfl
            · rw [if_neg (by omega)]
              exact J.ctl rfl rfl (fun _ => stepG_inLoop) (ihK K' h (by omega) N j' y' a' w' (hN _ _ _ _ _ q1) (Nat.le_refl N) q1)
            · rw [if_pos rfl]
              have hm : j' < j := q2.resolve_left (by omega)
              exact J.ctl rfl rfl (fun _ => stepG_inLoop) (ih j' y' a' w' (by omega) (by omega) q1)
          | exit id => exact ((hc _ _ _ _ _ (by omega) q).more hle).push rfl (by simp)
          | ret => exact ((hc _ _ _ _ _ (by omega) q).more hle).push (x := .inLoop c) rfl (by simp)
          | goto l => exact hc _ _ _ _ _ (by omega) q
          | panic ch => exact hc _ _ _ _ _ (by omega) q
          | outgrown => exact hc _ _ _ _ _ (by omega) q
        simp only [if_true] at this
        refine this.more ?_
        have : (M + 1 + 1) * (r + 1) = (M + 1) * (r + 1) + (r + 1) := by rw [Nat.succ_mul]
        omega
  have := J.ctl rfl rfl (fun _ => stepG_loop) (key K (Nat.le_refl K) N j₀ y a w (hN _ _ _ _ _ h₀) (Nat.le_refl N) h₀)
  exact this.more (by omega)
end Go.Proofs.Ytgnhddnhcfmipaa.Eg
namespace Go.Proofs.Ytgnhddnhcfmipaa.Ids
open Go Go.Conc Go.RowKit Go.Proofs.Ytgnhddnhcfmipaa.Eg Go.Proofs.Ytgnhddnhcfmipaa

/-- The word as it was seen at budget K₁. -/
def Seen (c : Cfg) (K₁ u : Nat) (e : Bool) (K : Nat) (w : World) : Prop := K ≤ K₁ ∧ (K = K₁ → w.heap[c.wd]? = some (wdO c u e))
def T0 : Nat → World → Prop := fun _ _ => True

theorem St.work {y : Gh Role} {K : Nat} {w : World} {c : Cfg} {q : Wp} (h : St y K w) (hr : y.role = .work c q) : StW c q w ∧ Ap c y.own := by
  have := h.2.2; rw [hr] at this; exact this

theorem Seen.keeps (c : Cfg) (q : Wp) (K₁ u : Nat) (e : Bool) : Keeps (.work c q) (Seen c K₁ u e) := by
  refine ⟨fun y K K' w w' hr hR hs => ?_, fun y K w w' hr hst hw hs => ?_⟩
  · unfold R at hR
    rw [if_neg (by rw [hr]; simp [Role.solo])] at hR
    obtain ⟨h1, h2, h3, h4, h5⟩ := hR
    refine ⟨Nat.le_trans h1 hs.1, fun e => ?_⟩
    have e1 : K' = K := by have := hs.1; omega
    have := h5 e1
    rw [hr] at this
    exact (this : w'.heap[c.wd]? = w.heap[c.wd]?).trans (hs.2 (by omega))
  · refine ⟨hs.1, fun e => ?_⟩
    obtain ⟨⟨s1, ⟨u', e', hwd, _⟩, _⟩, ap⟩ := hst.work hr
    rw [hw c.wd (lt_of_some hwd) fun ho => (ap _ ho).2.2.1 rfl]
    exact hs.2 e

theorem Ctx.to {N : Nat} {F F' : Nat → World → Prop} {y : Gh Role} {K : Nat} {w : World} {l : List Row} (H : Ctx N F y K w l) (hk : Keeps y.role F') (hm : F' K w) : Ctx N F' y K w l := ⟨H.rows, H.st, H.hi, H.lo, H.big, hk, hm⟩
theorem Ctx.t0 {N : Nat} {F : Nat → World → Prop} {y : Gh Role} {K : Nat} {w : World} {l : List Row} (H : Ctx N F y K w l) : Ctx N T0 y K w l := H.to (Keeps.triv _) trivial

theorem wd_cell {c : Cfg} {w : World} {u : Int} {e : Bool} (h : w.heap[c.wd]? = some (wdO c u e)) : w.cell? ⟨c.wd, 1, none⟩ = some (.int .u64 (wdv u e).num) ∧ w.cell? ⟨c.wd, 0, none⟩ = some (.int .i64 c.d) ∧ w.frozen? ⟨c.wd, 1, none⟩ = false :=
  ⟨by simp [World.cell?, h, wdO], by simp [World.cell?, h, wdO], by simp [World.frozen?, h, wdO]⟩

theorem atm_mk (b i : Nat) (wr : Bool) : atm b i ⟨.cell ⟨b, i, none⟩, wr, true⟩ := ⟨rfl, rfl⟩

/-- A step that turns nothing and touches shared cells. -/
theorem plain_atm {N : Nat} {y : Gh Role} {K : Nat} {w : World} {c : Cfg} (hc : y.role.cfg? = some c) {b i : Nat} (hb : b = c.wg ∨ (b = c.wd ∧ i = 1)) {es : Array Event} (he : ∀ e ∈ es, atm b i e) (hq : y.role.quiet = false) : Plain N y K w y K w es :=
  ⟨rfl, rfl, rfl, (atm_deaf he _).symm, Below.refl _ _, fun _ h => h, fun _ h => .inl h, fun _ _ _ => rfl, fun e hm => atm_ok hc (he e hm) hb _ _, fun h => by rw [hq] at h; cases h⟩

/-- The word's turn, as its worker sees it. -/
theorem Ctx.turned {N : Nat} {F : Nat → World → Prop} {y : Gh Role} {K K' : Nat} {w : World} {l : List Row} (H : Ctx N F y K w l) {c : Cfg} {h d h' d' : Bool} (hr : y.role = .work c (.busy h d)) {u u' : Nat} {e e' : Bool} (hw : w.heap[c.wd]? = some (wdO c u e)) (hK : K = K' + 1) (h1 : 0 < y.rem)
    (hu : Wp.held (.busy h' d') ≤ u') (hu' : u' + Wp.vac (.busy h' d') ≤ 16) (he : Wp.sure c.T (.busy h' d') → e' = true) : Ctx N T0 ⟨y.own, y.rem - 1, y.deaf, .work c (.busy h' d')⟩ K' (w.setCell ⟨c.wd, 1, none⟩ (.int .u64 (wdv (u' : Int) e').num)) l := by
  obtain ⟨⟨s1, ⟨u₁, e₁, hwd, _⟩, v, wt, x1, x2, x3⟩, ap⟩ := H.st.work hr
  have hne := wdg hw x3
  have far : ∀ b, b ≠ c.wd → (w.setCell ⟨c.wd, 1, none⟩ (.int .u64 (wdv (u' : Int) e').num)).heap[b]? = w.heap[b]? := fun b hb => heap_setCell_other _ _ _ _ hb
  refine ⟨H.rows.of (fun _ h => h) fun b hb => far b (ap b hb).2.2.1, ⟨by have := H.st.1; simp only; omega, ⟨fun b hb => hb.elim, fun b _ hb => hb.elim⟩, ⟨s1.setd hw _ _, ⟨u', e', wd_set hw _ _, hu, hu', he⟩, v, wt, x1, x2, (far _ (Ne.symm hne)).trans x3⟩, ap⟩, H.hi, fun b hb => by rw [set_size]; exact H.lo b hb, by rw [set_size]; exact H.big, Keeps.triv _, trivial⟩
end Go.Proofs.Ytgnhddnhcfmipaa.Ids
