/- A region that asks the tape for its order, in company: calls too. Plain: no program here. -/
import Derived.Test.YtgnhddnhcfmipaaEg8
import Derived.Conc.CompanyDraw
namespace Go.Proofs.Ytgnhddnhcfmipaa.Eg
open Go Go.Conc

section
variable {Z : Sys} {m : Bool} {fn : FuncId} {ops : Array Oper} {Q : PostF Z} {md : Region.Mode} {S : Nat → Z.G → World → Prop} {nf : Nat}

/-- Operation number i comes up. -/
def OpF (Z : Sys) (m : Bool) (fn : FuncId) (ops : Array Oper) (nf i : Nat) (P : Nat → Z.G → Act → World → Prop) (K : Nat) (y : Z.G) (a : Act) (w : World) : Prop :=
  match ops[i]? with
  | none => False
  | some o => if Region.wanted o (yielded ops a.tmps) then
      (∀ K₁, K₁ ≤ K → ∀ w₁, Z.R y K K₁ w w₁ → uponK o a (fun a' w' => ∃ y', (∀ wk, Z.D y K₁ w₁ y' K₁ w' (listed Z.P fn a o w₁) wk) ∧ P K₁ y' a' w') ((execOp a.eval o).run Z.P w₁)) ∨
      (∃ f args, (∀ w, (execOp a.eval o).run Z.P w = .ok (.enter f args) w) ∧ (∀ w, (execOp a.eval o).events Z.P w #[] = #[]) ∧
        ∀ K₁, K₁ ≤ K → ∀ w₁, Z.R y K K₁ w w₁ → ∃ Post, CJ Z m f args nf Post K₁ y w₁ ∧ ∀ v K' y' w', K' ≤ K₁ → Post v K' y' w' → P K' y' (a.put o.dst v) w')
    else P K y (a.put o.dst undef) w

theorem OpF.mono {i K : Nat} {y : Z.G} {a : Act} {w : World} {P P' : Nat → Z.G → Act → World → Prop} (h : ∀ K' y a w, K' ≤ K → P K' y a w → P' K' y a w) (hh : OpF Z m fn ops nf i P K y a w) : OpF Z m fn ops nf i P' K y a w := by
  unfold OpF at *
  split
  · simp_all
  · rename_i o ho
    simp only [ho] at hh
    split
    · rename_i hw
      simp only [hw, if_true] at hh
      rcases hh with hh | ⟨f, args, h1, h2, h3⟩
      · exact .inl fun K₁ hK w₁ r => uponK_mono (fun a' w' ⟨y', d, x⟩ => ⟨y', d, h _ _ _ _ hK x⟩) (hh K₁ hK w₁ r)
      · refine .inr ⟨f, args, h1, h2, fun K₁ hK w₁ r => ?_⟩
        obtain ⟨Post, x, z⟩ := h3 K₁ hK w₁ r
        exact ⟨Post, x, fun v K' y' w' a b => h _ _ _ _ (Nat.le_trans a hK) (z v K' y' w' a b)⟩
    · rename_i hw
      simp only [hw] at hh
      exact h _ _ _ _ (Nat.le_refl _) hh

theorem OpF.of {i n K : Nat} {rest : List Nat} {y : Z.G} {a : Act} {w : World} (h : OpF Z m fn ops nf i (fun K' y' a' w' => OF Z m fn ops rest n Q K' y' a' w') K y a w) : OF Z m fn ops (i :: rest) (n + nf + 1) Q K y a w := by
  unfold OpF at h
  split at h
  · exact h.elim
  · rename_i o ho
    split at h
    · rename_i hw
      rcases h with h | ⟨f, args, h1, h2, h3⟩
      · exact (OF.cons ho hw h).more (by omega)
      · obtain ⟨Post, x, z⟩ := h3 K (Nat.le_refl _) w (Z.refl _ _ _)
        exact OF.callV ho hw h1 h2 x z
    · rename_i hw
      exact (OF.unwanted ho (by simpa using hw) h).more (by omega)

def YieldsF (Z : Sys) (fn : FuncId) (ops : Array Oper) (S : Nat → Z.G → World → Prop) (o : Oper) (v : Value) (a : Act) : Prop :=
  (Region.wanted o (yielded ops a.tmps) = true ∧ ∀ K y w, S K y w → (execOp a.eval o).run Z.P w = .ok (.value v) w ∧ ∀ wk, Z.D y K w y K w (listed Z.P fn a o w) wk) ∨
  (Region.wanted o (yielded ops a.tmps) = false ∧ v = undef)

theorem YieldsF.of_same {o : Oper} {v : Value} {a a' : Act} (hy : YieldsF Z fn ops S o v a) (he : execOp a'.eval o = execOp a.eval o)
    (hw : Region.wanted o (yielded ops a'.tmps) = Region.wanted o (yielded ops a.tmps)) : YieldsF Z fn ops S o v a' := by
  unfold YieldsF listed at *
  rw [he, hw]
  exact hy

/-- Whatever order is picked from here on; S holds behind every operation. -/
def AnyF (Z : Sys) (m : Bool) (fn : FuncId) (md : Region.Mode) (ops : Array Oper) (nf : Nat) (Q : PostF Z) (S : Nat → Z.G → World → Prop) : Nat → Array Bool → Nat → Z.G → Act → World → Prop
  | 0, listed, K, y, a, w => Region.ready md ops listed = [] ∧ ∀ K₁, K₁ ≤ K → ∀ w₁, Z.R y K K₁ w w₁ → Q .normal K₁ y a w₁
  | fuel + 1, listed, K, y, a, w => (Region.ready md ops listed = [] → ∀ K₁, K₁ ≤ K → ∀ w₁, Z.R y K K₁ w w₁ → Q .normal K₁ y a w₁) ∧
      ∀ i ∈ Region.ready md ops listed, OpF Z m fn ops nf i (fun K' y' a' w' => S K' y' w' ∧ AnyF Z m fn md ops nf Q S fuel (listed.setIfInBounds i true) K' y' a' w') K y a w

theorem AnyF.rely (hSR : ∀ K K₁ y w w₁, S K y w → K₁ ≤ K → Z.R y K K₁ w w₁ → S K₁ y w₁) :
    ∀ (fuel : Nat) (listed : Array Bool) (K : Nat) (y : Z.G) (a : Act) (w : World) (K₁ : Nat) (w₁ : World), AnyF Z m fn md ops nf Q S fuel listed K y a w → K₁ ≤ K → Z.R y K K₁ w w₁ → AnyF Z m fn md ops nf Q S fuel listed K₁ y a w₁
  | 0, _, _, _, _, _, _, _, h, hK, r => ⟨h.1, fun K₂ h₂ w₂ r₂ => h.2 K₂ (Nat.le_trans h₂ hK) w₂ (Z.trans _ _ _ _ _ _ _ r r₂)⟩
  | fuel + 1, listed, K, y, a, w, K₁, w₁, h, hK, r => ⟨fun e K₂ h₂ w₂ r₂ => h.1 e K₂ (Nat.le_trans h₂ hK) w₂ (Z.trans _ _ _ _ _ _ _ r r₂), fun i hi => by
      have := h.2 i hi
      unfold OpF at *
      split
      · simp_all
      · rename_i o ho
        simp only [ho] at this
        split
        · rename_i hw
          simp only [hw, if_true] at this
          rcases this with h | ⟨f, args, h1, h2, h3⟩
          · exact .inl fun K₂ h₂ w₂ r₂ => h K₂ (Nat.le_trans h₂ hK) w₂ (Z.trans _ _ _ _ _ _ _ r r₂)
          · exact .inr ⟨f, args, h1, h2, fun K₂ h₂ w₂ r₂ => h3 K₂ (Nat.le_trans h₂ hK) w₂ (Z.trans _ _ _ _ _ _ _ r r₂)⟩
        · rename_i hw
          simp only [hw] at this
          exact ⟨hSR _ _ _ _ _ this.1 hK r, AnyF.rely hSR fuel _ _ _ _ _ _ _ this.2 hK r⟩⟩

theorem AnyF.sound : ∀ (fuel t : Nat) (listed : Array Bool) (K : Nat) (y : Z.G) (a : Act) (w : World), AnyF Z m fn md ops nf Q S fuel listed K y a w →
    OF Z m fn ops (Region.linearise.go md ops fuel t listed []) (fuel * (nf + 1) + 1) Q K y a w := by
  intro fuel
  induction fuel with
  | zero => intro t listed K y a w h; simpa [Region.linearise.go] using OF.nil (h.2 K (Nat.le_refl _) w (Z.refl _ _ _))
  | succ fuel ih =>
    intro t listed K y a w h
    obtain ⟨h₀, h₁⟩ := h
    simp only [Region.linearise.go]
    change OF Z m fn ops (match (Region.ready md ops listed)[t % (Region.ready md ops listed).length]? with
      | some i => Region.linearise.go md ops fuel (t / (Region.ready md ops listed).length) (listed.setIfInBounds i true) [i]
      | none => [].reverse) ((fuel + 1) * (nf + 1) + 1) Q K y a w
    cases hi : (Region.ready md ops listed)[t % (Region.ready md ops listed).length]? with
    | none =>
      have hnil : Region.ready md ops listed = [] := by
        cases hr : Region.ready md ops listed with
        | nil => rfl
        | cons x xs =>
          rw [hr] at hi
          have hlt : t % (x :: xs).length < (x :: xs).length := Nat.mod_lt _ (by simp)
          simp at hi
          simp at hlt
          omega
      exact OF.more (by simpa using OF.nil (h₀ hnil K (Nat.le_refl _) w (Z.refl _ _ _))) (by omega)
    | some i =>
      simp only []
      rw [linearise_go_acc, List.reverse_singleton, List.singleton_append]
      refine OF.more (OpF.of (n := fuel * (nf + 1) + 1) (OpF.mono (fun K' y' a' w' _ x => ih _ _ K' y' a' w' x.2) (h₁ i (List.mem_of_getElem? hi)))) ?_
      rw [Nat.succ_mul]
      omega

theorem YieldsF.opF (hSR : ∀ K K₁ y w w₁, S K y w → K₁ ≤ K → Z.R y K K₁ w w₁ → S K₁ y w₁) {i : Nat} {o : Oper} {v : Value} {a : Act} (hi : ops[i]? = some o) (hy : YieldsF Z fn ops S o v a)
    {P : Nat → Z.G → Act → World → Prop} (hP : ∀ K K₁ y a w w₁, P K y a w → K₁ ≤ K → Z.R y K K₁ w w₁ → P K₁ y a w₁) {K : Nat} {y : Z.G} {w : World} (hS : S K y w) (h : P K y (a.put o.dst v) w) : OpF Z m fn ops nf i P K y a w := by
  unfold OpF
  simp only [hi]
  rcases hy with ⟨hw, hv⟩ | ⟨hw, rfl⟩
  · simp only [hw, if_true]
    refine .inl fun K₁ hK w₁ r => ?_
    have h2 := hv K₁ y w₁ (hSR _ _ _ _ _ hS hK r)
    rw [h2.1]
    exact ⟨y, h2.2, hP _ _ _ _ _ _ h hK r⟩
  · simp only [hw, Bool.false_eq_true, if_false]; exact h

theorem OpF.putIf {j : Nat} {oi oj : Oper} {v : Value} (hj : ops[j]? = some oj) (hap : oi.apart ops oj = true)
    (hsi : ∀ cs b, oi.op ≠ .select cs b) (hsj : ∀ cs b, oj.op ≠ .select cs b) {P : Nat → Z.G → Act → World → Prop} {K : Nat} {y : Z.G} {a : Act} {w : World}
    (hy : YieldsF Z fn ops S oi v a) (h : OpF Z m fn ops nf j P K y (a.put oi.dst v) w) :
    OpF Z m fn ops nf j (fun K' y' a' w' => YieldsF Z fn ops S oi v a' ∧ P K' y' (a'.put oi.dst v) w') K y a w := by
  obtain ⟨h1, h2, h3⟩ := Oper.apart_spec hap
  have keep : ∀ (a : Act), YieldsF Z fn ops S oi v a → ∀ u, YieldsF Z fn ops S oi v (a.put oj.dst u) := fun a hy u =>
    hy.of_same (execOp_put oi hsi a oj.dst u h3) (wanted_put oi a oj.dst u h3)
  unfold OpF at *
  simp only [hj] at *
  rw [wanted_put oj a oi.dst v h1] at h
  split
  · rename_i hw
    simp only [hw, if_true] at h
    rcases h with h | ⟨f, args, x1, x2, x3⟩
    · refine .inl fun K₁ hK w₁ r => ?_
      have h := h K₁ hK w₁ r
      unfold listed at *
      rw [execOp_put oj hsj a oi.dst v h1] at h
      generalize (execOp a.eval oj).run Z.P w₁ = rr at *
      cases rr with
      | ok n w' =>
        cases n <;> simp only [uponK] at h ⊢
        case value u => obtain ⟨y', d, p⟩ := h; exact ⟨y', d, keep a hy u, by rw [← Act.put_comm a v u h2]; exact p⟩
        case skip => obtain ⟨y', d, p⟩ := h; exact ⟨y', d, keep a hy _, by rw [← Act.put_comm a v undef h2]; exact p⟩
      | halt x w' => simp only [uponK] at h
    · rw [execOp_put oj hsj a oi.dst v h1] at x1 x2
      refine .inr ⟨f, args, x1, x2, fun K₁ hK w₁ r => ?_⟩
      obtain ⟨Post, c1, c2⟩ := x3 K₁ hK w₁ r
      exact ⟨Post, c1, fun u K' y' w' b b' => ⟨keep a hy u, by rw [← Act.put_comm a v u h2]; exact c2 u K' y' w' b b'⟩⟩
  · rename_i hw
    simp only [hw] at h
    exact ⟨keep a hy _, by rw [← Act.put_comm a v undef h2]; exact h⟩

theorem AnyF.first (hSR : ∀ K K₁ y w w₁, S K y w → K₁ ≤ K → Z.R y K K₁ w w₁ → S K₁ y w₁) {i : Nat} {oi : Oper} {v : Value} (hi : ops[i]? = some oi)
    (hsel : ∀ (j : Nat) (o : Oper) cs b, ops[j]? = some o → o.op ≠ .select cs b) :
    ∀ (fuel : Nat) (listed : Array Bool) (K : Nat) (y : Z.G) (a : Act) (w : World),
      (∀ j oj, ops[j]? = some oj → j ≠ i → listed.getD j true = false → (∀ e ∈ oj.after, Region.binds md e = true → e.on ≠ i) → oi.apart ops oj = true) →
      i ∈ Region.ready md ops listed → YieldsF Z fn ops S oi v a → S K y w →
      AnyF Z m fn md ops nf Q S fuel (listed.setIfInBounds i true) K y (a.put oi.dst v) w → AnyF Z m fn md ops nf Q S (fuel + 1) listed K y a w := by
  have hP : ∀ fuel listed, ∀ K K₁ y a w w₁, (S K y w ∧ AnyF Z m fn md ops nf Q S fuel listed K y a w) → K₁ ≤ K → Z.R y K K₁ w w₁ → (S K₁ y w₁ ∧ AnyF Z m fn md ops nf Q S fuel listed K₁ y a w₁) :=
    fun fuel listed K K₁ y a w w₁ h hK r => ⟨hSR _ _ _ _ _ h.1 hK r, AnyF.rely hSR fuel listed _ _ _ _ _ _ h.2 hK r⟩
  intro fuel
  induction fuel with
  | zero =>
    intro listed K y a w _ hr hy hS H
    refine ⟨fun h => (by rw [h] at hr; cases hr), fun j hj => ?_⟩
    by_cases hji : j = i
    · subst hji; exact hy.opF hSR hi (hP _ _) hS ⟨hS, H⟩
    · have := ready_mono hj hji
      rw [H.1] at this
      cases this
  | succ fuel ih =>
    intro listed K y a w hfree hr hy hS H
    refine ⟨fun h => (by rw [h] at hr; cases hr), fun j hj => ?_⟩
    by_cases hji : j = i
    · subst hji; exact hy.opF hSR hi (hP _ _) hS ⟨hS, H⟩
    · have h1 := H.2 j (ready_mono hj hji)
      obtain ⟨hjun, oj, hoj, hall⟩ := mem_ready.1 hj
      have hnot : ∀ e ∈ oj.after, Region.binds md e = true → e.on ≠ i := fun e he hb heq => by
        have h1 := hall e he hb
        have h0 := (mem_ready.1 hr).1
        rw [heq] at h1
        rcases Nat.lt_or_ge i listed.size with h' | h'
        · simp [h'] at h0 h1; rw [h0] at h1; cases h1
        · simp [Array.getElem?_eq_none h'] at h1
      have h2 := OpF.putIf hoj (hfree j oj hoj hji hjun hnot) (fun cs b => hsel i oi cs b hi) (fun cs b => hsel j oj cs b hoj) hy h1
      have hfree' : ∀ k ok, ops[k]? = some ok → k ≠ i → (listed.setIfInBounds j true).getD k true = false →
          (∀ e ∈ ok.after, Region.binds md e = true → e.on ≠ i) → oi.apart ops ok = true := fun k ok hk hki hun hno => by
        refine hfree k ok hk hki ?_ hno
        by_cases hjk : j = k
        · subst hjk; exact hjun
        · rw [getD_set_ne true hjk] at hun; exact hun
      refine OpF.mono (fun K' y' a' w' _ h3 => ⟨h3.2.1, ih (listed.setIfInBounds j true) K' y' a' w' hfree' (ready_mono hr (Ne.symm hji)) h3.1 h3.2.1 ?_⟩) h2
      rw [Array.setIfInBounds_comm _ _ hji]
      exact h3.2.2

/-! ### the moves of a walk -/
theorem AnyF.take (hSR : ∀ K K₁ y w w₁, S K y w → K₁ ≤ K → Z.R y K K₁ w w₁ → S K₁ y w₁) {i : Nat} {oi : Oper} {v : Value} {fuel K : Nat} {y : Z.G} {listed : Array Bool} {a : Act} {w : World} (hi : ops[i]? = some oi)
    (hs : Region.noSelect ops = true) (hf : Region.free md ops listed i = true) (hr : (Region.ready md ops listed).contains i = true)
    (hy : YieldsF Z fn ops S oi v a) (hS : S K y w) (h : AnyF Z m fn md ops nf Q S fuel (listed.setIfInBounds i true) K y (a.put oi.dst v) w) : AnyF Z m fn md ops nf Q S (fuel + 1) listed K y a w :=
  AnyF.first hSR hi (Region.noSelect_spec hs) fuel listed K y a w (Region.free_spec hi hf) (by simpa using hr) hy hS h

theorem AnyF.all {rs : List Nat} {fuel K : Nat} {y : Z.G} {listed : Array Bool} {a : Act} {w : World} (hr : Region.ready md ops listed = rs) (hne : rs ≠ [])
    (h : ∀ i ∈ rs, OpF Z m fn ops nf i (fun K' y' a' w' => S K' y' w' ∧ AnyF Z m fn md ops nf Q S fuel (listed.setIfInBounds i true) K' y' a' w') K y a w) : AnyF Z m fn md ops nf Q S (fuel + 1) listed K y a w :=
  ⟨fun h0 => absurd (hr ▸ h0) hne, hr ▸ h⟩

theorem AnyF.done {listed : Array Bool} {K : Nat} {y : Z.G} {a : Act} {w : World} (hr : Region.ready md ops listed = []) (h : ∀ K₁, K₁ ≤ K → ∀ w₁, Z.R y K K₁ w w₁ → Q .normal K₁ y a w₁) : ∀ fuel, AnyF Z m fn md ops nf Q S fuel listed K y a w
  | 0 => ⟨hr, h⟩
  | _ + 1 => ⟨fun _ => h, fun i hi => by rw [hr] at hi; cases hi⟩

/-- THE BEGINNING. -/
theorem WF.drawn (nf : Nat) (S : Nat → Z.G → World → Prop) (hd : ∀ y K (w : World) wk, Z.D y K w y K { w with drawn := w.drawn + 1 } #[] wk) {id K : Nat} {y : Z.G} {a : Act} {w : World} (hm : Z.P.follows .mixedOrders = true)
    (h : ∀ K₁, K₁ ≤ K → ∀ w₁, Z.R y K K₁ w w₁ → AnyF Z m fn .any ops nf Q S ops.size (Array.replicate ops.size false) K₁ y a { w₁ with drawn := w₁.drawn + 1 }) :
    WF Z m fn (.region id ops true) (ops.size * (nf + 1) + 1 + 1) Q K y a w := by
  intro b k cs f hb hk hc
  refine J.step (f := fun K => f K + (ops.size * (nf + 1) + 1)) rfl fun K₁ hK w₁ r => ?_
  unfold Nxt
  rw [stepG_region_draw]
  refine .inl ⟨rfl, y, K₁, hd _ _ _ _, .inl ⟨rfl, ?_⟩⟩
  have := AnyF.sound ops.size (w₁.tape w₁.drawn (.order b.fn id)) _ K₁ y a _ (h K₁ hK w₁ r) b k cs f hb hk fun e K₂ y₂ a₂ w₂ hK₂ q => hc e K₂ y₂ a₂ w₂ (by omega) q
  simp only [Region.schedule, hm, Bool.true_or, if_true]
  exact this

/-! ### one operation -/
theorem OpF.val {i K : Nat} {y : Z.G} {a : Act} {w : World} {o : Oper} {P : Nat → Z.G → Act → World → Prop} (ho : ops[i]? = some o) (hw : Region.wanted o (yielded ops a.tmps) = true)
    (h : ∀ K₁, K₁ ≤ K → ∀ w₁, Z.R y K K₁ w w₁ → uponK o a (fun a' w' => ∃ y', (∀ wk, Z.D y K₁ w₁ y' K₁ w' (listed Z.P fn a o w₁) wk) ∧ P K₁ y' a' w') ((execOp a.eval o).run Z.P w₁)) : OpF Z m fn ops nf i P K y a w := by
  unfold OpF
  simp only [ho, hw, if_true]
  exact .inl h
theorem OpF.call {i K : Nat} {y : Z.G} {a : Act} {w : World} {o : Oper} {P : Nat → Z.G → Act → World → Prop} {f : FuncId} {args : Array Value} (ho : ops[i]? = some o) (hw : Region.wanted o (yielded ops a.tmps) = true)
    (hrun : ∀ w, (execOp a.eval o).run Z.P w = .ok (.enter f args) w) (hev : ∀ w, (execOp a.eval o).events Z.P w #[] = #[])
    (h : ∀ K₁, K₁ ≤ K → ∀ w₁, Z.R y K K₁ w w₁ → ∃ Post, CJ Z m f args nf Post K₁ y w₁ ∧ ∀ v K' y' w', K' ≤ K₁ → Post v K' y' w' → P K' y' (a.put o.dst v) w') : OpF Z m fn ops nf i P K y a w := by
  unfold OpF
  simp only [ho, hw, if_true]
  exact .inr ⟨f, args, hrun, hev, h⟩
end
end Go.Proofs.Ytgnhddnhcfmipaa.Eg
