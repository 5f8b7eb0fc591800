/- The judgement of a piece of code in company: rules. Plain: no program here. -/
import Derived.Test.YtgnhddnhcfmipaaEg1
namespace Go.Proofs.Ytgnhddnhcfmipaa.Eg
open Go Go.Conc

theorem goes_imp {P : Program} {m : Bool} {R R' : World → World → Prop} {D D' : World → World → Array Event → Prop} {St St' : Goroutine → World → Prop} (hR : ∀ w w₁, R' w w₁ → R w w₁) (hD : ∀ w w' es, D w w' es → D' w w' es)
    (hS : ∀ g w, St g w → St' g w) : ∀ {n : Nat} {g : Goroutine} {w : World}, Goes P m R D St n g w → Goes P m R' D' St' n g w := by
  intro n
  induction n with
  | zero => exact fun h w₁ r => hS _ _ (h w₁ (hR _ _ r))
  | succ n ih =>
    rintro g w (h | ⟨hr, h⟩)
    · exact .inl fun w₁ r => hS _ _ (h w₁ (hR _ _ r))
    · refine .inr ⟨hr, fun w₁ r => ?_⟩
      have := h w₁ (hR _ _ r)
      revert this
      cases stepG P m g w₁ <;> simp only [GStep.goes, imp_self]
      exact fun ⟨d, x⟩ => ⟨hD _ _ _ d, ih x⟩

section
variable {S : Sys} {m : Bool} {K n : Nat} {y : S.G} {g : Goroutine} {w : World}

/-- A walk of the library's, under a rely and a guarantee that do not turn, up to a stop from which the judgement goes on. -/
theorem J.of_goes {R' : World → World → Prop} {D' : World → World → Array Event → Prop} {f : Nat → Nat} (hrefl : ∀ w, R' w w) (hR : ∀ K K₁ w w₁, S.R y K K₁ w w₁ → R' w w₁)
    (hD : ∀ K w w' es wk, D' w w' es → S.D y K w y K w' es wk) : ∀ {n K : Nat} {g : Goroutine} {w : World},
    Goes S.P m R' D' (fun g w => g.status = .running ∧ ∀ K₁, K₁ ≤ K → J S m K₁ (f K₁) y g w) n g w → J S m K (f K + n) y g w := by
  intro n
  induction n with
  | zero => exact fun {K g w} h => (h w (hrefl w)).2 K (Nat.le_refl _)
  | succ n ih =>
    intro K g w h
    rcases h with h | ⟨hr, h⟩
    · exact ((h w (hrefl w)).2 K (Nat.le_refl _)).more (by omega)
    · refine J.step (f := fun K => f K + n) hr fun K₁ hK w₁ r => ?_
      have := h w₁ (hR _ _ _ _ r)
      revert this
      unfold Nxt
      cases hs : stepG S.P m g w₁
      case go g' w' es =>
        rintro ⟨hd, hg⟩
        have hg' : Goes S.P m R' D' (fun g w => g.status = .running ∧ ∀ K₂, K₂ ≤ K₁ → J S m K₂ (f K₂) y g w) n g' w' :=
          goes_imp (fun _ _ x => x) (fun _ _ _ x => x) (fun _ _ x => ⟨x.1, fun K₂ hK₂ => x.2 K₂ (by omega)⟩) hg
        have hrun : g'.status = .running := Goes.running (fun _ _ x => x.1) w' (hrefl w') hg'
        exact .inl ⟨hrun, y, K₁, hD _ _ _ _ _ hd, .inl ⟨rfl, ih hg'⟩⟩
      all_goals exact False.elim
end

/-! ### pieces of code -/

/-- Where the judgement goes on behind a piece of code that is left by this way out. -/
def On (S : Sys) (m : Bool) (j : Nat) (b : Frame) (k : List Item) (cs : List Frame) : Exit → Nat → S.G → Act → World → Prop
  | .normal, K, y, a, w => J S m K j y (Conc.G (b.at a k) cs) w
  | .exit id, K, y, a, w => ∃ k', exitTo id k = some k' ∧ J S m K j y (Conc.G (b.at a k') cs) w
  | .ret, K, y, a, w => ∀ todo, J S m K j y (Conc.G { b.at a todo with mode := .returning } cs) w
  | _, _, _, _, _ => False

theorem On.more {S : Sys} {m : Bool} {j j' : Nat} {b : Frame} {k : List Item} {cs : List Frame} {e : Exit} {K : Nat} {y : S.G} {a : Act} {w : World} (h : On S m j b k cs e K y a w) (hj : j ≤ j') : On S m j' b k cs e K y a w := by
  cases e with
  | normal => exact J.more h hj
  | exit id => exact let ⟨k', h1, h2⟩ := h; ⟨k', h1, h2.more hj⟩
  | ret => exact fun todo => (h todo).more hj
  | goto l => exact h
  | panic ch => exact h
  | outgrown => exact h

/-- A way out other than the normal one passes a plain item. -/
theorem On.push {S : Sys} {m : Bool} {j : Nat} {b : Frame} {x : Item} {k : List Item} {cs : List Frame} {e : Exit} {K : Nat} {y : S.G} {a : Act} {w : World} (hx : x.plain = true) (he : e ≠ .normal) (h : On S m j b k cs e K y a w) : On S m j b (x :: k) cs e K y a w := by
  cases e with
  | normal => exact absurd rfl he
  | exit id => obtain ⟨k', hk, hg⟩ := h; exact ⟨k', by cases x <;> simp_all [exitTo, Item.plain], hg⟩
  | ret => exact h
  | goto l => exact h
  | panic ch => exact h
  | outgrown => exact h

abbrev PostF (S : Sys) := Exit → Nat → S.G → Act → World → Prop

/-- ████ THE JUDGEMENT OF A PIECE OF CODE. ████ -/
def WF (S : Sys) (m : Bool) (fn : FuncId) (c : Code) (n : Nat) (Q : PostF S) (K : Nat) (y : S.G) (a : Act) (w : World) : Prop :=
  ∀ (b : Frame) (k : List Item) (cs : List Frame) (f : Nat → Nat), b.fn = fn → b.kind ≠ .early →
    (∀ e K' y' a' w', K' ≤ K → Q e K' y' a' w' → On S m (f K') b k cs e K' y' a' w') → J S m K (f K + n) y (Conc.G (b.at a (.code c :: k)) cs) w

def OF (S : Sys) (m : Bool) (fn : FuncId) (ops : Array Oper) (todo : List Nat) (n : Nat) (Q : PostF S) (K : Nat) (y : S.G) (a : Act) (w : World) : Prop :=
  ∀ (b : Frame) (k : List Item) (cs : List Frame) (f : Nat → Nat), b.fn = fn → b.kind ≠ .early →
    (∀ e K' y' a' w', K' ≤ K → Q e K' y' a' w' → On S m (f K') b k cs e K' y' a' w') → J S m K (f K + n) y (Conc.G (b.at a (.inRegion ops todo :: k)) cs) w

/-- Behind the normal way out. -/
def thenF {S : Sys} (next : Nat → S.G → Act → World → Prop) (Q : PostF S) : PostF S
  | .normal, K, y, a, w => next K y a w
  | e, K, y, a, w => Q e K y a w

/-- Behind a block. -/
def blockF {S : Sys} (id : Nat) (Q : PostF S) : PostF S
  | .exit id', K, y, a, w => if id' = id then Q .normal K y a w else Q (.exit id') K y a w
  | e, K, y, a, w => Q e K y a w

section
variable {S : Sys} {m : Bool} {fn : FuncId} {Q Q' : PostF S} {K n : Nat} {y : S.G} {a : Act} {w : World}

theorem WF.more {c : Code} {n' : Nat} (h : WF S m fn c n Q K y a w) (hn : n ≤ n') : WF S m fn c n' Q K y a w :=
  fun b k cs f hb hk hc => (h b k cs f hb hk hc).more (by omega)
theorem OF.more {ops : Array Oper} {todo : List Nat} {n' : Nat} (h : OF S m fn ops todo n Q K y a w) (hn : n ≤ n') : OF S m fn ops todo n' Q K y a w :=
  fun b k cs f hb hk hc => (h b k cs f hb hk hc).more (by omega)

theorem WF.mono {c : Code} (h : WF S m fn c n Q K y a w) (hq : ∀ e K' y a w, K' ≤ K → Q e K' y a w → Q' e K' y a w) : WF S m fn c n Q' K y a w :=
  fun b k cs f hb hk hc => h b k cs f hb hk fun e K' y' a' w' hK q => hc e K' y' a' w' hK (hq _ _ _ _ _ hK q)

/-- From the library's walk in company. -/
theorem WF.of_wpC {R' : World → World → Prop} {D' : World → World → Array Event → Prop} (hrefl : ∀ w, R' w w) (hR : ∀ K K₁ w w₁, S.R y K K₁ w w₁ → R' w w₁)
    (hD : ∀ K w w' es wk, D' w w' es → S.D y K w y K w' es wk) {c : Code} (h : c.wpC S.P m R' D' fn n (fun e a' w' => ∀ w₂, R' w' w₂ → ∀ K', K' ≤ K → Q e K' y a' w₂) a w) : WF S m fn c n Q K y a w := by
  intro b k cs f hb hk hc
  refine J.of_goes (f := f) hrefl hR hD (n := n) ?_
  have := h b k cs (fun g w => g.status = .running ∧ ∀ K₁, K₁ ≤ K → J S m K₁ (f K₁) y g w) 0 hb hk fun e a' w' q => ?_
  · rwa [Nat.zero_add] at this
  · cases e with
    | normal => exact fun w₂ r₂ => ⟨rfl, fun K₁ hK => hc _ _ _ _ _ hK (q w₂ r₂ K₁ hK)⟩
    | exit id =>
      obtain ⟨k', h1, _⟩ := hc _ _ _ _ _ (Nat.le_refl K) (q w' (hrefl w') K (Nat.le_refl K))
      refine ⟨k', h1, fun w₂ r₂ => ⟨rfl, fun K₁ hK => ?_⟩⟩
      obtain ⟨k₂, h2, h3⟩ := hc _ _ _ _ _ hK (q w₂ r₂ K₁ hK)
      rw [h1] at h2
      exact Option.some.inj h2 ▸ h3
    | ret => exact fun todo w₂ r₂ => ⟨rfl, fun K₁ hK => hc _ _ _ _ _ hK (q w₂ r₂ K₁ hK) todo⟩
    | goto l => exact hc _ _ _ _ _ (Nat.le_refl K) (q w' (hrefl w') K (Nat.le_refl K))
    | panic ch => exact hc _ _ _ _ _ (Nat.le_refl K) (q w' (hrefl w') K (Nat.le_refl K))
    | outgrown => exact hc _ _ _ _ _ (Nat.le_refl K) (q w' (hrefl w') K (Nat.le_refl K))

theorem WF.skip (h : Q .normal K y a w) : WF S m fn .skip 1 Q K y a w := fun _ _ _ _ _ _ hc => J.ctl rfl rfl (fun _ => stepG_skip) (hc _ _ _ _ _ (Nat.le_refl K) h)
theorem WF.label {l : Nat} (h : Q .normal K y a w) : WF S m fn (.label l) 1 Q K y a w := fun _ _ _ _ _ _ hc => J.ctl rfl rfl (fun _ => stepG_label) (hc _ _ _ _ _ (Nat.le_refl K) h)
theorem WF.ret (h : Q .ret K y a w) : WF S m fn .ret 1 Q K y a w := fun _ _ _ _ _ _ hc => J.ctl rfl rfl (fun _ => stepG_ret') (hc _ _ _ _ _ (Nat.le_refl K) h _)
theorem WF.exit {id : Nat} (h : Q (.exit id) K y a w) : WF S m fn (.exit id) 1 Q K y a w := fun _ _ _ _ _ _ hc => by
  obtain ⟨k', hk', hg⟩ := hc _ _ _ _ _ (Nat.le_refl K) h
  exact J.ctl rfl rfl (fun _ => stepG_exit hk') hg

theorem WF.seq {c d : Code} {n₁ n₂ : Nat} (h : WF S m fn c n₁ (thenF (fun K' y' a' w' => WF S m fn d n₂ Q K' y' a' w') Q) K y a w) : WF S m fn (.seq c d) (n₁ + n₂ + 1) Q K y a w := by
  intro b k cs f hb hk hc
  have hx : J S m K (f K + n₂ + n₁) y (Conc.G (b.at a (.code c :: .code d :: k)) cs) w := by
    refine h b (.code d :: k) cs (fun K => f K + n₂) hb hk fun e K' y' a' w' hK q => ?_
    cases e with
    | normal => exact q b k cs f hb hk fun e K₂ y₂ a₂ w₂ hK₂ q₂ => hc e K₂ y₂ a₂ w₂ (by omega) q₂
    | exit id => exact ((hc _ _ _ _ _ hK q).more (Nat.le_add_right _ _)).push rfl (by simp)
    | ret => exact ((hc _ _ _ _ _ hK q).more (Nat.le_add_right _ _)).push (x := .code d) rfl (by simp)
    | goto l => exact hc _ _ _ _ _ hK q
    | panic ch => exact hc _ _ _ _ _ hK q
    | outgrown => exact hc _ _ _ _ _ hK q
  have := J.ctl rfl rfl (fun _ => stepG_seq) hx
  exact this.more (by omega)

theorem WF.cond {c : Operand} {x z : Code} {t : Bool} (hc : a.eval c = .bool t) (h : WF S m fn (if t then x else z) n Q K y a w) : WF S m fn (.cond c x z) (n + 1) Q K y a w :=
  fun b k cs f hb hk hq => J.ctl rfl rfl (fun _ => stepG_cond hc) (h b k cs f hb hk hq)

theorem WF.block {id : Nat} {c : Code} (h : WF S m fn c n (blockF id Q) K y a w) : WF S m fn (.block id c) (n + 2) Q K y a w := by
  intro b k cs f hb hk hc
  have hx : J S m K (f K + 1 + n) y (Conc.G (b.at a (.code c :: .inBlock id :: k)) cs) w := by
    refine h b (.inBlock id :: k) cs (fun K => f K + 1) hb hk fun e K' y' a' w' hK q => ?_
    cases e with
    | normal => exact J.ctl rfl rfl (fun _ => stepG_inBlock) (hc _ _ _ _ _ hK q)
    | exit id' =>
      by_cases hid : id' = id
      · simp only [blockF, hid, if_true] at q
        exact ⟨k, by simp [exitTo, hid], J.more (hc _ _ _ _ _ hK q) (by omega)⟩
      · simp only [blockF, hid, if_false] at q
        obtain ⟨k', hk', hg⟩ := hc _ _ _ _ _ hK q
        have : (id == id') = false := by simp; exact fun h => hid h.symm
        exact ⟨k', by simp [exitTo, this, hk'], hg.more (by omega)⟩
    | ret => exact fun todo => (hc _ _ _ _ _ hK q todo).more (by omega)
    | goto l => exact hc _ _ _ _ _ hK q
    | panic ch => exact hc _ _ _ _ _ hK q
    | outgrown => exact hc _ _ _ _ _ hK q
  have := J.ctl rfl rfl (fun _ => stepG_block) hx
  exact this.more (by omega)

/-- A LOOP: an invariant; every round lowers the measure or finds that the budget has fallen. -/
theorem WF.loop {c : Code} (I : Nat → S.G → Act → World → Prop) (μ : S.G → Act → World → Nat) (r N : Nat) (h₀ : I K y a w) (hN : ∀ K y a w, I K y a w → μ y a w ≤ N)
    (round : ∀ K' y a w, K' ≤ K → I K' y a w → WF S m fn c r (thenF (fun K₂ y' a' w' => I K₂ y' a' w' ∧ (K₂ < K' ∨ μ y' a' w' < μ y a w)) Q) K' y a w) : WF S m fn (.loop c) ((N + 1) * (r + 1) + 1) Q K y a w := by
  intro b k cs f hb hk hc
  have key : ∀ K₁, K₁ ≤ K → ∀ M y a w, μ y a w ≤ M → M ≤ N → I K₁ y a w → J S m K₁ (f K₁ + (M + 1) * (r + 1)) y (Conc.G (b.at a (.code c :: .inLoop c :: k)) cs) w := by
    intro K₁
    induction K₁ using Nat.strongRecOn with
    | _ K₁ ihK =>
      intro hK₁ M
      induction M with
      | zero =>
        intro y a w hμ _ hI
        have := round K₁ y a w hK₁ hI b (.inLoop c :: k) cs (fun K' => if K' = K₁ then f K' + 1 else f K' + (N + 1) * (r + 1) + 1) hb hk fun e K' y' a' w' hK q => by
          have hle : f K' ≤ (if K' = K₁ then f K' + 1 else f K' + (N + 1) * (r + 1) + 1) := by split <;> omega
          cases e with
          | normal =>
            rcases q.2 with h | h
            · have hne : K' ≠ K₁ := by omega
              show J S m K' (if K' = K₁ then f K' + 1 else f K' + (N + 1) * (r + 1) + 1) y' _ w'
              rw [if_neg hne]
              exact J.ctl rfl rfl (fun _ => stepG_inLoop) (ihK K' h (by omega) N y' a' w' (hN _ _ _ _ q.1) (Nat.le_refl N) q.1)
            · omega
          | exit id => exact ((hc _ _ _ _ _ (by omega) q).more hle).push rfl (by simp)
          | ret => exact ((hc _ _ _ _ _ (by omega) q).more hle).push (x := .inLoop c) rfl (by simp)
          | goto l => exact hc _ _ _ _ _ (by omega) q
          | panic ch => exact hc _ _ _ _ _ (by omega) q
          | outgrown => exact hc _ _ _ _ _ (by omega) q
        simp only [if_true] at this
        exact this.more (by simp; omega)
      | succ M ih =>
        intro y a w hμ hM hI
        have := round K₁ y a w hK₁ hI b (.inLoop c :: k) cs (fun K' => if K' = K₁ then f K' + (M + 1) * (r + 1) + 1 else f K' + (N + 1) * (r + 1) + 1) hb hk fun e K' y' a' w' hK q => by
          have hle : f K' ≤ (if K' = K₁ then f K' + (M + 1) * (r + 1) + 1 else f K' + (N + 1) * (r + 1) + 1) := by split <;> omega
          cases e with
          | normal =>
            show J S m K' (if K' = K₁ then f K' + (M + 1) * (r + 1) + 1 else f K' + (N + 1) * (r + 1) + 1) y' _ w'
            rcases Nat.lt_or_eq_of_le hK with h | rfl
            · rw [if_neg (by omega)]
              exact J.ctl rfl rfl (fun _ => stepG_inLoop) (ihK K' h (by omega) N y' a' w' (hN _ _ _ _ q.1) (Nat.le_refl N) q.1)
            · rw [if_pos rfl]
              have hm : μ y' a' w' < μ y a w := q.2.resolve_left (by omega)
              exact J.ctl rfl rfl (fun _ => stepG_inLoop) (ih y' a' w' (by omega) (by omega) q.1)
          | exit id => exact ((hc _ _ _ _ _ (by omega) q).more hle).push rfl (by simp)
          | ret => exact ((hc _ _ _ _ _ (by omega) q).more hle).push (x := .inLoop c) rfl (by simp)
          | goto l => exact hc _ _ _ _ _ (by omega) q
          | panic ch => exact hc _ _ _ _ _ (by omega) q
          | outgrown => exact hc _ _ _ _ _ (by omega) q
        simp only [if_true] at this
        refine this.more ?_
        have : (M + 1 + 1) * (r + 1) = (M + 1) * (r + 1) + (r + 1) := by rw [Nat.succ_mul]
        omega
  have := J.ctl rfl rfl (fun _ => stepG_loop) (key K (Nat.le_refl K) N y a w (hN _ _ _ _ h₀) (Nat.le_refl N) h₀)
  exact this.more (by omega)

theorem WF.region {id : Nat} {ops : Array Oper} (h : OF S m fn ops (List.range ops.size) n Q K y a w) : WF S m fn (.region id ops false) (n + 1) Q K y a w :=
  fun b k cs f hb hk hc => J.ctl rfl rfl (fun _ => stepG_region) (h b k cs f hb hk hc)

theorem OF.nil {ops : Array Oper} (h : Q .normal K y a w) : OF S m fn ops [] 1 Q K y a w := fun _ _ _ _ _ _ hc => J.ctl rfl rfl (fun _ => stepG_region_end) (hc _ _ _ _ _ (Nat.le_refl K) h)

theorem OF.unwanted {ops : Array Oper} {i : Nat} {rest : List Nat} {o : Oper} (ho : ops[i]? = some o) (hw : Region.wanted o (yielded ops a.tmps) = false) (h : OF S m fn ops rest n Q K y (a.put o.dst undef) w) : OF S m fn ops (i :: rest) (n + 1) Q K y a w :=
  fun b k cs f hb hk hc => J.ctl rfl rfl (fun _ => stepG_unwanted ho hw) (h b k cs f hb hk hc)

/-- ████ ONE OPERATION THAT IS CARRIED OUT: whatever the others have done. ████ -/
theorem OF.cons {ops : Array Oper} {i : Nat} {rest : List Nat} {o : Oper} (ho : ops[i]? = some o) (hw : Region.wanted o (yielded ops a.tmps) = true)
    (h : ∀ K₁, K₁ ≤ K → ∀ w₁, S.R y K K₁ w w₁ → uponK o a (fun a' w' => ∃ y', (∀ wk, S.D y K₁ w₁ y' K₁ w' (listed S.P fn a o w₁) wk) ∧ OF S m fn ops rest n Q K₁ y' a' w') ((execOp a.eval o).run S.P w₁)) : OF S m fn ops (i :: rest) (n + 1) Q K y a w := by
  intro b k cs f hb hk hc
  refine J.step (f := fun K => f K + n) rfl fun K₁ hK w₁ r => ?_
  have := h K₁ hK w₁ r
  subst hb
  unfold Nxt
  generalize hr : (execOp a.eval o).run S.P w₁ = res at this
  match res, this with
  | .ok (.value v) w', ⟨y', hd, hn⟩ => rw [stepG_value ho hw hk hr]; exact .inl ⟨rfl, y', K₁, hd _, .inl ⟨rfl, hn b k cs f rfl hk fun e K₂ y₂ a₂ w₂ hK₂ q => hc e K₂ y₂ a₂ w₂ (by omega) q⟩⟩
  | .ok .skip w', ⟨y', hd, hn⟩ => rw [stepG_none ho hw hk hr]; exact .inl ⟨rfl, y', K₁, hd _, .inl ⟨rfl, hn b k cs f rfl hk fun e K₂ y₂ a₂ w₂ hK₂ q => hc e K₂ y₂ a₂ w₂ (by omega) q⟩⟩

/-- An operation whose step is known by a law of its own; the budget may fall. -/
theorem OF.go {ops : Array Oper} {i : Nat} {rest : List Nat}
    (h : ∀ K₁, K₁ ≤ K → ∀ w₁, S.R y K K₁ w w₁ → ∃ a' w' es y' K', (∀ (b : Frame) (k : List Item) (cs : List Frame), b.fn = fn → b.kind ≠ .early → stepG S.P m (Conc.G (b.at a (.inRegion ops (i :: rest) :: k)) cs) w₁ = .go (Conc.G (b.at a' (.inRegion ops rest :: k)) cs) w' es) ∧
      (∀ wk, S.D y K₁ w₁ y' K' w' es wk) ∧ K' ≤ K₁ ∧ OF S m fn ops rest n Q K' y' a' w') : OF S m fn ops (i :: rest) (n + 1) Q K y a w := by
  intro b k cs f hb hk hc
  refine J.step (f := fun K => f K + n) rfl fun K₁ hK w₁ r => ?_
  obtain ⟨a', w', es, y', K', hs, hd, hK', hn⟩ := h K₁ hK w₁ r
  unfold Nxt
  rw [hs b k cs hb hk]
  have hJ := hn b k cs f hb hk fun e K₂ y₂ a₂ w₂ hK₂ q => hc e K₂ y₂ a₂ w₂ (by omega) q
  rcases Nat.lt_or_eq_of_le hK' with h' | rfl
  · exact .inl ⟨rfl, y', K', hd _, .inr ⟨h', _, hJ⟩⟩
  · exact .inl ⟨rfl, y', K', hd _, .inl ⟨rfl, hJ⟩⟩
end

/-! ### calls -/

/-- What the body of a callee must achieve. -/
def retF (S : Sys) (fn : Func) (Post : Value → Nat → S.G → World → Prop) : PostF S
  | .normal, K, y, a, w | .ret, K, y, a, w => a.defers = [] ∧ ∃ v, ResultsC S.P fn a.tmps v ∧ Post v K y w
  | _, _, _, _, _ => False

/-- ████ A CONTRACT IN COMPANY. ████ -/
def CF (S : Sys) (m : Bool) (f : FuncId) (args : Array Value) (n : Nat) (Post : Value → Nat → S.G → World → Prop) (K : Nat) (y : S.G) (w : World) : Prop :=
  ∃ fn c, S.P.funcs[f]? = some fn ∧ (fn.name == "runtime.NumGoroutine") = false ∧ fn.body = some c ∧
    WF S m f c n (retF S fn Post) K y { tmps := args ++ Array.replicate (fn.ntmps - args.size) undef, defers := [] } w

section
variable {S : Sys} {m : Bool} {fn : FuncId} {Q : PostF S} {K n : Nat} {y : S.G} {a : Act} {w : World}

theorem CF.mono {f : FuncId} {args : Array Value} {Post Post' : Value → Nat → S.G → World → Prop} (h : CF S m f args n Post K y w) (hp : ∀ v K' y' w', K' ≤ K → Post v K' y' w' → Post' v K' y' w') : CF S m f args n Post' K y w := by
  obtain ⟨fn, c, hf, hn, hb, hw⟩ := h
  refine ⟨fn, c, hf, hn, hb, hw.mono fun e K' y' a w hK q => ?_⟩
  cases e <;> first | exact ⟨q.1, q.2.choose, q.2.choose_spec.1, hp _ _ _ _ hK q.2.choose_spec.2⟩ | exact q

/-- Through a call, by the callee's contract. -/
theorem OF.call {ops : Array Oper} {i : Nat} {rest : List Nat} {o : Oper} {f : FuncId} {args : Array Operand} {ats : Array TypeId} {nf : Nat} {Post : Value → Nat → S.G → World → Prop}
    (ho : ops[i]? = some o) (hw : Region.wanted o (yielded ops a.tmps) = true) (hop : o.op = .call { callee := .value (.func f), args, argTypes := ats })
    (hcall : CF S m f (args.map a.eval) nf Post K y w) (hnext : ∀ v K' y' w', K' ≤ K → Post v K' y' w' → OF S m fn ops rest n Q K' y' (a.put o.dst v) w') : OF S m fn ops (i :: rest) (n + nf + 3) Q K y a w := by
  intro b k cs F hb hk hc
  obtain ⟨fn', c, hf, hname, hbody, hwp⟩ := hcall
  have hfin : ∀ v, (b.at a (.inRegion ops (i :: rest) :: k)).finish v = b.at (a.put o.dst v) (.inRegion ops rest :: k) := fun v => by rw [Frame.finish_at, ho]; rfl
  have hleave : ∀ (K' : Nat) (y' : S.G) (a' : Act) (w' : World) (todo : List Item), K' ≤ K → (a'.defers = [] ∧ ∃ v, ResultsC S.P fn' a'.tmps v ∧ Post v K' y' w') →
      J S m K' (F K' + n + 1) y' (Conc.G { (base f).at a' todo with mode := .returning } (b.at a (.inRegion ops (i :: rest) :: k) :: cs)) w' := by
    rintro K' y' a' w' todo hK ⟨hd, v, hr, hp⟩
    refine J.ctl rfl rfl (fun w₁ => by rw [stepG_leave (b := base f) rfl hd hf (hr w₁).1 (hr w₁).2, hfin]) ?_
    exact hnext v K' y' w' hK hp b k cs F hb hk fun e K₂ y₂ a₂ w₂ hK₂ q => hc e K₂ y₂ a₂ w₂ (by omega) q
  have hbodyJ : J S m K (F K + n + 2 + nf) y (Conc.G ((base f).at { tmps := args.map a.eval ++ Array.replicate (fn'.ntmps - (args.map a.eval).size) undef, defers := [] } [.code c]) (b.at a (.inRegion ops (i :: rest) :: k) :: cs)) w := by
    refine hwp (base f) [] _ (fun K => F K + n + 2) rfl (by simp [base]) fun e K' y' a' w' hK q => ?_
    cases e with
    | normal => exact J.ctl rfl rfl (fun _ => stepG_end) (hleave K' y' a' w' [] hK q)
    | ret => exact fun todo => (hleave K' y' a' w' todo hK q).more (by omega)
    | exit id => exact q.elim
    | goto l => exact q.elim
    | panic ch => exact q.elim
    | outgrown => exact q.elim
  have hs : ∀ w, stepG S.P m (Conc.G (b.at a (.inRegion ops (i :: rest) :: k)) cs) w = .go (Conc.G ((base f).at { tmps := args.map a.eval ++ Array.replicate (fn'.ntmps - (args.map a.eval).size) undef, defers := [] } [.code c]) (b.at a (.inRegion ops (i :: rest) :: k) :: cs)) w #[] := by
    intro w
    have hb' : fn'.body.isNone = false := by rw [hbody]; rfl
    rw [stepG_enter ho hw hk (run_call_body hop hf hname hb'), enter_at _ hf hbody]
    have : listed S.P b.fn a o w = #[] := by unfold listed; rw [events_call_body hop hf hname hb']; exact seen_none S.P _
    rw [this]
  exact (J.ctl rfl rfl hs hbodyJ).more (by omega)
end
end Go.Proofs.Ytgnhddnhcfmipaa.Eg
