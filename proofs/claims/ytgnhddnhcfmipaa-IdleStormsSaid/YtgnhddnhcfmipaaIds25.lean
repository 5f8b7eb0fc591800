/- IdleStorms: goroutine 0 in a storm: marks, the go statement, rules. -/
import Derived.Test.YtgnhddnhcfmipaaIds18
import Derived.Test.YtgnhddnhcfmipaaIds21
import Derived.Conc.MarkLaws
namespace Go.Proofs.Ytgnhddnhcfmipaa.Ids
open Go Go.Conc Go.RowKit Go.Proofs.Ytgnhddnhcfmipaa.Eg Go.Proofs.Ytgnhddnhcfmipaa

section
variable {N : Nat} {F : Nat → World → Prop} {m : Bool} {fn : FuncId} {Q : PostF (S N)} {K n : Nat} {y : Gh Role} {a : Act} {w : World} {l l' : List Row} {ops : Array Oper} {i : Nat} {rest : List Nat} {o : Oper}

theorem Ctx.deafs (H : Ctx N F y K w l) (d : Nat) : Ctx N F ⟨y.own, y.rem, d, y.role⟩ K w l := ⟨H.rows, H.st, H.hi, H.lo, H.big, H.keeps, H.mem⟩

theorem St.boss {c : Cfg} {p : Bp} (h : St y K w) (hr : y.role = .boss c p) : StB c p w ∧ Ap c y.own := by
  have := h.2.2; rw [hr] at this; exact this

/-- Goroutine 0 sees the group. -/
theorem StB.grp {c : Cfg} {p : Bp} (h : StB c p w) : ∃ s m, w.heap[c.wg]? = some (grO s m) := by
  obtain ⟨_, u, e, _, h⟩ := h
  cases p with
  | op k pend => obtain ⟨n, _, _, _, x, _⟩ := h; exact ⟨_, _, x⟩
  | reg => obtain ⟨s, m, x, _⟩ := h; exact ⟨_, _, x⟩
  | free => exact ⟨_, _, h.1⟩

/-- A MARK that goroutine 0 says. -/
theorem OF.mk {v : Value} {d' : Nat} {es : Array Event} (H : Ctx N F y K w l) (hq : y.role.quiet = false) (hd : d' = deafBehind y.deaf es) (he : ∀ e ∈ es, Eg.EvOk (sh.still y.role) (sh.shared y.role) y.own y.role.main e)
    (h : ∀ K w, Ctx N F y K w l → ∀ (b : Frame) (k : List Item) (cs : List Frame), b.fn = fn → b.kind ≠ .early → stepG Try.prog m (Conc.G (b.at a (.inRegion ops (i :: rest) :: k)) cs) w = .go (Conc.G (b.at (a.put o.dst v) (.inRegion ops rest :: k)) cs) w es)
    (hn : ∀ K₁ w₁, K₁ ≤ K → Ctx N F ⟨y.own, y.rem, d', y.role⟩ K₁ w₁ l → OF (S N) m fn ops rest n Q K₁ ⟨y.own, y.rem, d', y.role⟩ (a.put o.dst v) w₁) : OF (S N) m fn ops (i :: rest) (n + 1) Q K y a w := by
  refine OF.go fun K₁ hK w₁ r => ?_
  have H₁ := H.rely r
  exact ⟨_, w₁, es, ⟨y.own, y.rem, d', y.role⟩, K₁, h K₁ w₁ H₁, fun wk => .plain ⟨rfl, rfl, rfl, hd, Below.refl _ _, fun _ h => h, fun _ h => .inl h, fun _ _ _ => rfl, he, fun h => by rw [hq] at h; cases h⟩, Nat.le_refl _, hn K₁ w₁ hK (H₁.deafs d')⟩

/-- An entry that only yields. -/
theorem OF.bub {f : FuncId} {fn' : Func} {axs : Array Operand} {ats : Array TypeId} (v : Value) (ho : ops[i]? = some o) (hw : Region.wanted o (yielded ops a.tmps) = true) (hop : o.op = .call { callee := .value (.func f), args := axs, argTypes := ats })
    (hf : Try.prog.funcs[f]? = some fn') (hname : (fn'.name == "runtime.NumGoroutine") = false) (hb : fn'.body.isNone = true) (hx : Extern.findNext fn' = none) (he : Extern.find fn' = some (fun _ => pure v))
    (h : OF (S N) m fn ops rest n Q K y (a.put o.dst v) w) : OF (S N) m fn ops (i :: rest) (n + 1) Q K y a w :=
  fun b k cs f hb' hk hc => J.ctl rfl rfl (fun _ => stepG_entry_pure v ho hw hk hop hf hname hb hx he) (h b k cs f hb' hk hc)

/-- An operation that looks at the world and turns nothing. -/
theorem OF.see {v : Value} (ho : ops[i]? = some o) (hw : Region.wanted o (yielded ops a.tmps) = true) (H : Ctx N F y K w l)
    (hr : ∀ K w, Ctx N F y K w l → (execOp a.eval o).run Try.prog w = .ok (.value v) w ∧ (execOp a.eval o).events Try.prog w #[] = #[])
    (hn : ∀ K₁ w₁, K₁ ≤ K → R y K K₁ w w₁ → Ctx N F y K₁ w₁ l → OF (S N) m fn ops rest n Q K₁ y (a.put o.dst v) w₁) : OF (S N) m fn ops (i :: rest) (n + 1) Q K y a w := by
  refine OF.cons ho hw fun K₁ hK w₁ r => ?_
  have H₁ := H.rely r
  obtain ⟨h1, h2⟩ := hr _ _ H₁
  show uponK o a _ ((execOp a.eval o).run Try.prog w₁)
  rw [h1]
  have hev : listed (S N).P fn a o w₁ = #[] := by unfold listed; exact (by rw [show (execOp a.eval o).events (S N).P w₁ #[] = #[] from h2, seen_none])
  exact ⟨y, fun wk => by rw [hev]; exact (S N).idle _ _ _ _, hn K₁ w₁ hK r H₁⟩

/-- A step of goroutine 0's own kind. -/
theorem OF.turn (H : Ctx N F y K w l)
    (h : ∀ K₁ w₁, K₁ ≤ K → R y K K₁ w w₁ → Ctx N F y K₁ w₁ l → ∃ a' w' es y' K', (∀ (b : Frame) (k : List Item) (cs : List Frame), b.fn = fn → b.kind ≠ .early → stepG Try.prog m (Conc.G (b.at a (.inRegion ops (i :: rest) :: k)) cs) w₁ = .go (Conc.G (b.at a' (.inRegion ops rest :: k)) cs) w' es) ∧
      (∀ wk, D N y K₁ w₁ y' K' w' es wk) ∧ K' ≤ K₁ ∧ OF (S N) m fn ops rest n Q K' y' a' w') : OF (S N) m fn ops (i :: rest) (n + 1) Q K y a w :=
  OF.go fun K₁ hK w₁ r => h K₁ w₁ hK r (H.rely r)

/-- A GO STATEMENT. -/
theorem OF.spawn {c : Cfg} {k n' : Nat} {d : Deferred} {f : Fn} {cp : Array Value} (ho : ops[i]? = some o) (hw : Region.wanted o (yielded ops a.tmps) = true) (H : Ctx N F y K w l) (hr : y.role = .boss c (.op k true)) (hdf : y.deaf = 0) (hrem : 2 * c.T + 2 ≤ y.rem)
    (hrun : ∀ w, (execOp a.eval o).run Try.prog w = .ok (.spawn d) w) (hev : ∀ w, (execOp a.eval o).events Try.prog w #[] = #[]) (hd : d.target = .fn f cp)
    (hkid : ∀ {K : Nat} {yc : Gh Role} {w : World}, yc.role = .work c (.busy false false) → yc.deaf = 0 → yc.rem = 2 * c.T + 1 → Ctx N T0 yc K w [] → J (S N) false K n' yc (born Try.prog d) w)
    (hn : ∀ K₁ w₁, K₁ < K → Ctx N T0 ⟨y.own, y.rem - (2 * c.T + 2), 0, .boss c (.op (k + 1) false)⟩ K₁ w₁ l → OF (S N) true fn ops rest n Q K₁ ⟨y.own, y.rem - (2 * c.T + 2), 0, .boss c (.op (k + 1) false)⟩ (a.put o.dst undef) w₁) : OF (S N) true fn ops (i :: rest) (n + 1) Q K y a w := by
  intro b kk cs F' hb hk hc
  subst hb
  refine J.step (f := fun K => F' K + n) rfl fun K₁ hK w₁ r => ?_
  have H₁ := H.rely r
  have hs := H₁.st
  obtain ⟨⟨s1, u, e, hwd, nn, hu, hn1, hk1, hgr, hfin⟩, ap⟩ := hs.boss hr
  simp only [b2n] at hk1 hgr
  have hK1 : 1 ≤ K₁ := by have := hs.1; omega
  unfold Nxt
  rw [show (S N).P = Try.prog from rfl, stepG_spawn ho hw hk (hrun w₁) hd]
  have hl : listed Try.prog b.fn a o w₁ = #[] := by unfold listed; rw [hev, seen_none]
  rw [hl]
  have Hy : Ctx N T0 ⟨y.own, y.rem - (2 * c.T + 2), 0, .boss c (.op (k + 1) false)⟩ (K₁ - 1) w₁ l := by
    have hcl := hs.2.1
    rw [hr] at hcl
    refine ⟨H₁.rows, ⟨by have := hs.1; simp only; omega, hcl, ⟨s1, u, e, hwd, nn + 1, by omega, by omega, by simp only [b2n]; simpa using hk1, by simpa [b2n] using hgr, fun h => by omega⟩, ap⟩, H₁.hi, H₁.lo, H₁.big, Keeps.triv _, trivial⟩
  have Hc : Ctx N T0 ⟨fun _ => False, 2 * c.T + 1, 0, .work c (.busy false false)⟩ (K₁ - 1) w₁ [] :=
    ⟨⟨List.nodup_nil, fun p hp => by simp at hp⟩, ⟨by have := hs.1; simp only; omega, ⟨fun b hb => hb.elim, fun b _ hb => hb.elim⟩, ⟨s1, ⟨u, e, hwd, Nat.zero_le _, by simp only [Wp.vac]; simp at hk1; omega, fun h => by simp [Wp.sure] at h⟩, nn, 0, by simp at hk1; omega, by omega, by simpa using hgr⟩, fun b hb => hb.elim⟩, fun b hb => hb.elim, fun b hb => hb.elim, H₁.big, Keeps.triv _, trivial⟩
  refine ⟨rfl, rfl, rfl, rfl, rfl, ⟨y.own, y.rem - (2 * c.T + 2), 0, .boss c (.op (k + 1) false)⟩, ⟨fun _ => False, 2 * c.T + 1, 0, .work c (.busy false false)⟩, K₁ - 1, by omega, ?_, ?_, ?_⟩
  · exact ⟨c, k, hr, hdf, rfl, rfl, by simp only; omega, by omega⟩
  · exact ⟨_, hn (K₁ - 1) w₁ (by omega) Hy b kk cs F' rfl hk fun e K₂ y₂ a₂ w₂ hK₂ q => hc e K₂ y₂ a₂ w₂ (by omega) q⟩
  · exact ⟨_, hkid rfl rfl rfl Hc⟩
end
end Go.Proofs.Ytgnhddnhcfmipaa.Ids
