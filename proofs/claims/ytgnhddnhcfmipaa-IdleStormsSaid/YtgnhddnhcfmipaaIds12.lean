/- IdleStorms: a word of a storm, taken apart, turned and put together; its delay is read. -/
import Derived.Test.YtgnhddnhcfmipaaIds11
namespace Go.Proofs.Ytgnhddnhcfmipaa.Ids
open Go Go.Conc Go.RowKit Go.Proofs.Ytgnhddnhcfmipaa.Eg Go.Proofs.Ytgnhddnhcfmipaa

def kOf (e : Bool) : Int := if e then 1 else 0
theorem wdv_eq (u : Int) (e : Bool) : wdv u e = ⟨u, e, 0, kOf e⟩ := rfl
theorem wdv_ok {u : Nat} {e : Bool} (h : u ≤ 65535) : (wdv (u : Int) e).ok := by
  refine ⟨?_, ?_, by simp [wdv], by simp [wdv], ?_, ?_⟩ <;> simp [wdv] <;> first | omega | (cases e <;> simp)

theorem view_w : ∃ nf, ∀ {N : Nat} {F : Nat → World → Prop} {m : Bool} {y : Gh Role} {K : Nat} {w : World} {l : List Row} (u : Nat) (e : Bool) (_ : u ≤ 16) (_ : Ctx N F y K w l) (_ : y.role.quiet = false),
    CJ (S N) m 44 #[.int .u64 (wdv (u : Int) e).num] nf (fun r K' y' w' => r = .agg #[.int .i64 u, .bool e, .int .i64 0, .int .i64 (kOf e)] ∧ Gr y y' ∧ Ctx N F y' K' w' l) K y w := by
  obtain ⟨n, h⟩ := view_c
  exact ⟨n, fun u e hu H hq => h (wdv u e) (wdv_ok (by omega)) H hq⟩
theorem get_w : ∃ nf, ∀ {N : Nat} {F : Nat → World → Prop} {m : Bool} {y : Gh Role} {K : Nat} {w : World} {l : List Row} (d : Int) (u : Nat) (e : Bool) (_ : u ≤ 16) (_ : Ctx N F y K w l) (_ : y.role.quiet = false),
    CJ (S N) m 79 #[.int .i64 d, .int .i64 0, .agg #[.int .i64 u, .bool e, .int .i64 0, .int .i64 (kOf e)]] nf (fun r K' y' w' => r = .tuple #[.agg #[.int .i64 ((u + 1 : Nat) : Int), .bool true, .int .i64 0, .int .i64 1], .int .i64 0] ∧ Gr y y' ∧ Ctx N F y' K' w' l) K y w := by
  obtain ⟨n, h⟩ := get_t
  obtain ⟨n', h'⟩ := get_f
  refine ⟨n + n', fun d u e hu H hq => ?_⟩
  cases e with
  | true => exact (h d 0 u 0 1 (wdv_ok (u := u) (e := true) (by omega)) (by omega) H hq).more (by omega)
  | false => exact (h' d 0 u 0 0 (wdv_ok (u := u) (e := false) (by omega)) (by omega) H hq).more (by omega)
theorem put_w : ∃ nf, ∀ {N : Nat} {F : Nat → World → Prop} {m : Bool} {y : Gh Role} {K : Nat} {w : World} {l : List Row} (d : Int) (u : Nat) (_ : u ≤ 16) (_ : Ctx N F y K w l) (_ : y.role.quiet = false),
    CJ (S N) m 80 #[.int .i64 d, .int .i64 0, .agg #[.int .i64 ((u + 1 : Nat) : Int), .bool true, .int .i64 0, .int .i64 (kOf true)]] nf (fun r K' y' w' => r = .tuple #[.agg #[.int .i64 (u : Int), .bool true, .int .i64 0, .int .i64 1], .int .i64 0] ∧ Gr y y' ∧ Ctx N F y' K' w' l) K y w := by
  obtain ⟨n, h⟩ := put_1
  obtain ⟨n', h'⟩ := put_m
  refine ⟨n + n', fun {N F m y K w l} d u hu H hq => ?_⟩
  cases u with
  | zero => exact (h d 0 0 1 true H hq).more (by omega)
  | succ v =>
    have := (h' (m := m) d 0 ((v + 1 + 1 : Nat) : Int) 0 1 true (wdv_ok (u := v + 1 + 1) (e := true) (by omega)) (by omega) H hq).more (n' := n + n') (by omega)
    rw [show ((v + 1 + 1 : Nat) : Int) - 1 = ((v + 1 : Nat) : Int) by omega] at this
    exact this
theorem packed_w : ∃ nf, ∀ {N : Nat} {F : Nat → World → Prop} {m : Bool} {y : Gh Role} {K : Nat} {w : World} {l : List Row} (u : Nat) (_ : u ≤ 17) (_ : Ctx N F y K w l) (_ : y.role.quiet = false),
    CJ (S N) m 61 #[.agg #[.int .i64 (u : Int), .bool true, .int .i64 0, .int .i64 1]] nf (fun r K' y' w' => r = .int .u64 (wdv (u : Int) true).num ∧ Gr y y' ∧ Ctx N F y' K' w' l) K y w := by
  obtain ⟨n, h⟩ := packed_t
  exact ⟨n, fun u hu H hq => h u 0 1 (wdv_ok (u := u) (e := true) (by omega)) H hq⟩

section
variable {N : Nat} {F : Nat → World → Prop} {m : Bool} {fn : FuncId} {Q : PostF (S N)} {K n : Nat} {y : Gh Role} {a : Act} {w : World} {l l' : List Row} {ops : Array Oper} {i : Nat} {rest : List Nat} {o : Oper}

/-- A LOAD of a cell that all may read. -/
theorem OF.ldS {ty : TypeId} {x : Operand} {d : TypeDesc} {v : Value} {c : Cfg} {q : Wp} {ad : Addr} (ho : ops[i]? = some o) (hw : Region.wanted o (yielded ops a.tmps) = true) (hop : o.op = .load ty x) (H : Ctx N F y K w l) (hr : y.role = .work c q) (hq : y.role.quiet = false) (hx : a.eval x = .pointer (some ad))
    (hv : ∀ w, StW c q w → w.cell? ad = some v) (hs : ad.block = c.tb ∨ ad.block = c.wb ∨ (ad.block = c.wd ∧ ad.off ≠ 1)) (hu : Try.prog.underlying ty = some d) (hd : aggD d = false)
    (hn : ∀ K₁ w₁, K₁ ≤ K → R y K K₁ w w₁ → Ctx N F y K₁ w₁ l → OF (S N) m fn ops rest n Q K₁ y (a.put o.dst v) w₁) : OF (S N) m fn ops (i :: rest) (n + 1) Q K y a w := by
  refine OF.cons ho hw fun K₁ hK w₁ r => ?_
  have H₁ := H.rely r
  have hc := hv w₁ (H₁.st.work hr).1
  obtain ⟨h1, h2⟩ := run_ld1 (a := a) hop hx hu hd hc
  have hev : ∀ e ∈ listed Try.prog fn a o w₁, e = ⟨.cell ad, false, false⟩ := fun e hm => by
    have := mem_listed hm
    rw [h2] at this
    simpa using this
  show uponK o a _ ((execOp a.eval o).run Try.prog w₁)
  rw [h1]
  refine ⟨y, fun wk => .plain ⟨rfl, rfl, rfl, (deafBehind_still (fun e he => ?_) _).symm, Below.refl _ _, fun _ h => h, fun _ h => .inl h, fun _ _ _ => rfl, fun e hm => ?_, fun h => by rw [hq] at h; cases h⟩, hn K₁ w₁ hK r H₁⟩
  · rw [hev e he]; exact ⟨by simp, by simp⟩
  · rw [hev e hm]
    refine ⟨fun x hx => ?_, fun b hb => by cases hb⟩
    cases hx
    exact ⟨fun hk => (by cases hk), .inr (.inl ⟨by rw [hr]; exact ⟨ad, rfl, hs⟩, rfl⟩)⟩
end
end Go.Proofs.Ytgnhddnhcfmipaa.Ids
