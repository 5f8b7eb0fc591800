/- IdleBooks, walked. -/
import Derived.Test.YtgnhddnhcfmipaaTwo
namespace Go.Proofs.Ytgnhddnhcfmipaa
open Go.RowKit Go.BigFrame

def trow (t : Int × Int) : List Value := [.int .i64 t.1, .int .i64 t.2]
def Trs (w : World) (A : Option Addr) (l : List (Int × Int)) : Prop := Sl (fun _ => True) w A 2 (l.map trow)
theorem Trs.at_ {w : World} {A : Option Addr} {l : List (Int × Int)} (h : Trs w A l) {k : Nat} (hk : k < l.length) :
    ∃ b o, A = some ⟨b, o, none⟩ ∧ b < w.heap.size ∧ w.cell? ⟨b, o + k * 2, none⟩ = some (.int .i64 l[k].1) ∧ w.cell? ⟨b, o + k * 2 + 1, none⟩ = some (.int .i64 l[k].2) := by
  obtain ⟨b, o, e, _, hl, hc⟩ := Sl.at_ h (k := k) (by simpa using hk)
  exact ⟨b, o, e, hl, hc 0 _ (by simp [trow]), hc 1 _ (by simp [trow])⟩
theorem Trs.le {w : World} {A : Option Addr} {l : List (Int × Int)} (h : Trs w A l) : l.length ≤ 9223372036854775807 := by
  have := Sl.le h; simpa using this
theorem Trs.below {w w' : World} {A : Option Addr} {l : List (Int × Int)} (h : Trs w A l) (d : Below w.heap.size w w') : Trs w' A l := Sl.below' h d
theorem el42 : Elt Try.prog 42 3 1 8 := Elt.of (z := .int .i64 0) Try.underlying42 (by kernel_rfl) rfl (by decide) (by decide)
theorem one_ints (l : List Int) : ∀ r ∈ l.map irow, ∀ u ∈ r, u.oneCell' = true := by
  intro r hr u hu
  obtain ⟨n, _, rfl⟩ := List.mem_map.1 hr
  simp only [irow, List.mem_singleton] at hu
  subst hu
  rfl
theorem own_ints {w : World} {B : Nat} {e : TypeId} {l : List Int} {v : Value} (h : Own w B e 1 (l.map irow) v) : ∃ A c, v = .slice A l.length c ∧ Ints w A l := by
  obtain ⟨A, c, hv, hs⟩ := h.sl
  exact ⟨A, c, by rw [hv, List.length_map], hs.mono fun _ _ => trivial⟩
/-- the cells of row k, of three, to be written -/
theorem Own.row3 {w : World} {base : Nat} {e : TypeId} {rs : List (List Value)} {A : Option Addr} {n c : Nat} (h : Own w base e 3 rs (.slice A n c)) (hn : rs.length = n) {k : Nat} (hk : k < n) :
    ∃ g u0 u1 u2, A = some ⟨g, 0, none⟩ ∧ base ≤ g ∧ g < w.heap.size ∧ w.cell? ⟨g, k * 3, none⟩ = some u0 ∧ w.cell? ⟨g, k * 3 + 1, none⟩ = some u1 ∧ w.cell? ⟨g, k * 3 + 2, none⟩ = some u2 ∧ w.frozen? ⟨g, k * 3, none⟩ = false ∧ w.frozen? ⟨g, k * 3 + 1, none⟩ = false ∧ w.frozen? ⟨g, k * 3 + 2, none⟩ = false ∧
      ∀ x y z, Own (((w.setCell ⟨g, k * 3, none⟩ x).setCell ⟨g, k * 3 + 1, none⟩ y).setCell ⟨g, k * 3 + 2, none⟩ z) base e 3 (rs.set k [x, y, z]) (.slice A n c) := by
  subst hn
  obtain ⟨g, cap, hv, hg1, hg2, hg3⟩ := h.form (by omega)
  simp only [Value.slice.injEq, true_and] at hv
  obtain ⟨rfl, rfl⟩ := hv
  have hl := h.2 _ (List.getElem_mem hk)
  match hm : rs[k], hl with
  | [u0, u1, u2], _ =>
    have c0 := h.cell hk (f := 0) (u := u0) (by rw [hm]; rfl)
    have c1 := h.cell hk (f := 1) (u := u1) (by rw [hm]; rfl)
    have c2 := h.cell hk (f := 2) (u := u2) (by rw [hm]; rfl)
    refine ⟨g, u0, u1, u2, rfl, hg1, hg2, c0.1, c1.1, c2.1, c0.2, c1.2, c2.2, fun x y z => ?_⟩
    have h1 := h.set hk (f := 0) (by decide) x
    rw [hm] at h1
    have hk' : k < (rs.set k ([u0, u1, u2].set 0 x)).length := by rw [List.length_set]; exact hk
    have hl' : (rs.set k ([u0, u1, u2].set 0 x)).length = rs.length := List.length_set
    have h2 : Own (w.setCell ⟨g, k * 3, none⟩ x) base e 3 (rs.set k ([u0, u1, u2].set 0 x)) (.slice (some ⟨g, 0, none⟩) (rs.set k ([u0, u1, u2].set 0 x)).length c) := by rw [hl']; exact h1
    have h3 := h2.set hk' (f := 1) (by decide) y
    rw [List.getElem_set_self, List.set_set, hl'] at h3
    have hk'' : k < (rs.set k (([u0, u1, u2].set 0 x).set 1 y)).length := by rw [List.length_set]; exact hk
    have hl'' : (rs.set k (([u0, u1, u2].set 0 x).set 1 y)).length = rs.length := List.length_set
    have h4 : Own ((w.setCell ⟨g, k * 3, none⟩ x).setCell ⟨g, k * 3 + 1, none⟩ y) base e 3 (rs.set k (([u0, u1, u2].set 0 x).set 1 y)) (.slice (some ⟨g, 0, none⟩) (rs.set k (([u0, u1, u2].set 0 x).set 1 y)).length c) := by rw [hl'']; exact h3
    have h5 := h4.set hk'' (f := 2) (by decide) z
    rw [List.getElem_set_self, List.set_set, hl''] at h5
    exact h5
theorem open_yes (ps qs : List Int) (A1 A2 : Option Addr) (c1 c2 : Nat) (W : World) (h1 : Ints W A1 ps) (h2 : Ints W A2 qs) (ho : openOk ps qs) :
    Calls Try.prog 25 #[.slice A1 ps.length c1, .slice A2 qs.length c2] W fun e w' => ∃ v, e = .returned (.tuple #[.pointer (some ⟨W.heap.size, 0, none⟩), .int .i64 0]) ∧ Bp w' W.heap.size W.heap.size v (devs ps qs ps.length) 0 ∧ Below W.heap.size W w' := by
  have e := ho.1
  rw [← e]
  refine (open_any ps qs ps.length A1 A2 c1 c2 W h1 h2 rfl e.symm ho.2.1).mono fun _ _ ⟨hb, h⟩ => ?_
  rcases h with ⟨_, v, h3, h4⟩ | ⟨h, _⟩
  · exact ⟨v, h3, h4, hb⟩
  · exact absurd ho h
theorem open_no (ps qs : List Int) (A1 A2 : Option Addr) (c1 c2 : Nat) (W : World) (h1 : Ints W A1 ps) (h2 : Ints W A2 qs) (ho : ¬ openOk ps qs) :
    Calls Try.prog 25 #[.slice A1 ps.length c1, .slice A2 qs.length c2] W fun e w' => e = .returned (.tuple #[.pointer none, .int .i64 1]) ∧ Below W.heap.size W w' := by
  by_cases hl : ps.length = qs.length ∧ ps.length ≤ 512
  · have e := hl.1
    rw [← e]
    refine (open_any ps qs ps.length A1 A2 c1 c2 W h1 h2 rfl e.symm hl.2).mono fun _ _ ⟨hb, h⟩ => ?_
    rcases h with ⟨h, _⟩ | ⟨_, h3⟩
    · exact absurd h ho
    · exact ⟨h3, hb⟩
  · exact (open_len ps qs A1 A2 c1 c2 W h1 h2 hl).mono fun _ _ ⟨h3, h4⟩ => ⟨h3, by rw [h4]; exact Below.refl _ _⟩
theorem ropen_yes (ps qs : List Int) (A1 A2 : Option Addr) (c1 c2 : Nat) (W : World) (h1 : Ints W A1 ps) (h2 : Ints W A2 qs) (ho : openOk ps qs) :
    Calls Try.prog 26 #[.slice A1 ps.length c1, .slice A2 qs.length c2] W fun e w' => ∃ v, e = .returned (.tuple #[.pointer (some ⟨W.heap.size, 0, none⟩), .int .i64 0]) ∧ Rk w' w'.heap.size W.heap.size W.heap.size v (.slice none 0 0) (devs ps qs ps.length) 0 [] ∧ Below W.heap.size W w' := by
  have e := ho.1
  rw [← e]
  refine (ropen_any ps qs ps.length A1 A2 c1 c2 W h1 h2 rfl e.symm ho.2.1).mono fun _ _ ⟨hb, h⟩ => ?_
  rcases h with ⟨_, v, h3, h4⟩ | ⟨h, _⟩
  · exact ⟨v, h3, h4, hb⟩
  · exact absurd ho h
theorem ropen_no (ps qs : List Int) (A1 A2 : Option Addr) (c1 c2 : Nat) (W : World) (h1 : Ints W A1 ps) (h2 : Ints W A2 qs) (ho : ¬ openOk ps qs) :
    Calls Try.prog 26 #[.slice A1 ps.length c1, .slice A2 qs.length c2] W fun e w' => e = .returned (.tuple #[.pointer none, .int .i64 1]) ∧ Below W.heap.size W w' := by
  by_cases hl : ps.length = qs.length ∧ ps.length ≤ 512
  · have e := hl.1
    rw [← e]
    refine (ropen_any ps qs ps.length A1 A2 c1 c2 W h1 h2 rfl e.symm hl.2).mono fun _ _ ⟨hb, h⟩ => ?_
    rcases h with ⟨h, _⟩ | ⟨_, h3⟩
    · exact absurd h ho
    · exact ⟨h3, hb⟩
  · exact (ropen_len ps qs A1 A2 c1 c2 W h1 h2 hl).mono fun _ _ ⟨h3, h4⟩ => ⟨h3, by rw [h4]; exact Below.refl _ _⟩
section
variable {w W W' : World} {M bb rb : Nat} {v v2 : Value} {ds d2 : List Dv} {now n2 : Int}
/-- all that the books hold lies below N -/
structure Bnd (N bb rb : Nat) (v v2 : Value) : Prop where
  b : bb < N
  r : rb < N
  v : ∀ g, v.ownBlock = some g → g < N
  v2 : ∀ g, v2.ownBlock = some g → g < N
theorem Twb.bnd (h : Twb w W M bb rb v v2 ds now d2 n2) : Bnd W.heap.size bb rb v v2 := ⟨h.bk.lt, h.rk.lt, fun g hg => (h.bk.own.lt g hg).2, fun g hg => (h.rk.own.lt g hg).2⟩
theorem Twb.above {N : Nat} (h : Twb w W M bb rb v v2 ds now d2 n2) (hN : Bnd N bb rb v v2) (d : Below N W W') : Twb w W' M bb rb v v2 ds now d2 n2 :=
  ⟨h.bk.keep (d.block _ hN.b) (fun g hg => d.block _ (hN.v g hg)), (h.rk.fr (Fr.of (S := fun _ => False) d) ⟨hN.r, id⟩ (fun g hg => ⟨hN.v2 g hg, id⟩)).rise d.size (Nat.le_refl _), h.lb, h.lv, h.hm, h.lo, h.b.trans (d.mono (by have := h.lo; have := hN.b; omega))⟩
/-- an older list is written -/
theorem Twb.set (h : Twb w W M bb rb v v2 ds now d2 n2) {p : Addr} (h1 : w.heap.size ≤ p.block) (h2 : p.block < bb) (x : Value) : Twb w (W.setCell p x) M bb rb v v2 ds now d2 n2 := by
  have lb := h.lb
  have hm := h.hm
  have hk : ∀ b, b ≠ p.block → (W.setCell p x).heap[b]? = W.heap[b]? := fun b q => Below.heap_setCell W p x b q
  have hF : Fr W.heap.size (fun b => b = p.block) W (W.setCell p x) := ⟨(Below.refl 0 W).setCell (Nat.zero_le _) x, fun b _ q => hk b q⟩
  refine ⟨h.bk.keep (hk _ (by omega)) (fun g hg => hk _ (by have := (h.bk.own.lt g hg).1; omega)), (h.rk.fr hF ⟨h.rk.lt, by omega⟩ (fun g hg => ⟨(h.rk.own.lt g hg).2, by have := (h.rk.own.lt g hg).1; omega⟩)).rise hF.size (Nat.le_refl _), lb, h.lv, hm, h.lo, h.b.setCell h1 x⟩
end
theorem getd_ev {ds : List Dv} {now : Int} (h : Par ds) (hl : ds.length ≤ 512) (i : Int) : (getd ds now i).2.1.length ≤ 1000 := by
  unfold getd
  split
  · rename_i hi
    simp only
    split
    · simp
    · have hn : i.toNat < ds.length := by have := hi.1; have := hi.2; omega
      have hx := List.getElem?_eq_getElem hn
      have := wk_ev (i.toNat + 1) (ds.set i.toNat { ds.getD i.toNat zd with t := wrap64 ((ds.getD i.toNat zd).t + 1) }) now i.toNat (h.set hx (by rw [getD_of hx])) (by rw [List.length_set]; exact hn)
      exact Nat.le_trans this (by omega)
  · simp
theorem tickd_ev {ds : List Dv} {now : Int} (hl : ds.length ≤ 512) (i : Int) : (tickd ds now i).2.2.1.length ≤ 1000 := by
  unfold tickd
  split
  · have := tk_ev (awk ds + 1) ds i
    have := awk_le ds
    simp only
    omega
  · simp
end Go.Proofs.Ytgnhddnhcfmipaa
