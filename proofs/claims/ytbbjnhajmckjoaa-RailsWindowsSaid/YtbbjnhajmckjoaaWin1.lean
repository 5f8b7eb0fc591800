/- Rails: windows: what a round keeps, plain. -/
import Derived.Test.YtbbjnhajmckjoaaWin0
import Derived.Test.YtbbjnhajmckjoaaSetsLaw
namespace Go.Proofs.Ytbbjnhajmckjoaa
open Go.RowKit Go.BigFrame Go.Maps

/-- what lies beside the set -/
structure Wf (H0 g Bx : Nat) (lo hi st : Int) (ls : List Int) (AL : Option Addr) (w0 X : World) : Prop where
  box : X.heap[Bx]? = some (.cells #[.int .i64 lo, .int .i64 hi, .int .i64 st] 49)
  ne : Bx ≠ g
  lad : Sl (fun b => b ≠ g) X AL 1 (ls.map irow)
  gw : H0 ≤ g
  d : Below H0 w0 X
theorem Wf.fr {H0 g Bx : Nat} {lo hi st : Int} {ls : List Int} {AL : Option Addr} {w0 X Y : World} (h : Wf H0 g Bx lo hi st ls AL w0 X) (hH : H0 ≤ X.heap.size) (f : Fr X.heap.size (fun b => b = g) X Y) : Wf H0 g Bx lo hi st ls AL w0 Y :=
  ⟨(f.k _ (heap_lt h.box) h.ne).trans h.box, h.ne, h.lad.keep fun b hb hl => f.k b hl hb, h.gw, h.d.trans (f.below hH fun b q => by rw [q]; exact h.gw)⟩
theorem Wf.below {H0 g Bx : Nat} {lo hi st : Int} {ls : List Int} {AL : Option Addr} {w0 X Y : World} (h : Wf H0 g Bx lo hi st ls AL w0 X) (hH : H0 ≤ X.heap.size) (d : Below X.heap.size X Y) : Wf H0 g Bx lo hi st ls AL w0 Y :=
  h.fr hH (Fr.of d)
def Kt (g : Nat) (X : World) (A : Option Addr) (l : List Pt) : Prop := Sl (fun b => b ≠ g) X A 2 (l.map prow)
theorem Kt.fr {g : Nat} {X Y : World} {A : Option Addr} {l : List Pt} (h : Kt g X A l) (f : Fr X.heap.size (fun b => b = g) X Y) : Kt g Y A l := Sl.keep h fun b hb hl => f.k b hl hb
theorem Kt.below {g : Nat} {X Y : World} {A : Option Addr} {l : List Pt} (h : Kt g X A l) (d : Below X.heap.size X Y) : Kt g Y A l := h.fr (Fr.of d)
theorem Kt.pts {g : Nat} {X : World} {A : Option Addr} {l : List Pt} (h : Kt g X A l) : Pts X A l := Sl.mono h fun _ _ => trivial
/-- an own list is one that is kept, if the set lies ahead of it -/
theorem own_kt {g B : Nat} {X : World} {l : List Pt} {v : Value} {e : TypeId} (h : Own X B e 2 (l.map prow) v) (hg : g < B) : ∃ A c, v = .slice A l.length c ∧ Kt g X A l ∧ (A = none → c = 0) := by
  obtain ⟨A, c, hv, hs⟩ := h.sl
  rw [List.length_map] at hv
  refine ⟨A, c, hv, hs.mono fun b q e => ?_, fun hA => ?_⟩
  · have := (h.lt b q).1
    omega
  · rcases Nat.eq_zero_or_pos (l.map prow).length with q | q
    · have := h.1.2
      rcases this with ⟨q1, _⟩ | ⟨g, cap, cur, q1, _⟩
      · rw [hv] at q1
        exact (Value.slice.inj q1).2.2
      · rw [hv, hA] at q1
        cases (Value.slice.inj q1).1
    · obtain ⟨g', c', e', _⟩ := h.form q
      rw [hv, hA] at e'
      cases (Value.slice.inj e').1
/-- the ladder lies ahead of the set -/
theorem own_lad {g B : Nat} {X : World} {l : List Int} {v : Value} {e : TypeId} (h : Own X B e 1 (l.map irow) v) (hg : X.heap.size ≤ g) : ∃ A c, v = .slice A l.length c ∧ Sl (fun b => b ≠ g) X A 1 (l.map irow) := by
  obtain ⟨A, c, hv, hs⟩ := h.sl
  rw [List.length_map] at hv
  exact ⟨A, c, hv, hs.mono fun b q e => by have := (h.lt b q).2; omega⟩
/-- what a round knows -/
structure Wi (lo hi st : Int) (i : Nat) (kept : List Pt) (m : Hl) (v : Int) : Prop where
  mp : m.map (·.2) = kept
  lt : ∀ q ∈ m, q.1 < (i : Int)
  vv : setr lo hi st m = (v, 0)
  ok : Okw kept
  len : kept.length ≤ i
theorem Wi.zero (lo hi st : Int) : Wi lo hi st 0 [] [] 0 := ⟨rfl, fun _ h => by simp at h, by unfold setr; rw [if_pos rfl], fun _ h => by simp at h, Nat.le_refl _⟩
theorem Wi.more {lo hi st : Int} {i : Nat} {kept : List Pt} {m : Hl} {v : Int} (h : Wi lo hi st i kept m v) (x : Pt) : setr lo hi st (m ++ [((i : Int), x)]) = meet lo hi st (kept ++ [x]) := by
  unfold setr
  rw [if_neg (by simp), List.map_append, h.mp]
  rfl
theorem Wi.ok' {lo hi st : Int} {i : Nat} {kept : List Pt} {m : Hl} {v : Int} (h : Wi lo hi st i kept m v) {x : Pt} (hx : x.1 ≤ x.2) : Okw (kept ++ [x]) := fun y hy => by
  rcases List.mem_append.1 hy with q | q
  · exact h.ok y q
  · rw [List.mem_singleton.1 q]; exact hx
theorem Wi.skip {lo hi st : Int} {i : Nat} {kept : List Pt} {m : Hl} {v : Int} (h : Wi lo hi st i kept m v) : Wi lo hi st (i + 1) kept m v :=
  ⟨h.mp, fun q hq => by have := h.lt q hq; omega, h.vv, h.ok, by have := h.len; omega⟩
theorem Wi.go {lo hi st : Int} {i : Nat} {kept : List Pt} {m : Hl} {v : Int} (h : Wi lo hi st i kept m v) {x : Pt} (hx : x.1 ≤ x.2) (he : (meet lo hi st (kept ++ [x])).2 = 0) : Wi lo hi st (i + 1) (kept ++ [x]) (m ++ [((i : Int), x)]) (meet lo hi st (kept ++ [x])).1 :=
  ⟨by rw [List.map_append, h.mp]; rfl, fun q hq => by
    rcases List.mem_append.1 hq with r | r
    · have := h.lt q r; omega
    · rw [List.mem_singleton.1 r]; show (i : Int) < _; omega,
  by rw [h.more]; exact Prod.ext rfl he, h.ok' hx, by rw [List.length_append]; have := h.len; simp; omega⟩
theorem Wi.ask {lo hi st : Int} {i : Nat} {kept : List Pt} {m : Hl} {v : Int} (h : Wi lo hi st i kept m v) (hi40 : i < 40) {x : Pt} (hx : x.1 ≤ x.2) (t : Int) :
    askd lo hi st m v t i x = if (meet lo hi st (kept ++ [x])).2 = 0 then ⟨0, m ++ [((i : Int), x)], (meet lo hi st (kept ++ [x])).1, turn v (meet lo hi st (kept ++ [x])).1 t⟩ else ⟨(meet lo hi st (kept ++ [x])).2, m, v, t⟩ := by
  unfold askd
  rw [if_neg (by omega), ins_end _ _ h.lt]
  unfold layd
  rw [h.more]
theorem Wi.drop {lo hi st : Int} {i : Nat} {kept : List Pt} {m : Hl} {v : Int} (h : Wi lo hi st i kept m v) (x : Pt) (v1 t1 : Int) :
    dropd lo hi st (m ++ [((i : Int), x)]) v1 t1 i = ⟨0, m, v, turn v1 v t1⟩ := by
  unfold dropd
  rw [if_pos (by rw [List.any_append]; simp), del_end _ _ h.lt]
  unfold layd
  rw [h.vv]
  rfl
theorem Wi.mono {lo hi st : Int} {i : Nat} {kept : List Pt} {m : Hl} {v : Int} (h : Wi lo hi st i kept m v) (hi40 : i < 40) (hn : rn lo hi st ≠ 0) (hlo : 0 ≤ lo) (hs : 0 ≤ st) {x : Pt} (hx : x.1 ≤ x.2) (he : (meet lo hi st (kept ++ [x])).2 = 0) : v ≤ (meet lo hi st (kept ++ [x])).1 := by
  have hl := h.len
  have hv := h.vv
  unfold setr at hv
  split at hv
  · have e : v = 0 := (Prod.mk.inj hv).1.symm
    rw [e]
    exact meet_pos hn (by rw [List.length_append]; simp; omega) (h.ok' hx) hlo hs he
  · rw [h.mp] at hv
    have := (meet_mono hn (by omega) (h.ok' hx) hs he).2
    rw [hv] at this
    exact this
theorem Wi.end_ {lo hi st : Int} {i : Nat} {kept : List Pt} {m : Hl} {v : Int} (h : Wi lo hi st i kept m v) (hk : kept ≠ []) : (meet lo hi st kept).1 = v := by
  have hv := h.vv
  unfold setr at hv
  rw [if_neg (fun e => hk (by rw [← h.mp, e]; rfl)), h.mp] at hv
  rw [hv]
theorem Wi.hl {lo hi st : Int} {i : Nat} {kept : List Pt} {m : Hl} {v : Int} (h : Wi lo hi st i kept m v) : m.length = kept.length := by rw [← h.mp, List.length_map]
end Go.Proofs.Ytbbjnhajmckjoaa
