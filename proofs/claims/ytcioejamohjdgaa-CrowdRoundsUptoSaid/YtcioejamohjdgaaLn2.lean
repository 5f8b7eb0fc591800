/- Crowd: what is lent, read. -/
import Derived.Test.YtcioejamohjdgaaLn1
namespace Go.Proofs.Ytcioejamohjdgaa
open Go.RowKit Go.BigFrame

theorem Lj.row {w : World} {B gx cx : Nat} {rs : List (List Int × Nat)} {zs : List Value} {m k : Nat} (h : Lj w B rs (.slice (some ⟨gx, 0, none⟩) m cx) zs) (hm : rs.length = m) {p : List Int × Nat} (hk : rs[k]? = some p) :
    ∃ g c, w.cell? ⟨gx, k, none⟩ = some (.slice (some ⟨g, 0, none⟩) p.2 c) ∧ p.1.length ≤ c ∧ Own w B 3 1 (p.1.map irow) (.slice (some ⟨g, 0, none⟩) p.1.length c) ∧ gx < w.heap.size := by
  have hkr : k < rs.length := (List.getElem?_eq_some_iff.1 hk).1
  have hkz : k < zs.length := by rw [h.l]; exact hkr
  obtain ⟨g, c, e, ho, -⟩ := h.r k _ p (List.getElem?_eq_getElem hkz) hk
  have hc := (h.o.cell1 (row := fun x => [x]) (val := fun x => x) (fun _ => rfl) (by rw [h.l]; exact hm) hkz).1
  rw [e] at hc
  refine ⟨g, c, hc, ?_, ho, (h.o.lt gx rfl).2⟩
  rcases Nat.eq_zero_or_pos p.1.length with q | q
  · omega
  · obtain ⟨g', c', e', -, -, hcc⟩ := ho.form (by rw [List.length_map]; exact q)
    have := (Value.slice.inj e').2.2
    rw [List.length_map] at hcc
    omega
theorem lnt_get {nd : List (List Int)} {t : List (List Int × Nat)} {k : Nat} (hk : k < nd.length) : (lnt nd ++ t)[k]? = some (nd[k] ++ [987], nd[k].length) := by
  unfold lnt
  rw [List.getElem?_append_left (by rw [List.length_map]; exact hk), List.getElem?_map, List.getElem?_eq_getElem hk]
  rfl
theorem lnt_end (nd : List (List Int)) (p : List Int × Nat) : (lnt nd ++ [p])[nd.length]? = some p := by
  unfold lnt
  rw [List.getElem?_append_right (by rw [List.length_map]; exact Nat.le_refl _), List.length_map, Nat.sub_self]
  rfl
theorem lnt_length (nd : List (List Int)) (p : List Int × Nat) : (lnt nd ++ [p]).length = nd.length + 1 := by
  unfold lnt
  rw [List.length_append, List.length_map]
  rfl
theorem Lj.nds {w : World} {B gx cx n : Nat} {nd : List (List Int)} {zs : List Value} {p : List Int × Nat} (h : Lj w B (lnt nd ++ [p]) (.slice (some ⟨gx, 0, none⟩) (n + 1) cx) zs) (hn : nd.length = n) (hnb : n ≤ 1048576) : Nds w (some ⟨gx, 0, none⟩) nd := by
  refine ⟨by omega, fun k hk => ?_⟩
  obtain ⟨g, c, hc, -, ho, hl⟩ := h.row (by rw [lnt_length, hn]) (lnt_get hk)
  refine ⟨gx, 0, some ⟨g, 0, none⟩, c, rfl, hl, by rw [Nat.zero_add]; exact hc, ?_, fun e => by cases e⟩
  obtain ⟨A', c', e, hs⟩ := ho.sl
  have e1 : some (⟨g, 0, none⟩ : Addr) = A' := (Value.slice.inj e).1
  rw [← e1] at hs
  have h2 := (Sl.mono hs (S' := fun _ => True) (fun _ _ => trivial)).take nd[k].length
  rw [← List.map_take, List.take_left] at h2
  exact h2
theorem Lj.at_ {w : World} {B gx cx n : Nat} {nd : List (List Int)} {zs : List Value} {p : List Int × Nat} (h : Lj w B (lnt nd ++ [p]) (.slice (some ⟨gx, 0, none⟩) (n + 1) cx) zs) (hn : nd.length = n) {k : Nat} (hk : k < nd.length) :
    ∃ g c, w.cell? ⟨gx, k, none⟩ = some (.slice (some ⟨g, 0, none⟩) nd[k].length c) ∧ nd[k].length + 1 ≤ c ∧ w.cell? ⟨g, nd[k].length, none⟩ = some (.int .i64 987) := by
  obtain ⟨g, c, hc, hcc, ho, -⟩ := h.row (by rw [lnt_length, hn]) (lnt_get hk)
  have h9 := (ho.cell1 (val := fun x => .int .i64 x) (fun _ => rfl) rfl (k := nd[k].length) (by simp)).1
  rw [List.getElem_append_right (Nat.le_refl _)] at h9
  refine ⟨g, c, hc, by simpa using hcc, ?_⟩
  simpa using h9
theorem Lj.end_ {w : World} {B gx cx n : Nat} {nd : List (List Int)} {zs : List Value} (h : Lj w B (lnt nd ++ [([986], 1)]) (.slice (some ⟨gx, 0, none⟩) (n + 1) cx) zs) (hn : nd.length = n) :
    ∃ g c, w.cell? ⟨gx, n, none⟩ = some (.slice (some ⟨g, 0, none⟩) 1 c) ∧ w.cell? ⟨g, 0, none⟩ = some (.int .i64 986) := by
  obtain ⟨g, c, hc, -, ho, -⟩ := h.row (by rw [lnt_length, hn]) (k := n) (by rw [← hn]; exact lnt_end nd _)
  exact ⟨g, c, hc, (ho.cell1 (val := fun x => .int .i64 x) (fun _ => rfl) rfl (k := 0) (by simp)).1⟩
set_option maxHeartbeats 4000000 in
set_option maxRecDepth 100000 in
/-- what was lent came back as it was -/
theorem kept_any (nd : List (List Int)) (A : Option Addr) (c n B gx cx : Nat) (zs : List Value) (w : World) (h : Nds w A nd) (hn : nd.length = n) (hnb : n ≤ 1048576) (hlb : ∀ l ∈ nd, l.length ≤ 1048576)
    (hL : Lj w B (lnt nd ++ [([986], 1)]) (.slice (some ⟨gx, 0, none⟩) (n + 1) cx) zs) (hcx : n + 1 ≤ cx) :
    Calls Try.prog 15 #[.slice (some ⟨gx, 0, none⟩) n cx, .slice A n c] w fun e w' => e = .returned (.bool true) ∧ Drawn w w' := by
  have K := lists_same nd (some ⟨gx, 0, none⟩) A cx c n w (hL.nds hn hnb) h hn
  obtain ⟨ge, ce, y0, y1⟩ := hL.end_ hn
  have hat := Lib.hid fun (k : Nat) (hk : k < nd.length) (X : World) (q : Drawn w X) => (hL.below (q.below _)).at_ hn hk
  have hnd := Lib.hid fun (k : Nat) (hk : k < nd.length) (X : World) (q : Drawn w X) => (h.drawn q).2 k hk
  have hcx' : (n : Int) + 1 ≤ (cx : Int) := by omega
  have hw1 : IntKind.i64.wrap ((n : Int) + 1) = (n : Int) + 1 := by unfold IntKind.wrap; simp [IntKind.signed, IntKind.bits]; omega
  replace hn := Lib.hid hn
  clear h hL
  go_enter Try.func15, Try.ntmps15
  go_upto_region 4 with (go_at_call 13; (with_reducible refine K.mono ?_); rintro e w1 ⟨rfl, hd1⟩)
  go_upto_region 5 with fail
  go_loopw [6] (fun s6 wr => ∃ k : Nat, k ≤ n ∧ s6 = .int .i64 k ∧ Drawn w wr) (fun s6 _ => n - (intOf s6).toNat)
  case atStart => exact ⟨0, by omega, rfl, hd1⟩
  case round =>
    clear hd1
    obtain ⟨k, hk, rfl, hd⟩ := hrel
    obtain ⟨wk, rfl⟩ : ∃ x : World, x = wr := ⟨_, rfl⟩
    by_cases hkn : k = n
    · clear hat hnd K
      go_wp2
      go_ret
      exact ⟨rfl, hd⟩
    · have hlt : k < n := by omega
      have hkl : k < nd.length := by rw [hn.out]; exact hlt
      obtain ⟨b2, o2, A2, d2, rfl, -, c2, -, -⟩ := hnd.out k hkl wk hd
      obtain ⟨g, c1, x0, hcc, x1⟩ := hat.out k hkl wk hd
      have hlk := hlb _ (List.getElem_mem hkl)
      generalize nd[k].length = l at *
      have hcc' : (l : Int) + 1 ≤ (c1 : Int) := by omega
      have hw2 : IntKind.i64.wrap ((l : Int) + 1) = (l : Int) + 1 := by unfold IntKind.wrap; simp [IntKind.signed, IntKind.bits]; omega
      have hd' := Lib.hid hd
      clear hat hnd hd K y0 y1
      go_wp2
      go_roundw
      case rel => exact ⟨k + 1, by omega, by go_num, hd'.out⟩
      case measure => first | (simp [intOf]; done) | (simp [intOf]; omega)
end Go.Proofs.Ytcioejamohjdgaa
