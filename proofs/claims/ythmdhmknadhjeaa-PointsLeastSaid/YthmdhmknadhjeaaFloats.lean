/- Points: PointsFloats, walked. -/
import Derived.Test.YthmdhmknadhjeaaRnxt
import Derived.Test.YthmdhmknadhjeaaWorks
namespace Go.Proofs.Ythmdhmknadhjeaa
open Go.RowKit Go.BigFrame flt Ieee

theorem Own.room {w : World} {B : Nat} {e : TypeId} {l : List Pt} {A : Option Addr} {c : Nat} (h : Own w B e 2 (l.map prow) (.slice A l.length c)) : l.length ≤ c := by
  rcases Nat.eq_zero_or_pos l.length with q | q
  · omega
  · obtain ⟨g, cap, e1, _, _, hc⟩ := h.form (by simpa using q)
    simp only [Value.slice.injEq] at e1
    obtain ⟨_, _, rfl⟩ := e1
    simpa using hc
theorem Own.row0 {w : World} {base : Nat} {e : TypeId} {rs : List (List Value)} {A : Option Addr} {n c : Nat} (h : Own w base e 2 rs (.slice A n c)) (hn : rs.length = n) {k : Nat} (hk : k < n) :
    ∃ g u0 u1, A = some ⟨g, 0, none⟩ ∧ base ≤ g ∧ w.cell? ⟨g, k * 2, none⟩ = some u0 ∧ w.cell? ⟨g, k * 2 + 1, none⟩ = some u1 ∧ w.frozen? ⟨g, k * 2, none⟩ = false ∧ rs[k]? = some [u0, u1] ∧
      ∀ x, Own (w.setCell ⟨g, k * 2, none⟩ x) base e 2 (rs.set k [x, u1]) (.slice A n c) := by
  obtain ⟨g, u0, u1, rfl, h1, _, c0, c1, f0, _, hr, _, _⟩ := h.row2 hn hk
  refine ⟨g, u0, u1, rfl, h1, c0, c1, f0, hr, fun x => ?_⟩
  subst hn
  have h2 := h.set hk (f := 0) (by decide) x
  rw [List.getElem?_eq_getElem hk] at hr
  rw [Option.some.inj hr] at h2
  exact h2
set_option maxHeartbeats 4000000 in
set_option maxRecDepth 100000 in
theorem floats_walk (l : List Pt) (A : Option Addr) (c : Nat) (a : Int) (wk tm fa lk up dn : Nat) (w : World) (h : Pts w A l) (hr : l.length * 16 ≤ 140737488351232) :
    Calls Try.prog 10 #[.slice A l.length c, .int .i64 a, .float .f64 wk, .float .f64 tm, .float .f64 fa, .float .f64 lk, .float .f64 up, .float .f64 dn] w fun e w' => e = .returned (.bool true) ∧ Below w.heap.size w w' := by
  have hlen := h.le
  go_enter Try.func10, Try.ntmps10
  go_wp2_with fail
  refine (given_any l A c _ h hr).mono ?_
  rintro e w1 ⟨vin, rfl, hin, hb1⟩
  obtain ⟨Ai, ci, rfl, hpi⟩ := hin.pts
  have hroom := hin.room
  have hp1 := h.below hb1
  have B1 := best_any l Ai ci wk tm fa lk w1 hpi
  have B2 := Lib.hid (fun w2 (hb : Below w1.heap.size w1 w2) => rbest_any l A c wk tm fa lk w2 (hp1.below hb))
  have B3 := Lib.hid (fun w2 (hb : Below w1.heap.size w1 w2) => next_any l Ai ci a wk up dn w2 (hpi.below hb) hroom)
  have B4 := Lib.hid (fun w2 (hb : Below w1.heap.size w1 w2) => rnext_any l A c a wk up dn w2 (hp1.below hb))
  have B5 := Lib.hid (fun w2 (hb : Below w1.heap.size w1 w2) => samePoints_any l l Ai A ci c w2 (hpi.below hb) (hp1.below hb))
  generalize bestR l (cls wk) (cls tm) (cls fa) (cls lk) = R1 at *
  generalize nextR l a (cls wk) (cls up) (cls dn) = R2 at *
  go_wp2_with (first
    | (go_at_call 34; (with_reducible refine B1.mono ?_); rintro e w2 ⟨rfl, hb2⟩; have C2 := B2.out w2 hb2)
    | (go_at_call 35; (with_reducible refine C2.mono ?_); rintro e w3 ⟨rfl, hb⟩; have hb3 := hb2.trans (hb.mono hb2.size); have C3 := B3.out w3 hb3)
    | (go_at_call 30; (with_reducible refine C3.mono ?_); rintro e w4 ⟨rfl, hb⟩; have hb4 := hb3.trans (hb.mono hb3.size); have C4 := B4.out w4 hb4)
    | (go_at_call 36; (with_reducible refine C4.mono ?_); rintro e w5 ⟨rfl, hb⟩; have hb5 := hb4.trans (hb.mono hb4.size); have C5 := B5.out w5 hb5; rw [show decide True = true from rfl] at C5)
    | (go_at_call 16; (with_reducible refine C5.mono ?_); rintro e w6 ⟨rfl, hd6⟩))
  have hb6 := hd6.after hb5
  have hin6 : Own w6 w.heap.size 36 2 (l.map prow) (.slice Ai l.length ci) := hin.below hb6
  have hg6 : Below w.heap.size w w6 := hb1.trans (hb6.mono hb1.size)
  clear B1 B2 B3 B4 B5 C2 C3 C4 C5 hpi hp1 hin hb1 hb2 hb hb3 hb4 hb5 hd6 hb6
  go_loopw [26] (fun v wr => ∃ k : Nat, k ≤ l.length ∧ v = .int .i64 k ∧ Own wr w.heap.size 36 2 (l.map prow) (.slice Ai l.length ci) ∧ Below w.heap.size w wr) (fun v _ => l.length - (intOf v).toNat)
  case atStart => exact ⟨0, by omega, rfl, hin6, hg6⟩
  case round =>
    clear hin6 hg6
    obtain ⟨k, hk, rfl, hO, hg⟩ := hrel
    by_cases hkl : k = l.length
    · subst hkl
      obtain ⟨wo, rfl⟩ : ∃ wo : World, wo = wr := ⟨_, rfl⟩
      go_wp2
      go_loopw [29] (fun v wr => ∃ (k : Nat) (ys : List Pt), k ≤ l.length ∧ v = .int .i64 k ∧ ys.length = l.length ∧ Own wr w.heap.size 36 2 (ys.map prow) (.slice Ai l.length ci) ∧ Below w.heap.size w wr) (fun v _ => l.length - (intOf v).toNat)
      case atStart => exact ⟨0, l, by omega, rfl, rfl, hO, hg⟩
      case round =>
        clear hO hg h hk
        obtain ⟨k, ys, hk, rfl, hys, hO, hg⟩ := hrel
        by_cases hkl : k = l.length
        · subst hkl
          obtain ⟨A1, c1, e1, hp⟩ := hO.pts
          simp only [Value.slice.injEq] at e1
          obtain ⟨rfl, e2, rfl⟩ := e1
          clear e2
          have C1 := best_any ys Ai ci wk tm fa lk wr hp
          have C2 := Lib.hid (fun w2 (hb : Below wr.heap.size wr w2) => told_any ys Ai ci w2 (hp.below hb) (by rw [hys]; exact hr))
          have C3 := Lib.hid (fun B d w2 hq => rbest_any ys B d wk tm fa lk w2 hq)
          rw [hys] at C1
          generalize bestR ys (cls wk) (cls tm) (cls fa) (cls lk) = R3 at *
          go_wp2_with (first
            | (go_at_call 34; (with_reducible refine C1.mono ?_); rintro e v1 ⟨rfl, hb1⟩; have D2 := C2.out v1 hb1; rw [hys] at D2)
            | (go_at_call 17; (with_reducible refine D2.mono ?_); rintro e v2 ⟨vt, rfl, ht, hb2⟩; obtain ⟨Bt, bt, rfl, hpt⟩ := ht.pts; have D3 := C3.out Bt bt v2 hpt; rw [hys] at D3; (try rw [hys]))
            | (go_at_call 35; (with_reducible refine D3.mono ?_); rintro e v3 ⟨rfl, hb3⟩)
            | (go_at_call 22; (with_reducible refine (works_any _).mono ?_); rintro e v4 ⟨rfl, hb4⟩))
          have hs1 := hg.size
          have hs2 := hb1.size
          have hs3 := hb2.size
          have hs4 := hb3.size
          have hfin : Below w.heap.size w v4 := (((hg.trans (hb1.mono hs1)).trans (hb2.mono (by omega))).trans (hb3.mono (by omega))).trans (hb4.mono (by omega))
          go_ret
          exact ⟨rfl, hfin⟩
        have hkl : k < l.length := by omega
        obtain ⟨g, u0, u1, rfl, hg1, c0, c1, f0, hrow, hset⟩ := hO.row0 (by rw [List.length_map]; exact hys) hkl
        rw [List.getElem?_map, List.getElem?_eq_getElem (by omega)] at hrow
        obtain ⟨x, y, hq⟩ : ∃ x y, ys[k] = (x, y) := ⟨_, _, rfl⟩
        rw [hq] at hrow
        simp only [Option.map_some, prow, Option.some.injEq, List.cons.injEq, and_true] at hrow
        obtain ⟨rfl, rfl⟩ := hrow
        clear hq
        go_wp2
        go_roundw
        case rel => exact ⟨k + 1, ys.set k (_, _), by omega, by go_num, by rw [List.length_set]; exact hys, by rw [List.map_set]; exact hset _, hg.setCell hg1 _⟩
        case measure => simp [intOf]; omega
    have hkl : k < l.length := by omega
    obtain ⟨g, u0, u1, rfl, hg1, hg2, c0, c1, f0, f1, hrow, _, _⟩ := hO.row2 (by rw [List.length_map]) hkl
    rw [List.getElem?_map, List.getElem?_eq_getElem hkl] at hrow
    obtain ⟨b, o, rfl, hbl, d0, d1⟩ := Pts.at_ (h.below hg) hkl
    obtain ⟨x, y, hq⟩ : ∃ x y, l[k] = (x, y) := ⟨_, _, rfl⟩
    rw [hq] at hrow d0 d1
    simp only [Option.map_some, prow, Option.some.injEq, List.cons.injEq, and_true] at hrow
    obtain ⟨rfl, rfl⟩ := hrow
    simp only at d0 d1
    clear hq f0 f1
    have PA := pw_any x y fa lk
    have PB := rpw_any x y fa lk
    generalize pw x y (cls fa) (cls lk) = PW at *
    go_wp2_with (first
      | (go_at_call 37; (with_reducible refine (PA _).mono ?_); rintro e v1 ⟨r1, rfl, hr1, hb1⟩; replace hr1 := Lib.hid hr1; have d0' := (hb1.cell (p := ⟨b, o + k * 2, none⟩) hbl).trans d0; have d1' := (hb1.cell (p := ⟨b, o + k * 2 + 1, none⟩) hbl).trans d1)
      | (go_at_call 38; (with_reducible refine (PB _).mono ?_); rintro e v2 ⟨r2, rfl, hr2, hb2⟩; replace hr2 := Lib.hid hr2)
      | (go_at_call 39; (with_reducible refine (sameFloat_any r1 r2 (hr1.out.trans hr2.out.symm) _).mono ?_); rintro e v3 ⟨rfl, hw⟩; subst hw))
    have hb12 := hb1.trans (hb2.mono hb1.size)
    go_roundw
    case rel => exact ⟨k + 1, by omega, by go_num, hO.below hb12, hg.trans (hb12.mono hg.size)⟩
    case measure => simp [intOf]; omega
end Go.Proofs.Ythmdhmknadhjeaa
