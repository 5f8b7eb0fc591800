/- Idle: the same events; how all devices stand; walked. -/
import Derived.Test.YtgnhddnhcfmipaaRb
namespace Go.Proofs.Ytgnhddnhcfmipaa
open Go.RowKit Go.BigFrame

def Evs (w : World) (A : Option Addr) (l : List Ev) : Prop := Sl (fun _ => True) w A 3 (l.map erow)
theorem Evs.at_ {w : World} {A : Option Addr} {l : List Ev} (h : Evs w A l) {k : Nat} (hk : k < l.length) :
    ∃ b o, A = some ⟨b, o, none⟩ ∧ b < w.heap.size ∧ w.cell? ⟨b, o + k * 3, none⟩ = some (.int .i64 l[k].t) ∧ w.cell? ⟨b, o + k * 3 + 1, none⟩ = some (.int .i64 l[k].d) ∧ w.cell? ⟨b, o + k * 3 + 2, none⟩ = some (.bool l[k].a) := by
  obtain ⟨b, o, e, _, hl, hc⟩ := Sl.at_ h (k := k) (by simpa using hk)
  exact ⟨b, o, e, hl, hc 0 _ (by simp [erow]), hc 1 _ (by simp [erow]), hc 2 _ (by simp [erow])⟩
theorem Evs.le {w : World} {A : Option Addr} {l : List Ev} (h : Evs w A l) : l.length ≤ 9223372036854775807 := by
  have := Sl.le h; simpa using this
theorem own_evs {w : World} {B T : Nat} {l : List Ev} {v : Value} (h : Own w B T 3 (l.map erow) v) : ∃ A c, v = .slice A l.length c ∧ Evs w A l := by
  obtain ⟨A, c, e, hs⟩ := h.sl
  rw [List.length_map] at e
  exact ⟨A, c, e, hs.mono fun _ _ => trivial⟩
set_option maxHeartbeats 4000000 in
set_option maxRecDepth 100000 in
theorem events_same (l : List Ev) (A1 A2 : Option Addr) (c1 c2 : Nat) (W : World) (h1 : Evs W A1 l) (h2 : Evs W A2 l) :
    Calls Try.prog 33 #[.slice A1 l.length c1, .slice A2 l.length c2] W fun e w' => e = .returned (.bool true) ∧ Drawn W w' := by
  have hl := h1.le
  generalize hn : l.length = n at *
  replace hn := Lib.hid hn
  have hq : ((n : Int) != n) = false := by simp
  have hd1 := Lib.hid (fun (k : Nat) (hk : k < l.length) (W' : World) (hd : Drawn W W') => Evs.at_ (Sl.drawn h1 hd) hk)
  have hd2 := Lib.hid (fun (k : Nat) (hk : k < l.length) (W' : World) (hd : Drawn W W') => Evs.at_ (Sl.drawn h2 hd) hk)
  clear h1 h2
  go_enter Try.func33, Try.ntmps33
  go_upto_region 4 with fail
  go_loopw [5] (fun s5 wr => ∃ k : Nat, k ≤ n ∧ s5 = .int .i64 k ∧ Drawn W wr) (fun s5 _ => n - (intOf s5).toNat)
  case atStart => exact ⟨0, by omega, rfl, Drawn.refl _⟩
  case round =>
    obtain ⟨k, hk, rfl, hd⟩ := hrel
    obtain ⟨wi, rfl⟩ : ∃ x : World, x = wr := ⟨_, rfl⟩
    by_cases hkn : k = n
    · subst hkn
      go_wp2
      go_ret
      exact ⟨rfl, hd⟩
    · have hlt : k < n := by omega
      have hkl : k < l.length := by rw [hn.out]; exact hlt
      obtain ⟨b1, o1, rfl, _, x0, x1, x2⟩ := hd1.out k hkl wi hd
      obtain ⟨b2, o2, rfl, _, y0, y1, y2⟩ := hd2.out k hkl wi hd
      generalize l[k] = x at *
      clear hkn
      go_wp2
      go_big_quiet (fail)
      go_wp2
      go_roundw
      case rel => exact ⟨k + 1, by omega, by go_num, hd.drewN _⟩
      case measure => simp [intOf]; omega
set_option maxHeartbeats 4000000 in
set_option maxRecDepth 100000 in
theorem stands_any {W : World} {B bb H B2 rb : Nat} {v v2 vo : Value} {ds : List Dv} {now now2 : Int} {ev : List Ev} (hB : Bp W B bb v ds now) (hR : Rk W H B2 rb v2 vo ds now2 ev) (h5 : ds.length ≤ 512) :
    Calls Try.prog 35 #[.pointer (some ⟨bb, 0, none⟩), .pointer (some ⟨rb, 0, none⟩)] W fun e w' => e = .returned (.bool true) ∧ Drawn W w' := by
  obtain ⟨A, c, rfl, hl⟩ := hR.form
  have hBd := Lib.hid (fun (W' : World) (hd : Drawn W W') => hB.drawn hd)
  have hRd := Lib.hid (fun (W' : World) (hd : Drawn W W') => hR.drawn hd)
  clear hB hR
  generalize hn : ds.length = n at *
  replace hn := Lib.hid hn
  go_enter Try.func35, Try.ntmps35
  go_upto_region 2 with fail
  go_loopw [5] (fun s5 wr => ∃ i : Int, -1 ≤ i ∧ i ≤ n + 1 ∧ s5 = .int .i64 i ∧ Drawn W wr) (fun s5 _ => ((n : Int) + 1 - intOf s5).toNat)
  case atStart => exact ⟨-1, by omega, by omega, rfl, Drawn.refl _⟩
  case round =>
    obtain ⟨i, hi1, hi2, rfl, hd⟩ := hrel
    obtain ⟨wi, rfl⟩ : ∃ x : World, x = wr := ⟨_, rfl⟩
    have hR := hRd.out _ hd
    have hB := hBd.out _ hd
    have z0 := hR.c0
    by_cases hout : (n : Int) < i
    · clear hR hB
      go_wp2
      go_ret
      exact ⟨rfl, hd⟩
    have K1 := usesb_any hB i
    have K2 := fun W' hd => ruses_any (hRd.out W' hd) i
    have K3 := fun W' hd => awakeb_any (hBd.out W' hd) i
    by_cases hi : inb ds i
    · obtain ⟨k, rfl⟩ : ∃ n : Nat, i = (n : Int) := ⟨i.toNat, by have := hi.1; omega⟩
      have hkl := inb_nat.1 hi
      have hkn : k < n := by rw [← hn.out]; exact hkl
      have hx : ds[k]? = some ds[k] := List.getElem?_eq_getElem hkl
      obtain ⟨g, c', e, _, _, _, _, _, _, e4, _, _⟩ := own_dv hR.own hx
      obtain rfl := (Value.slice.inj e).1
      have haw : awakeAt ds (k : Int) = ds[k].a := by unfold awakeAt; rw [if_pos hi, getD_at hkl]
      rw [haw] at K3
      generalize ds[k] = x at *
      generalize usesAt ds (k : Int) = U at *
      clear hR hB hi haw e hx
      go_wp2_with (first
        | (go_at_call 38; (with_reducible refine (K1).mono ?_); rintro e w1 ⟨rfl, hd1⟩; replace hd1 := hd.trans hd1)
        | (go_at_call 52; (with_reducible refine (K2 _ hd1).mono ?_); rintro e w2 ⟨rfl, hd2⟩; replace hd2 := hd1.trans hd2)
        | (go_at_call 37; (with_reducible refine (K3 _ hd2).mono ?_); rintro e w3 ⟨rfl, rfl⟩))
      go_roundw
      case rel => exact ⟨(k : Int) + 1, by omega, by omega, by go_num, hd2⟩
      case measure => simp [intOf]; omega
    · have haw : awakeAt ds i = false := by unfold awakeAt; rw [if_neg hi]
      rw [haw] at K3
      have hor : i = -1 ∨ i = (n : Int) := by
        unfold inb at hi
        rw [hn.out] at hi
        omega
      generalize usesAt ds i = U at *
      clear hR hB hi haw
      rcases hor with rfl | rfl
      all_goals (
        go_wp2_with (first
          | (go_at_call 38; (with_reducible refine (K1).mono ?_); rintro e w1 ⟨rfl, hd1⟩; replace hd1 := hd.trans hd1)
          | (go_at_call 52; (with_reducible refine (K2 _ hd1).mono ?_); rintro e w2 ⟨rfl, hd2⟩; replace hd2 := hd1.trans hd2)
          | (go_at_call 37; (with_reducible refine (K3 _ hd2).mono ?_); rintro e w3 ⟨rfl, rfl⟩))
        go_roundw
        case rel => first | exact ⟨0, by omega, by omega, by go_num, hd2⟩ | exact ⟨(n : Int) + 1, by omega, by omega, by go_num, hd2⟩
        case measure => simp [intOf]; try omega)
end Go.Proofs.Ytgnhddnhcfmipaa
