/- Rails: the least rung in all windows, the plain answer; the reference's and the program's Meet, walked. -/
import Derived.Test.YtbbjnhajmckjoaaLadd
namespace Go.Proofs.Ytbbjnhajmckjoaa
open Go.RowKit Go.BigFrame

def fits (ws : List Pt) (v : Int) : Bool := ws.all fun w => decide (w.1 ≤ v ∧ v ≤ w.2)
def wbad (ws : List Pt) : Bool := ws.any fun w => decide (w.2 < w.1)
def mgo (lo st : Int) (n : Nat) (ws : List Pt) : Option Nat := (List.range n).find? fun k => fits ws (lo + (k : Int) * st)
def meet (lo hi st : Int) (ws : List Pt) : Int × Int :=
  if rn lo hi st = 0 then (0, 190) else if 4096 < ws.length then (0, 1) else if wbad ws then (0, 1) else
  match mgo lo st (rn lo hi st) ws with
  | some k => (lo + (k : Int) * st, 0)
  | none => (0, 191)
theorem meet_no {lo hi st : Int} {ws : List Pt} (h : rn lo hi st = 0) : meet lo hi st ws = (0, 190) := by unfold meet; rw [if_pos h]
theorem meet_long {lo hi st : Int} {ws : List Pt} (h : rn lo hi st ≠ 0) (hl : 4096 < ws.length) : meet lo hi st ws = (0, 1) := by unfold meet; rw [if_neg h, if_pos hl]
theorem meet_bad {lo hi st : Int} {ws : List Pt} (h : rn lo hi st ≠ 0) (hl : ¬ 4096 < ws.length) {i : Nat} (hk : i < ws.length) (hb : ws[i].2 < ws[i].1) : meet lo hi st ws = (0, 1) := by
  have : wbad ws = true := List.any_eq_true.2 ⟨ws[i], List.getElem_mem hk, by simpa using hb⟩
  unfold meet; rw [if_neg h, if_neg hl, if_pos this]
theorem meet_go {lo hi st : Int} {ws : List Pt} (h : rn lo hi st ≠ 0) (hl : ¬ 4096 < ws.length) (hb : ∀ i (hk : i < ws.length), ws[i].1 ≤ ws[i].2) : meet lo hi st ws = match mgo lo st (rn lo hi st) ws with
  | some k => (lo + (k : Int) * st, 0)
  | none => (0, 191) := by
  have : ¬ wbad ws = true := fun hh => by
    obtain ⟨w, hw, hd⟩ := List.any_eq_true.1 hh
    obtain ⟨i, hi, rfl⟩ := List.getElem_of_mem hw
    have := hb i hi; simp only [decide_eq_true_eq] at hd; omega
  unfold meet; rw [if_neg h, if_neg hl, if_neg this]
theorem mgo_hit {lo st : Int} {n k : Nat} {ws : List Pt} (hk : k < n) (h : fits ws (lo + (k : Int) * st) = true) (hj : ∀ j, j < k → fits ws (lo + (j : Int) * st) = false) : mgo lo st n ws = some k := by
  unfold mgo
  rw [List.find?_range_eq_some]
  exact ⟨h, List.mem_range.2 hk, fun j hjk => by rw [hj j hjk]; rfl⟩
theorem mgo_none {lo st : Int} {n : Nat} {ws : List Pt} (hj : ∀ j, j < n → fits ws (lo + (j : Int) * st) = false) : mgo lo st n ws = none := by
  unfold mgo
  rw [List.find?_eq_none]
  intro j hm
  rw [hj j (List.mem_range.1 hm)]
  simp
theorem fits_take (ws : List Pt) (v : Int) {k : Nat} (hk : k < ws.length) : fits (ws.take (k + 1)) v = (fits (ws.take k) v && decide (ws[k].1 ≤ v ∧ v ≤ ws[k].2)) := by
  unfold fits
  rw [List.take_succ_eq_append_getElem hk, List.all_append]
  simp

set_option maxHeartbeats 4000000 in
set_option maxRecDepth 100000 in
theorem rmeet_any (lo hi st : Int) (ws : List Pt) (A : Option Addr) (c : Nat) (w : World) (h : Pts w A ws) :
    Calls Try.prog 22 #[.agg #[.int .i64 lo, .int .i64 hi, .int .i64 st], .slice A ws.length c] w fun e w' => e = .returned (.tuple #[.int .i64 (meet lo hi st ws).1, .int .i64 (meet lo hi st ws).2]) ∧ Below w.heap.size w w' := by
  have K := fun W => rrungs_any lo hi st W
  have hl9 := rn_le lo hi st
  have hlen := h.le
  by_cases hN : rn lo hi st = 0
  · have e0 := Lib.hid (meet_no (ws := ws) hN)
    rw [hN] at K
    go_enter Try.func22, Try.ntmps22
    go_wp2_with (go_at_call 50; (with_reducible refine (K _).mono ?_); rintro e w1 ⟨v, rfl, ho, hb⟩; obtain ⟨A, c, rfl, hi, _⟩ := ho.ints; rw [ladd_len])
    go_ret2
    exact ⟨ret_ii e0.out, (below_al (Below.refl _ _) _).trans (hb.mono (by rw [size_al]; omega))⟩
  by_cases hL : 4096 < ws.length
  · have e0 := Lib.hid (meet_long hN hL)
    generalize rn lo hi st = N at *
    go_enter Try.func22, Try.ntmps22
    go_wp2_with (go_at_call 50; (with_reducible refine (K _).mono ?_); rintro e w1 ⟨v, rfl, ho, hb⟩; obtain ⟨A, c, rfl, hi, _⟩ := ho.ints; rw [ladd_len])
    go_ret2
    exact ⟨ret_ii e0.out, (below_al (Below.refl _ _) _).trans (hb.mono (by rw [size_al]; omega))⟩
  have hbad := Lib.hid (fun i => meet_bad (i := i) hN hL)
  have hgo := Lib.hid (meet_go hN hL)
  have hrn := Lib.hid (fun i => rn_at (lo := lo) (hi := hi) (st := st) (i := i))
  generalize meet lo hi st ws = M at *
  generalize rn lo hi st = N at *
  have hN1 : ((N : Int) == 0) = false := by simpa using (by omega : (N : Int) ≠ 0)
  replace hN := Lib.hid hN
  go_enter Try.func22, Try.ntmps22
  go_wp2_with (go_at_call 50; (with_reducible refine (K _).mono ?_); rintro e w1 ⟨v, rfl, ho, hb⟩; obtain ⟨Al, cl, rfl, hil, _⟩ := ho.ints; rw [ladd_len])
  have hs1 := hb.size
  rw [size_al] at hs1
  have hg1 : Below w.heap.size w w1 := (below_al (Below.refl _ _) _).trans (hb.mono (by rw [size_al]; omega))
  have h1 := h.below hg1
  clear K ho hb h
  go_loopw [7] (fun i wr => ∃ k : Nat, k ≤ ws.length ∧ i = .int .i64 k ∧ (∀ j (hj : j < ws.length), j < k → ws[j].1 ≤ ws[j].2) ∧ Drawn w1 wr) (fun i _ => ws.length - (intOf i).toNat)
  case atStart => exact ⟨0, by omega, rfl, fun j _ hj => absurd hj (by omega), Drawn.refl _⟩
  case round =>
    obtain ⟨k, hk, rfl, hno, hd⟩ := hrel
    replace hno := Lib.hid hno
    have hp := Sl.drawn h1 hd
    by_cases hkl : k = ws.length
    · subst hkl
      have hgo := Lib.hid (hgo.out fun i hi => hno.out i hi hi)
      clear hbad
      go_wp2
      obtain ⟨w2, rfl⟩ : ∃ w2 : World, w2 = wr := ⟨_, rfl⟩
      clear hp
      go_loopw [8] (fun i wr => ∃ k : Nat, k ≤ N ∧ i = .int .i64 k ∧ (∀ j, j < k → fits ws (lo + (j : Int) * st) = false) ∧ Drawn w1 wr) (fun i _ => N - (intOf i).toNat)
      case atStart => exact ⟨0, by omega, rfl, fun j hj => absurd hj (by omega), hd⟩
      case round =>
        clear hd
        obtain ⟨k, hk, rfl, hmiss, hd⟩ := hrel
        replace hmiss := Lib.hid hmiss
        have hp : Pts wr A ws := Sl.drawn h1 hd
        have hq : Ints wr Al (ladd lo st N) := Sl.drawn hil hd
        by_cases hkl : k = N
        · subst hkl
          have e0 := Lib.hid (hgo.out.trans (by rw [mgo_none hmiss.out]))
          go_wp2
          go_ret2
          exact ⟨ret_ii e0.out, hd.after hg1⟩
        have hkl : k < N := by omega
        have hN9 : N ≤ 9223372036854775807 := by omega
        obtain ⟨b2, o2, rfl, _, c3⟩ := hq.at_ (k := k) (by rw [ladd_len]; exact hkl)
        rw [show (ladd lo st N)[k]'(by rw [ladd_len]; exact hkl) = lo + (k : Int) * st by simp [ladd]] at c3
        have hhit : Hid (fits ws (lo + (k : Int) * st) = true → M = (lo + (k : Int) * st, 0)) := Lib.hid (fun hh => hgo.out.trans (by rw [mgo_hit hkl hh hmiss.out]))
        have hmiss2 := Lib.hid (fun (hh : fits ws (lo + (k : Int) * st) = false) j (hj : j < k + 1) => if e : j = k then by subst e; exact hh else hmiss.out j (by omega))
        generalize lo + (k : Int) * st = y at *
        go_wp2
        obtain ⟨w3, rfl⟩ : ∃ w3 : World, w3 = wr := ⟨_, rfl⟩
        go_loopw [9, 10] (fun a i wr => ∃ j : Nat, j ≤ ws.length ∧ i = .int .i64 j ∧ a = .bool (fits (ws.take j) y) ∧ Drawn w3 wr) (fun _ i _ => ws.length - (intOf i).toNat)
        case atStart => exact ⟨0, by omega, rfl, rfl, Drawn.refl _⟩
        case round =>
          obtain ⟨j, hj, rfl, rfl, hd3⟩ := hrel
          have hp3 : Pts wr A ws := Sl.drawn hp hd3
          have c4 := (hd3.cell _).trans c3
          by_cases hjl : j = ws.length
          · subst hjl
            rw [List.take_length] at *
            cases hf : fits ws y with
            | true =>
              have e0 := Lib.hid (hhit.out hf)
              go_wp2
              go_ret2
              exact ⟨ret_ii e0.out, (hd.trans hd3).after hg1⟩
            | false =>
              go_wp2
              go_roundw
              case rel => exact ⟨k + 1, by omega, by go_num, hmiss2.out hf, hd.trans hd3⟩
              case measure => simp [intOf]; omega
          have hjl : j < ws.length := by omega
          obtain ⟨b, o, rfl, _, c1, c2⟩ := Pts.at_ hp3 hjl
          have hft := Lib.hid (fits_take ws y hjl)
          generalize ws[j].1 = x1 at *
          generalize ws[j].2 = x2 at *
          cases hf : fits (ws.take j) y with
          | false =>
            go_wp2
            go_big_quiet (fail)
            go_wp2
            go_roundw
            case rel => exact ⟨j + 1, by omega, by go_num, by rw [hft.out, hf]; rfl, hd3.drewN _⟩
            case measure => simp [intOf]; omega
          | true =>
            by_cases q1 : x1 ≤ y
            case neg =>
              have e1 := Lib.hid (show fits (ws.take (j + 1)) y = false by rw [hft.out, hf]; simpa using fun h => absurd h q1)
              go_wp2
              have q3 : decide (x1 ≤ y) = false := decide_eq_false (by omega)
              go_big_quiet (fail)
              go_wp2
              go_roundw
              case rel => exact ⟨j + 1, by omega, by go_num, by rw [e1.out], hd3.drewN _⟩
              case measure => simp [intOf]; omega
            by_cases q2 : y ≤ x2
            · have e1 := Lib.hid (show fits (ws.take (j + 1)) y = true by rw [hft.out, hf]; simpa using ⟨q1, q2⟩)
              go_wp2
              have q3 : decide (x1 ≤ y) = true := decide_eq_true (by omega)
              have q4 : decide (y ≤ x2) = true := decide_eq_true (by omega)
              go_big_quiet (fail)
              go_wp2
              go_roundw
              case rel => exact ⟨j + 1, by omega, by go_num, by rw [e1.out], hd3.drewN _⟩
              case measure => simp [intOf]; omega
            · have e1 := Lib.hid (show fits (ws.take (j + 1)) y = false by rw [hft.out, hf]; simpa using fun _ => (by omega : x2 < y))
              go_wp2
              have q3 : decide (x1 ≤ y) = true := decide_eq_true (by omega)
              have q4 : decide (y ≤ x2) = false := decide_eq_false (by omega)
              go_big_quiet (fail)
              go_wp2
              go_roundw
              case rel => exact ⟨j + 1, by omega, by go_num, by rw [e1.out], hd3.drewN _⟩
              case measure => simp [intOf]; omega
    have hkl : k < ws.length := by omega
    obtain ⟨b, o, rfl, _, c1, c2⟩ := Pts.at_ hp hkl
    have hb1 := Lib.hid (hbad.out k hkl)
    have hno2 := Lib.hid (fun (hq : ws[k].1 ≤ ws[k].2) j (hj : j < ws.length) (hj2 : j < k + 1) => if e : j = k then by subst e; exact hq else hno.out j hj (by omega))
    generalize ws[k].1 = x at *
    generalize ws[k].2 = y at *
    by_cases hxy : y < x
    · have e0 := Lib.hid (hb1.out hxy)
      go_wp2
      go_big_quiet (fail)
      go_wp2
      go_ret2
      exact ⟨ret_ii e0.out, below_drewN' (hd.after hg1) _⟩
    go_wp2
    go_big_quiet (fail)
    go_wp2
    go_roundw
    case rel => exact ⟨k + 1, by omega, by go_num, hno2.out (by omega), hd.drewN _⟩
    case measure => simp [intOf]; omega
end Go.Proofs.Ytbbjnhajmckjoaa
