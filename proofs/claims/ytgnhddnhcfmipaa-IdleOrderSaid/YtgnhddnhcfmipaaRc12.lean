/- Idle: Run of the reference. Idle: a race, all in one: what comes of it, at the program's and at the reference's. -/
import Derived.Test.YtgnhddnhcfmipaaRc11
namespace Go.Proofs.Ytgnhddnhcfmipaa
open Go.RowKit Go.BigFrame

open Classical in
/-- what a call has still to take, in the reference's memory -/
noncomputable def leftR (rb g2 g3 g4 k : Nat) (W : World) : Nat :=
  if W.cell? ⟨g4, k, none⟩ = some (.bool true) then 0
  else if W.cell? ⟨g3, k, none⟩ = some (.bool true) then
    (if W.cell? ⟨rb, 2, none⟩ = W.cell? ⟨g2, k * 4, none⟩ ∧ W.cell? ⟨rb, 3, none⟩ = W.cell? ⟨g2, k * 4 + 1, none⟩ ∧ W.cell? ⟨rb, 4, none⟩ = W.cell? ⟨g2, k * 4 + 2, none⟩ ∧ W.cell? ⟨rb, 5, none⟩ = W.cell? ⟨g2, k * 4 + 3, none⟩ then 1 else 3)
  else 2
section
variable {W0 W : World} {B rb : Nat} {D N : Int} {A : Option Addr} {n c g1 g2 g3 g4 : Nat} {s : Rs} {cs : List (Int × Int)}
theorem RU.left (h : RU W0 W B rb D A n c g1 g2 g3 g4 s N) {k : Nat} (hk : k < n) : leftR rb g2 g3 g4 k W = rleft s k := by
  have hl := h.len
  obtain ⟨⟨vo, rd, r⟩, _, _⟩ := h
  have hkl : k < s.l.length := by omega
  have hkr : k < rd.length := by rw [r.rl]; exact hk
  obtain ⟨-, -, c2, c3, c4, c5, -⟩ := r.cells
  have d4 := (r.o4.cells (by simpa using hl) hk (map_at hkl) (f := 0) (u := .bool (s.l.getD k pa0).o) rfl).1
  have d3 := (r.o3.cells (by simpa using hl) hk (map_at hkl) (f := 0) (u := .bool (s.l.getD k pa0).h) rfl).1
  rw [Nat.mul_one, Nat.add_zero] at d4 d3
  have e0 := (r.o2.cells (by simpa using r.rl) hk (vmap_at hkr) (f := 0) (u := .int .i64 (rd.getD k zv).u) rfl).1
  have e1 := (r.o2.cells (by simpa using r.rl) hk (vmap_at hkr) (f := 1) (u := .bool (rd.getD k zv).a) rfl).1
  have e2 := (r.o2.cells (by simpa using r.rl) hk (vmap_at hkr) (f := 2) (u := .int .i64 (rd.getD k zv).s) rfl).1
  have e3 := (r.o2.cells (by simpa using r.rl) hk (vmap_at hkr) (f := 3) (u := .int .i64 (rd.getD k zv).k) rfl).1
  rw [Nat.add_zero] at e0
  have hrh := r.rh k
  unfold leftR rleft
  simp only
  rw [d4, d3, c2, c3, c4, c5, e0, e1, e2, e3]
  cases (s.l.getD k pa0).o
  · cases hh : (s.l.getD k pa0).h
    · simp
    · rw [hrh hh]
      generalize (s.l.getD k pa0).r = v
      obtain ⟨v1, v2, v3, v4⟩ := v
      generalize s.w = u
      obtain ⟨u1, u2, u3, u4⟩ := u
      simp
  · simp
set_option maxHeartbeats 8000000 in
set_option maxRecDepth 100000 in
theorem run_any {Bp : Option Addr} {b ns : Nat} {sch : List Int} (h : RU W0 W B rb D A n c g1 g2 g3 g4 s 0) (hD : 0 ≤ D ∧ D ≤ 2147483647) (hcl : Cls W0 A cs) (hsc : Ints W0 Bp sch) (hBW : B = W0.heap.size) (hn : cs.length = n) (hn5 : n ≤ 1000) (hns : sch.length = ns) (hs : ns ≤ 140737488355328)
    (hcc : ∀ j, ((callAt cs j).1 = 1 ∨ (callAt cs j).1 = 2 ∨ (callAt cs j).1 = 3) ∧ 0 ≤ (callAt cs j).2 ∧ (callAt cs j).2 ≤ 2147483647) :
    Calls Try.prog 23 #[.pointer (some ⟨rb, 0, none⟩), .slice Bp ns b] W fun e w' => e = .returned (.tuple #[]) ∧ RU W0 w' B rb D A n c g1 g2 g3 g4 (rfin D cs n 0 (rsched D cs s sch)) (ns + 3 * n + 3) := by
  have hsd := Lib.hid (fun (k : Nat) (hk : k < sch.length) (W' : World) (hd : Below W0.heap.size W0 W') => (Ints.below hsc hd).at_ hk)
  have KG := fun (X : World) (s' : Rs) (M : Int) (i : Int) (q : RU W0 X B rb D A n c g1 g2 g3 g4 s' M) (hM : M < 9223372036854775806) => step46_go (cs := cs) q hM hD hcl hBW hn hn5 hcc i
  have KS := fun (X : World) (s' : Rs) (M : Int) (k : Nat) (q : RU W0 X B rb D A n c g1 g2 g3 g4 s' M) (hM : M < 9223372036854775806) (hk : k < n) => step46 (cs := cs) q hM hD hcl hBW hn hn5 hcc k hk
  replace KG := Lib.hid KG
  replace KS := Lib.hid KS
  have hBs := Lib.hid hBW
  clear hcl hsc hBW hcc hn hD
  replace hns := Lib.hid hns
  go_enter Try.func23, Try.ntmps23
  go_upto_block 0 with fail
  go_cut [4, 6, 7, 8, 9] from 6 to 17 (fun _ _ _ _ _ wc => RU W0 wc B rb D A n c g1 g2 g3 g4 (rsched D cs s sch) ns)
  case first =>
    go_upto_region 1 with fail
    go_loopw [4] (fun s4 wr => ∃ (q : Nat) (s' : Rs), q ≤ ns ∧ s4 = .int .i64 q ∧ rsched D cs s' (sch.drop q) = rsched D cs s sch ∧ RU W0 wr B rb D A n c g1 g2 g3 g4 s' q) (fun s4 _ => ns - (intOf s4).toNat)
    case atStart => exact ⟨0, s, by omega, rfl, rfl, h⟩
    case round =>
      clear h
      obtain ⟨q, s', hq, rfl, hsc, hU⟩ := hrel
      obtain ⟨wi, rfl⟩ : ∃ x : World, x = wr := ⟨_, rfl⟩
      by_cases hqn : q = ns
      · subst hqn
        rw [List.drop_eq_nil_of_le (by rw [hns.out]; exact Nat.le_refl _)] at hsc
        have hsc' : s' = rsched D cs s sch := hsc
        subst hsc'
        clear hsc
        go_wp2
        go_meet
        case rel => exact hU
      · have hlt : q < ns := by omega
        have hql : q < sch.length := by rw [hns.out]; exact hlt
        have hb : Below W0.heap.size W0 wi := by
          obtain ⟨⟨vo, rd, r⟩, _, _⟩ := hU
          rw [← hBs.out]; exact r.b
        obtain ⟨bs, os, rfl, _, x0⟩ := hsd.out q hql wi hb
        rw [List.drop_eq_getElem_cons hql] at hsc
        have hsc' : rsched D cs (rgo D cs s' sch[q]) (sch.drop (q + 1)) = rsched D cs s sch := hsc
        generalize sch[q] = i at *
        replace hsc' := Lib.hid hsc'
        have K := KG.out wi s' q i hU (by omega)
        clear hsc hqn hU hb
        go_wp2_with (go_at_call 46; (with_reducible refine (K).mono ?_); rintro e w1 ⟨rfl, hU1⟩)
        go_roundw
        case rel => exact ⟨q + 1, _, by omega, by go_num, hsc'.out, hU1⟩
        case measure => simp [intOf]; omega
  clear h hsd KG
  obtain ⟨wi, rfl⟩ : ∃ x : World, x = wc := ⟨_, rfl⟩
  obtain ⟨T, hT⟩ : ∃ T, rfin D cs n 0 (rsched D cs s sch) = T := ⟨_, rfl⟩
  obtain ⟨S1, hS1⟩ : ∃ S1, rsched D cs s sch = S1 := ⟨_, rfl⟩
  rw [hS1] at hcut
  have hT1 : rfin D cs n 0 S1 = T := by rw [← hS1]; exact hT
  replace hT1 := Lib.hid hT1
  replace hT := Lib.hid hT
  clear hS1
  go_upto_region 5 with fail
  go_loopw [5] (fun s5 wr => ∃ (q : Nat) (s' : Rs), q ≤ n ∧ s5 = .int .i64 q ∧ rfin D cs (n - q) q s' = T ∧ RU W0 wr B rb D A n c g1 g2 g3 g4 s' (ns + 3 * q)) (fun s5 _ => n - (intOf s5).toNat)
  case atStart => exact ⟨0, S1, by omega, rfl, hT1.out, hcut.up (by omega)⟩
  case round =>
    clear hcut hT1
    obtain ⟨q, s', hq, rfl, hfi, hU⟩ := hrel
    obtain ⟨wj, rfl⟩ : ∃ x : World, x = wr := ⟨_, rfl⟩
    have c1 := hU.calls
    by_cases hqn : q = n
    · subst hqn
      rw [Nat.sub_self] at hfi
      have hfi' : s' = T := hfi
      subst hfi'
      clear hfi
      go_wp2
      go_end0
      rw [hT.out]
      exact ⟨rfl, hU.up (by omega)⟩
    · have hlt : q < n := by omega
      rw [show n - q = (n - (q + 1)) + 1 by omega] at hfi
      have hfi' : rfin D cs (n - (q + 1)) (q + 1) (rfin1 D cs s' q) = T := hfi
      replace hfi' := Lib.hid hfi'
      clear hfi hqn
      have hqp : Hid (q ≤ n) := Lib.hid hq
      clear hq
      go_upto_block 3 with fail
      go_cut [27, 28, 29, 30, 31, 32, 33, 34] from 27 to 37 (fun _ _ _ _ _ _ _ _ wc => RU W0 wc B rb D A n c g1 g2 g3 g4 (rfin1 D cs s' q) (ns + 3 * q + 3))
      case first =>
        go_upto_region 7 with fail
        go_loopw [34] (fun _ wr => ∃ (s2 : Rs) (N' : Nat), rfin1 D cs s2 q = rfin1 D cs s' q ∧ RU W0 wr B rb D A n c g1 g2 g3 g4 s2 N' ∧ N' + rleft s2 q ≤ ns + 3 * q + 3) (fun _ wr => leftR rb g2 g3 g4 q wr)
        case atStart => exact ⟨s', ns + 3 * q, rfl, by push_cast; exact hU, by have := rleft_le s' q; omega⟩
        case round =>
          clear hU c1
          obtain ⟨s2, N', hse, hU, hNl⟩ := hrel
          obtain ⟨wi, rfl⟩ : ∃ x : World, x = wr := ⟨_, rfl⟩
          obtain ⟨c1, c9, d4⟩ := hU.over hlt
          have hlf := hU.left hlt
          have hql' : q < s2.l.length := by rw [hU.len]; exact hlt
          cases ho : (s2.l.getD q pa0).o
          · rw [ho] at d4
            have hrl := rleft_lt (D := D) (cs := cs) hql' ho
            have hre := rfin1_step (D := D) (cs := cs) hql' ho
            have hnn : (N' : Int) < 9223372036854775806 := by have := hqp.out; omega
            have K := KS.out wi s2 N' q hU hnn hlt
            rw [← hre] at hse
            replace hse := Lib.hid hse
            replace hNl := Lib.hid hNl
            replace hrl := Lib.hid hrl
            replace hlf := Lib.hid hlf
            clear hU ho hre hnn
            go_wp2_with (go_at_call 46; (with_reducible refine (K).mono ?_); rintro e w1 ⟨rfl, hU1⟩)
            go_roundw
            case rel => exact ⟨rstep D cs s2 q, N' + 1, hse.out, by push_cast; exact hU1, by have := hNl.out; have := hrl.out; omega⟩
            case measure =>
              have e1 := hU1.left hlt
              have e2 := hlf.out
              have e3 := hrl.out
              omega
          · rw [ho] at d4
            rw [rfin1_done ho] at hse
            subst hse
            have hU2 : RU W0 wi B rb D A n c g1 g2 g3 g4 (rfin1 D cs s' q) (ns + 3 * q + 3) := hU.up (by omega)
            clear hU ho hNl hlf
            go_wp2
            go_meet
            case rel => exact hU2
      clear hU
      go_wp2
      go_roundw
      case rel => exact ⟨q + 1, rfin1 D cs s' q, by omega, by go_num, hfi'.out, hcut.up (by push_cast; omega)⟩
      case measure => simp [intOf]; omega
end
/-- how the reference's race stands at the end -/
structure RF (W0 W : World) (rb : Nat) (ls : List Pa) (wv : VW) (vr : Value) : Prop where
  o : Own W W0.heap.size 108 2 (ls.map qrow) vr
  c2 : W.cell? ⟨rb, 2, none⟩ = some (.int .i64 wv.u)
  c3 : W.cell? ⟨rb, 3, none⟩ = some (.bool wv.a)
  c4 : W.cell? ⟨rb, 4, none⟩ = some (.int .i64 wv.s)
  c5 : W.cell? ⟨rb, 5, none⟩ = some (.int .i64 wv.k)
  c6 : W.cell? ⟨rb, 6, none⟩ = some vr
  b : Below W0.heap.size W0 W
  lr : rb < W.heap.size
theorem RU.fin {W0 W : World} {rb : Nat} {D N : Int} {A : Option Addr} {n c g1 g2 g3 g4 : Nat} {s : Rs} (h : RU W0 W W0.heap.size rb D A n c g1 g2 g3 g4 s N) : RF W0 W rb s.l s.w (.slice (some ⟨g1, 0, none⟩) n n) := by
  obtain ⟨⟨vo, rd, r⟩, _, _⟩ := h
  obtain ⟨-, -, c2, c3, c4, c5, c6, -⟩ := r.cells
  exact ⟨r.o1, c2, c3, c4, c5, c6, r.b, heap_lt r.hb⟩
/-- what comes of a race -/
structure Out (D : Int) (cs : List (Int × Int)) (sch : List Int) (ls : List Pa) (wv : VW) (ec : Int) : Prop where
  race : ∀ (n ns : Nat) (A B : Option Addr) (a b : Nat) (W : World), Cls W A cs → Ints W B sch → cs.length = n → sch.length = ns → ns ≤ 140737488355328 →
    Calls Try.prog 20 #[.int .i64 D, .slice A n a, .slice B ns b] W fun e w' => ∃ v, e = .returned (.tuple #[v, .agg wv.arr, .int .i64 ec]) ∧ Own w' W.heap.size 60 2 (ls.map qrow) v ∧ Below W.heap.size W w'
  wrong : ∀ (n : Nat) (A : Option Addr) (a : Nat) (W : World), Cls W A cs → cs.length = n → Calls Try.prog 21 #[.int .i64 D, .slice A n a] W fun e w' => e = .returned (.int .i64 ec) ∧ W = w'
  ref : (ec = 0 ∧ ∀ (n ns c b rb g1 g2 g3 g4 : Nat) (A B : Option Addr) (W0 W : World), Cls W0 A cs → Ints W0 B sch → cs.length = n → sch.length = ns → ns ≤ 140737488355328 → RR W0 W W0.heap.size rb D A n c g1 g2 g3 g4 (.slice none 0 0) (List.replicate n zv) (rs0 n) →
      Calls Try.prog 23 #[.pointer (some ⟨rb, 0, none⟩), .slice B ns b] W fun e w' => e = .returned (.tuple #[]) ∧ RF W0 w' rb ls wv (.slice (some ⟨g1, 0, none⟩) n n)) ∨ (ec = 1 ∧ ls = [] ∧ wv = zv)
  few : ls.length ≤ 1000
theorem calls_ok {D : Int} {cs : List (Int × Int)} (h : okr D cs) : ∀ j, ((callAt cs j).1 = 1 ∨ (callAt cs j).1 = 2 ∨ (callAt cs j).1 = 3) ∧ 0 ≤ (callAt cs j).2 ∧ (callAt cs j).2 ≤ 2147483647 := fun j => by
  rcases Nat.lt_or_ge j cs.length with q | q
  · obtain ⟨⟨q1, q2⟩, q3⟩ := h.2.2 j q
    exact ⟨by omega, q3⟩
  · unfold callAt
    rw [List.getD_eq_getElem?_getD, List.getElem?_eq_none q]
    exact ⟨Or.inl rfl, Int.le_refl _, by decide⟩
theorem out_any (D : Int) (cs : List (Int × Int)) (sch : List Int) : ∃ ls wv ec, Out D cs sch ls wv ec := by
  by_cases hr : okr D cs
  · refine ⟨(rfin D cs cs.length 0 (rsched D cs (rs0 cs.length) sch)).l, (rfin D cs cs.length 0 (rsched D cs (rs0 cs.length) sch)).w, 0, ?_, ?_, Or.inl ⟨rfl, ?_⟩, ?_⟩
    · intro n ns A B a b W h1 h2 hn hns hs
      subst hn
      exact race_yes D cs sch _ ns A B a b W h1 h2 rfl hns hr hs
    · intro n A a W h1 hn
      exact wrong_yes D cs n A a W h1 hn hr
    · intro n ns c b rb g1 g2 g3 g4 A B W0 W h1 h2 hn hns hs hR
      subst hn
      have hU : RU W0 W W0.heap.size rb D A cs.length c g1 g2 g3 g4 (rs0 cs.length) 0 := ⟨⟨_, _, hR⟩, rs0_ok _, rcnt0 _⟩
      exact (run_any hU hr.1 h1 h2 rfl rfl hr.2.1 hns hs (calls_ok hr)).mono fun e w' q => ⟨q.1, q.2.fin⟩
    · rw [rfin_len, rsched_len]
      show (List.replicate cs.length pa0).length ≤ 1000
      rw [List.length_replicate]; exact hr.2.1
  · refine ⟨[], zv, 1, ?_, ?_, Or.inr ⟨rfl, rfl, rfl⟩, by simp⟩
    · intro n ns A B a b W h1 _ hn _ _
      exact (race_no D cs n ns A B a b W h1 hn hr).mono fun e w' q => ⟨_, q.1, Own.nil _ _ _ _, q.2⟩
    · intro n A a W h1 hn
      exact wrong_no D cs n A a W h1 hn hr
end Go.Proofs.Ytgnhddnhcfmipaa
