/- Sensor: SensorCards walked: the program's cards are the document's, new each time. -/
import Derived.Test.YtgpapbpkcggolaaCds4
namespace Go.Proofs.Ytgpapbpkcggolaa
open Go.RowKit Go.BigFrame

theorem elt25 : Elt Try.prog 25 9 1 16 := Elt.of (z := .string ⟨#[]⟩) Try.underlying25 (by kernel_rfl) rfl (by decide) (by decide)
theorem elt22 : Elt Try.prog 22 29 7 96 := Elt.of (z := .agg #[.string ⟨#[]⟩, .string ⟨#[]⟩, .int .u8 0, .slice none 0 0, .int .i8 0, .string ⟨#[]⟩, .int .i16 0]) Try.underlying22 (by kernel_rfl) rfl (by decide) (by decide)
theorem cards_small : ∀ c ∈ cards, c.cs.length ≤ 2 := by decide
theorem cards_small' : ∀ c ∈ cards, c.cs.length ≤ 9223372036854775807 := fun c hc => by have := cards_small c hc; omega
theorem cards_len : cards.length = 5 := rfl

theorem sameAll_n (l : List Cd) (n : Nat) (hn : l.length = n) (A B : Option Addr) (ca cb : Nat) (w : World) (hA : Cds w A l) (hB : Cds w B l) :
    Calls Try.prog 7 #[.slice A n ca, .slice B n cb] w fun e w' => e = .returned (.bool true) ∧ Below w.heap.size w w' := by
  subst hn; exact sameAll_any l A B ca cb w hA hB

theorem Mk.glt {w : World} {B g : Nat} {bl : List Nat} {l : List Cd} (h : Mk w B g bl l) : B ≤ g ∧ g < w.heap.size := h.own.lt g rfl
theorem Mk.cds' {w : World} {B g : Nat} {bl : List Nat} (h : Mk w B g bl cards) : Cds w (some ⟨g, 0, none⟩) cards := h.cds cards_small' (by decide) h.glt.2

theorem Mk.fr {w w' : World} {B g H : Nat} {S : Nat → Prop} {bl : List Nat} {l : List Cd} (h : Mk w B g bl l) (f : Fr H S w w') (hg : g < H) (hS : ∀ x, B ≤ x → x ≤ g → ¬ S x) : Mk w' B g bl l :=
  h.keep fun x hx => by
    rcases hx with rfl | hx
    · exact f.k _ hg (hS _ h.glt.1 (Nat.le_refl _))
    · have := h.lt x hx
      exact f.k _ (by omega) (hS _ this.1 (by omega))
theorem As.at_ {w : World} {B g : Nat} {bl : List Nat} {l : List Cd} {k : Nat} (h : As w B g bl l k) (hl : bl.length = l.length) (hk : k < l.length) :
    ∃ b, bl[k]? = some b ∧ w.heap[b]? = some (Obj.cells (tx l[k].cs) 9) ∧ w.cell? ⟨g, k * 7 + 3, none⟩ = some (.slice (some ⟨b, 0, none⟩) l[k].cs.length l[k].cs.length) := by
  obtain ⟨rs, hr, ho, hj⟩ := h
  obtain ⟨h1, h2⟩ := hj k (bl[k]'(by omega)) l[k] (Nat.le_refl _) (List.getElem?_eq_getElem _) (List.getElem?_eq_getElem hk)
  refine ⟨_, List.getElem?_eq_getElem (by omega), h2, ?_⟩
  rw [← hr] at ho
  have hk' : k < rs.length := by omega
  rw [List.getElem?_eq_getElem hk'] at h1
  exact (ho.cell hk' (f := 3) (u := _) (by rw [Option.some.inj h1]; rfl)).1

theorem Cds.drop {w : World} {b o : Nat} {l : List Cd} (h : Cds w (some ⟨b, o, none⟩) l) (k : Nat) : Cds w (some ⟨b, o + k * 7, none⟩) (l.drop k) := by
  refine ⟨by have := h.1; rw [List.length_drop]; omega, fun j hj => ?_⟩
  have hj' : k + j < l.length := by rw [List.length_drop] at hj; omega
  obtain ⟨b', o', Ai, ci, e, hb, hc, ht⟩ := h.2 (k + j) hj'
  cases e
  rw [List.getElem_drop]
  exact ⟨b, o + k * 7, Ai, ci, rfl, hb, fun f u hu => by rw [show o + k * 7 + j * 7 + f = o + (k + j) * 7 + f by omega]; exact hc f u hu, ht⟩
theorem As.slot {w : World} {B g : Nat} {bl : List Nat} {l : List Cd} {k i : Nat} (h : As w B g bl l i) (hk : k < l.length) (f : Nat) (hf : f < 7) (m : Nat) (hm : m = k * 7 + f) : ∃ u, w.cell? ⟨g, m, none⟩ = some u ∧ w.frozen? ⟨g, m, none⟩ = false := by
  subst hm
  obtain ⟨rs, hr, ho, hj⟩ := h
  rw [← hr] at ho
  have hk' : k < rs.length := by omega
  have hl := ho.2 _ (List.getElem_mem hk')
  exact ⟨_, ho.cell hk' (f := f) (List.getElem?_eq_getElem (by omega))⟩
theorem Cds.ite {w : World} {b o k n : Nat} {l : List Cd} (hn : l.length = n) (h : Cds w (some ⟨b, o, none⟩) (l.drop k)) (p : Addr) : Cds w (if n = k then some p else some ⟨b, o, none⟩) (l.drop k) := by
  split
  · rename_i e
    have : l.drop k = [] := List.drop_eq_nil_of_le (by omega)
    rw [this]
    exact ⟨by simp, fun j hj => absurd hj (by simp)⟩
  · exact h
theorem Cds.le {w w' : World} {A : Option Addr} {l : List Cd} (h : Cds w A l) (d : Below w.heap.size w w') : Cds w' A l := h.below d
theorem nodup_ne {l : List Nat} (h : l.Nodup) {i j a b : Nat} (hi : l[i]? = some a) (hj : l[j]? = some b) (hij : i ≠ j) : a ≠ b := by
  intro e
  subst e
  exact hij ((List.getElem?_inj (List.getElem?_eq_some_iff.1 hi).1 h).1 (hi.trans hj.symm))

set_option maxHeartbeats 4000000 in
set_option maxRecDepth 100000 in
theorem cards_walk (w : World) : Calls Try.prog 3 #[] w fun e w' => e = .returned (.bool true) ∧ Below w.heap.size w w' := by
  go_enter Try.func3, Try.ntmps3
  go_upto_region 1 with fail
  go_wp2_with (first
    | (go_at_call 5; (with_reducible refine (rcards_any w).mono ?_); rintro e w1 ⟨gw, blw, rfl, hMw, d1⟩; have lw := hMw.glt.2)
    | (go_at_call 6; (with_reducible refine (cards_any w1).mono ?_); rintro e w2 ⟨ga, bla, rfl, hMa, d2⟩; have hMw2 := hMw.below hMw.glt.2 d2; have la := hMa.glt.2)
    | (go_at_call 6; (with_reducible refine (cards_any w2).mono ?_); rintro e w3 ⟨gb, blb, rfl, hMb, d3⟩; have hMw3 := hMw2.below hMw2.glt.2 d3; have hMa3 := hMa.below hMa.glt.2 d3; have lb := hMb.glt.2)
    | (go_at_call 7; (with_reducible refine (sameAll_n cards 5 rfl _ _ _ _ w3 hMa3.cds' hMw3.cds').mono ?_); rintro e w4 ⟨rfl, d4⟩; have hMw4 := hMw3.below hMw3.glt.2 d4; have hMa4 := hMa3.below hMa3.glt.2 d4; have hMb4 := hMb.below hMb.glt.2 d4)
    | (go_at_call 7; (with_reducible refine (sameAll_n cards 5 rfl _ _ _ _ w4 hMb4.cds' hMw4.cds').mono ?_); rintro e w5 ⟨rfl, d5⟩; have hMw5 := hMw4.below hMw4.glt.2 d5; have hMa5 := hMa4.below hMa4.glt.2 d5; have hMb5 := hMb4.below hMb4.glt.2 d5))
  have gB : Below w.heap.size w w5 := d1.trans ((d2.mono d1.size).trans ((d3.mono (by have := d1.size; have := d2.size; omega)).trans ((d4.mono (by have := d1.size; have := d2.size; have := d3.size; omega)).trans (d5.mono (by have := d1.size; have := d2.size; have := d3.size; have := d4.size; omega)))))
  have z1 := d1.size
  have z2 := d2.size
  have z3 := d3.size
  have z4 := d4.size
  have z5 := d5.size
  clear hMw hMw2 hMw3 hMw4 hMa hMa3 hMa4 hMb hMb4 d1 d2 d3 d4 d5
  have hA0 := hMa5.as
  have hlt := hMa5.lt
  have hdis := hMa5.dis
  have hlen := hMa5.len
  clear hMa5
  generalize hB1 : w1.heap.size = B1 at *
  replace hB1 := Lib.hid hB1
  generalize hB2 : w2.heap.size = B2 at *
  replace hB2 := Lib.hid hB2
  generalize hH : w5.heap.size = H at *
  have hHh := Lib.hid hH
  clear hH
  have hWk : ∀ W, Fr H (fun x => B1 ≤ x ∧ x < B2) w5 W → Cds W (some ⟨gw, 0, none⟩) cards := fun W f => (hMw5.fr f (by omega) fun x h1 h2 h3 => by omega).cds'
  have hBk : ∀ W, Fr H (fun x => B1 ≤ x ∧ x < B2) w5 W → Cds W (some ⟨gb, 0, none⟩) cards := fun W f => (hMb5.fr f (by omega) fun x h1 h2 h3 => by omega).cds'
  have hBH : B2 ≤ H := by omega
  clear hMw5 hMb5 z3 z4
  go_loopw [4] (fun v wr => ∃ (k : Nat), k ≤ 5 ∧ v = .int .i64 k ∧ Fr H (fun x => B1 ≤ x ∧ x < B2) w5 wr ∧ As wr B1 ga bla cards k) (fun v _ => 5 - (intOf v).toNat)
  case atStart => exact ⟨0, by omega, rfl, Fr.refl _ _ _, hA0⟩
  case round =>
    obtain ⟨k, hk, rfl, hF, hA⟩ := hrel
    have hsz := hF.g.size
    rw [hHh.out] at hsz
    by_cases hk5 : k = 5
    · have hkn : ¬ (k : Int) < 5 := by omega
      clear hk5
      obtain ⟨rs, hrs, ho1, -⟩ := hA
      have hga1 : B1 ≤ ga := (ho1.lt ga rfl).1
      replace hrs : rs.length = 5 := hrs
      replace ho1 : Own wr B1 29 7 rs (.slice (some ⟨ga, 0, none⟩) 5 5) := ho1
      obtain ⟨wo, rfl⟩ : ∃ wo : World, wo = wr := ⟨_, rfl⟩
      go_wp2
      go_loopw [2, 8] (fun v i wr' => ∃ (u : Nat) (xs : List (List Value)), u ≤ 20 ∧ i = .int .i64 u ∧ Own wr' B1 29 7 xs v ∧ xs.length = 5 + u ∧ (∀ x, v.ownBlock = some x → x = ga ∨ wo.heap.size ≤ x) ∧ Fr wo.heap.size (fun x => x = ga) wo wr') (fun _ i _ => 20 - (intOf i).toNat)
      case atStart => exact ⟨0, rs, by omega, rfl, ho1, by omega, fun x hx => .inl (by cases hx; rfl), Fr.refl _ _ _⟩
      case round =>
        clear ho1 hrs rs
        obtain ⟨u, xs, hu, rfl, ho2, hl2, hx2, hF2⟩ := hrel
        have hz2 := hF2.g.size
        by_cases hu20 : u = 20
        · subst hu20
          obtain ⟨A, cc, rfl, -⟩ := ho2.sl
          rw [hl2]
          clear ho2 hl2 hx2 xs
          have hF5 : Fr H (fun x => B1 ≤ x ∧ x < B2) w5 wr := hF.trans (hF2.mono hsz (fun b _ e => by subst e; exact ⟨by omega, by omega⟩))
          have hWr := hWk _ hF5
          have hBr := hBk _ hF5
          have gE : Below w.heap.size w wr := gB.trans (hF5.below (by omega) (fun b hb => by have := hb.1; omega))
          have hwz := gE.size
          clear hF hF2 hA0 hF5 gB
          go_wp2_with (first
            | (go_at_call 7; (with_reducible refine (sameAll_n cards 5 rfl _ _ _ _ wr hBr hWr).mono ?_); rintro e x1 ⟨rfl, e1⟩)
            | (go_at_call 6; (with_reducible refine (cards_any x1).mono ?_); rintro e x2 ⟨gc, blc, rfl, hMc, e2⟩)
            | (go_at_call 7; (with_reducible refine (sameAll_n cards 5 rfl _ _ _ _ x2 hMc.cds' (Cds.le (Cds.le hWr e1) e2)).mono ?_); rintro e x3 ⟨rfl, e3⟩))
          go_ret
          exact ⟨rfl, gE.trans ((e1.mono (by omega)).trans ((e2.mono (by have := e1.size; omega)).trans (e3.mono (by have := e1.size; have := e2.size; omega))))⟩
        have hu20 : u < 20 := by omega
        have hu20i : (u : Int) < 20 := by omega
        go_wp2_with (at_builtin; refine wpList_push_at elt22 rfl _ _ rfl rfl (ho2.alloc _) [.string ⟨#[98, 101, 104, 105, 110, 100]⟩, .string ⟨#[]⟩, .int .u8 0, .slice none 0 0, .int .i8 0, .string ⟨#[]⟩, .int .i16 0] wr.heap.size 29 rfl (heap_alloc_at _ _) rfl (by simp [Value.oneCell']) (by rw [hl2]; omega) (by rw [size_al]; omega) ?_; intro v' wn ho3 hb3 hs3 _ hg3 hat3)
        go_roundw
        case rel =>
          have hF3 : Fr wo.heap.size (fun x => x = ga) wo wn := (hF2.alloc hz2 _).grown hg3 (fun j hj hjl => (hx2 j hj).resolve_right (by omega)) (by rw [size_al]; omega)
          refine ⟨u + 1, _, by omega, by go_num, ho3, by rw [List.length_append]; simp; omega, fun x hx => ?_, hF3⟩
          rcases hat3 with e | e
          · exact hx2 x (e ▸ hx)
          · rw [e] at hx; cases hx; rw [size_al]; exact .inr (by omega)
        case measure => simp [intOf]; omega
    have hk5 : k < 5 := by omega
    have hk5i : (k : Int) < 5 := by omega
    obtain ⟨bk, hbk, hb, p3⟩ := hA.at_ hlen hk5
    have hbl := hlt bk (List.mem_of_getElem? hbk)
    have hn2 := cards_small cards[k] (List.getElem_mem hk5)
    have htx : (tx cards[k].cs).size = cards[k].cs.length := by simp [tx]
    generalize tx cards[k].cs = cs0 at *
    generalize cards[k].cs.length = n at *
    have hA1 := Lib.hid hA.next
    clear hA
    obtain ⟨wo, rfl⟩ : ∃ wo : World, wo = wr := ⟨_, rfl⟩
    have hbs := heap_lt hb
    go_wp2
    go_loopw [6] (fun v wr => ∃ (t : Nat), t ≤ n ∧ v = .int .i64 t ∧ Fr wo.heap.size (fun x => x = bk) wo wr ∧ ∃ cs : Array Value, cs.size = n ∧ wr.heap[bk]? = some (Obj.cells cs 9)) (fun v _ => n - (intOf v).toNat)
    case atStart => exact ⟨0, by omega, rfl, Fr.refl _ _ _, cs0, htx, hb⟩
    case round =>
      obtain ⟨t, ht, rfl, hF1, cs, hcs, hc⟩ := hrel
      by_cases htn : t = n
      · subst htn
        have ho1 := own_block hc hbl.1 (by rw [hcs]; unfold maxLen; omega)
        rw [hcs] at ho1
        have hl1 : (cs.toList.map fun v => [v]).length = t := by simp [hcs]
        generalize (cs.toList.map fun v => [v]) = xs1 at *
        clear hc hcs cs hb
        go_wp2
        go_loopw [5, 7] (fun v i wr' => ∃ (u : Nat) (xs : List (List Value)), u ≤ 20 ∧ i = .int .i64 u ∧ Own wr' B1 9 1 xs v ∧ xs.length = t + u ∧ (∀ x, v.ownBlock = some x → x = bk ∨ wo.heap.size ≤ x) ∧ Fr wo.heap.size (fun x => x = bk) wo wr') (fun _ i _ => 20 - (intOf i).toNat)
        case atStart => exact ⟨0, xs1, by omega, rfl, ho1, by omega, fun x hx => .inl (by cases hx; rfl), hF1⟩
        case round =>
          clear ho1 hl1 xs1 hF1
          obtain ⟨u, xs, hu, rfl, ho2, hl2, hx2, hF2⟩ := hrel
          have hz2 := hF2.g.size
          by_cases hu20 : u = 20
          · subst hu20
            obtain ⟨A, cc, rfl, -⟩ := ho2.sl
            rw [hl2]
            clear ho2 hl2 hx2 xs
            have hne : ∀ x, x = ga ∨ (∃ j, k + 1 ≤ j ∧ bla[j]? = some x) → x < wo.heap.size ∧ x ≠ bk := by
              rintro x (rfl | ⟨j, hj, hx⟩)
              · exact ⟨by omega, by omega⟩
              · have := hlt x (List.mem_of_getElem? hx)
                exact ⟨by omega, nodup_ne hdis hx hbk (by omega)⟩
            have hF5 : Fr H (fun x => B1 ≤ x ∧ x < B2) w5 wr := hF.trans (hF2.mono hsz (fun b _ e => by subst e; exact ⟨hbl.1, by omega⟩))
            have hA2 : As wr B1 ga bla cards (k + 1) := hA1.out.keep fun x hx => hF2.k x (hne x hx).1 (hne x hx).2
            have hwrd : Fr H (fun x => B1 ≤ x ∧ x < B2) w5 wr.drew := ⟨hF5.g.drew, hF5.k⟩
            have hWd := hWk _ hwrd
            have hBd := hBk _ hwrd
            have hgas : ga < wr.drew.heap.size := by show ga < wr.heap.size; omega
            have hA2d : As wr.drew B1 ga bla cards (k + 1) := hA2.keep fun _ _ => rfl
            have hAc := hA2d.cds hlen cards_small' (by decide) hgas
            have hWc := hWd.drop (k + 1)
            have e20 : ¬ (((t + 20 : Nat) : Int) < 20) := by omega
            have e21 : ¬ ((t : Int) + 20 < 20) := by omega
            clear hA1 hne hF hA0 hF2
            have ew : IntKind.i64.wrap ((k : Int) + 1) = ((k + 1 : Nat) : Int) := by rw [Go.IntWalk.i64_in _ (by omega)]; rfl
            have ek1 : (0 : Int) ≤ ((k + 1 : Nat) : Int) := by omega
            have ek2 : ((k + 1 : Nat) : Int) ≤ 5 := by omega
            generalize hk1 : k + 1 = k1 at *
            have hk1h := Lib.hid hk1
            clear hk1
            go_upto_region 18 with fail
            rw [Nat.zero_add] at hWc
            have hld : (cards.drop k1).length = 5 - k1 := by rw [List.length_drop]; rfl
            go_cut [69] from 49 to 68 (fun v wx => v = .bool false ∧ Below wr.heap.size wr.drew wx)
            case first =>
              have hK : ∀ (A B : Option Addr) (ca cb : Nat), Cds wr.drew A (cards.drop k1) → Cds wr.drew B (cards.drop k1) → Calls Try.prog 7 #[.slice A (5 - k1) ca, .slice B (5 - k1) cb] wr.drew fun e w' => e = .returned (.bool true) ∧ Below wr.drew.heap.size wr.drew w' := fun A B ca cb h1 h2 => sameAll_n _ _ hld A B ca cb _ h1 h2
              by_cases h5 : 5 = k1
              · subst h5
                have hK := hK (some ⟨ga, 0, none⟩) (some ⟨gw, 0, none⟩) 0 0 ⟨by decide, fun j hj => absurd hj (Nat.not_lt_zero j)⟩ ⟨by decide, fun j hj => absurd hj (Nat.not_lt_zero j)⟩
                go_region_held3 (fun _ => True) (first | exact trivial)
                  (first
                    | (go_at_call 7; (with_reducible refine hK.mono ?_); rintro e w6 ⟨rfl, d6⟩)
                    | (go_at_call 7; (with_reducible refine (sameAll_n cards 5 rfl _ _ _ _ w6 (Cds.le hBd d6) (Cds.le hWd d6)).mono ?_); rintro e w7 ⟨rfl, d7⟩))
                go_wp2
                go_meet
                case rel => exact ⟨rfl, d6.trans (d7.mono d6.size)⟩
              · have hK := hK _ _ (5 - k1) (5 - k1) hAc hWc
                go_region_held3 (fun _ => True) (first | exact trivial)
                  (first
                    | (go_at_call 7; (with_reducible refine hK.mono ?_); rintro e w6 ⟨rfl, d6⟩)
                    | (go_at_call 7; (with_reducible refine (sameAll_n cards 5 rfl _ _ _ _ w6 (Cds.le hBd d6) (Cds.le hWd d6)).mono ?_); rintro e w7 ⟨rfl, d7⟩))
                go_wp2
                go_meet
                case rel => exact ⟨rfl, d6.trans (d7.mono d6.size)⟩
            obtain ⟨rfl, d67⟩ := hcut
            obtain ⟨w7, rfl⟩ : ∃ x : World, x = wc := ⟨_, rfl⟩
            have hF7 : Fr H (fun x => B1 ≤ x ∧ x < B2) w5 w7 := hwrd.trans (Fr.of (d67.mono (by omega)))
            have hA7 : As w7 B1 ga bla cards k1 := hA2.keep fun x hx => d67.block x (by
              rcases hx with rfl | ⟨j, _, hx⟩
              · exact hgas
              · have := hlt x (List.mem_of_getElem? hx); omega)
            obtain ⟨v0, f0, g0⟩ := hA7.slot hk5 0 (by omega) (k * 7) rfl
            obtain ⟨v1, f1, g1⟩ := hA7.slot hk5 1 (by omega) (k * 7 + 1) rfl
            obtain ⟨v2, f2, g2⟩ := hA7.slot hk5 2 (by omega) (k * 7 + 2) rfl
            obtain ⟨v3, f3, g3⟩ := hA7.slot hk5 3 (by omega) (k * 7 + 3) rfl
            obtain ⟨v4, f4, g4⟩ := hA7.slot hk5 4 (by omega) (k * 7 + 4) rfl
            obtain ⟨v5, f5, g5⟩ := hA7.slot hk5 5 (by omega) (k * 7 + 5) rfl
            obtain ⟨v6, f6, g6⟩ := hA7.slot hk5 6 (by omega) (k * 7 + 6) rfl
            replace hA7 := Lib.hid hA7
            go_wp2
            go_roundw
            case rel =>
              have hA8 := hA7.out
              rw [← hk1h.out] at hA8
              have hgne : ∀ b ∈ bla, b ≠ ga := fun b hb => by have := hlt b hb; omega
              have hS : ∀ off, (⟨ga, off, none⟩ : Addr).block < H → B1 ≤ (⟨ga, off, none⟩ : Addr).block ∧ (⟨ga, off, none⟩ : Addr).block < B2 := fun off _ => ⟨by show B1 ≤ ga; omega, la⟩
              refine ⟨k + 1, by omega, by rw [hk1h.out], ?_, ?_⟩
              · exact ((((((hF7.set (hS _) _).set (hS _) _).set (hS _) _).set (hS _) _).set (hS _) _).set (hS _) _).set (hS _) _
              · exact ((((((hA8.set hk5 hgne (f := 0) (by omega) rfl _).set hk5 hgne (f := 1) (by omega) rfl _).set hk5 hgne (f := 2) (by omega) rfl _).set hk5 hgne (f := 3) (by omega) rfl _).set hk5 hgne (f := 4) (by omega) rfl _).set hk5 hgne (f := 5) (by omega) rfl _).set hk5 hgne (f := 6) (by omega) rfl _
            case measure => have := hk1h.out; simp [intOf]; omega
          have hu20 : u < 20 := by omega
          go_wp2_with (at_builtin; refine wpList_push_at elt25 rfl _ _ rfl rfl (ho2.alloc _) [.string ⟨#[98, 101, 104, 105, 110, 100]⟩] wr.heap.size 9 rfl (heap_alloc_at _ _) rfl (by simp [Value.oneCell']) (by rw [hl2]; omega) (by rw [size_al]; omega) ?_; intro v' wn ho3 hb3 hs3 _ hg3 hat3)
          go_roundw
          case rel =>
            have hF3 : Fr wo.heap.size (fun x => x = bk) wo wn := (hF2.alloc hz2 _).grown hg3 (fun j hj hjl => (hx2 j hj).resolve_right (by omega)) (by rw [size_al]; omega)
            refine ⟨u + 1, _, by omega, by go_num, ho3, by rw [List.length_append]; simp; omega, fun x hx => ?_, hF3⟩
            rcases hat3 with e | e
            · exact hx2 x (e ▸ hx)
            · rw [e] at hx; cases hx; rw [size_al]; exact .inr (by omega)
          case measure => simp [intOf]; omega
      have htn : t < n := by omega
      have c1 := (cell_of_row _ _ t _ 9 (0, 0) hc).trans (Array.getElem?_eq_getElem (by omega))
      have c2 := frozen_row hc t
      go_wp2
      go_roundw
      case rel => exact ⟨t + 1, by omega, by go_num, hF1.set (fun _ => rfl) _, _, by simp [hcs], heap_set hc t _⟩
      case measure => simp [intOf]; omega
end Go.Proofs.Ytgpapbpkcggolaa
