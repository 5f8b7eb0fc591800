/- RailsWindows, walked. -/
import Derived.Test.YtbbjnhajmckjoaaWin1
namespace Go.Proofs.Ytbbjnhajmckjoaa
open Go.RowKit Go.BigFrame Go.Maps

theorem wf_small (i : Nat) (h : i < 40) : (Lit.int .i64 (i : Int)).wf = true := by
  have h1 : IntKind.i64.min = -9223372036854775808 := by decide
  have h2 : IntKind.i64.max = 9223372036854775807 := by decide
  simp [Lit.wf, h1, h2]
  omega
/-- a row that has been laid stays, where another slice grows -/
theorem row_two {w w1 : World} {o r : Obj} {T : Nat} (h : ((w.alloc o).alloc r).drew.grownBy w1 (some T)) (hT : T = w.heap.size) : w1.heap[w.heap.size + 1]? = some r := by
  subst hT
  refine (h.block (w.heap.size + 1) (by show _ < ((w.alloc o).alloc r).heap.size; rw [size_al, size_al]; omega) (fun e => by have := Option.some.inj e; omega)).trans ?_
  exact heap_alloc_at' _ _ _ (size_al w o).symm
theorem row_one {w w1 : World} {o r : Obj} {T : Nat} (h : ((w.alloc r).alloc o).drew.grownBy w1 (some T)) (hT : T = w.heap.size + 1) : w1.heap[w.heap.size]? = some r := by
  subst hT
  refine (h.block w.heap.size (by show _ < ((w.alloc r).alloc o).heap.size; rw [size_al, size_al]; omega) (fun e => by have := Option.some.inj e; omega)).trans ?_
  exact heap_alloc (heap_alloc_at w r)
theorem one_pts (l : List Pt) : ∀ r ∈ l.map prow, ∀ u ∈ r, u.oneCell' = true := by
  intro r hr u hu
  obtain ⟨p, _, rfl⟩ := List.mem_map.1 hr
  simp only [prow, List.mem_cons, List.not_mem_nil, or_false] at hu
  rcases hu with rfl | rfl <;> rfl
set_option maxHeartbeats 16000000 in
set_option maxRecDepth 100000 in
theorem windows_walk (qa qb qc : Int) (l : List Pt) (A : Option Addr) (c : Nat) (w : World) (h : Pts w A l) :
    Calls Try.prog 6 #[.agg #[.int .i64 qa, .int .i64 qb, .int .i64 qc], .slice A l.length c] w fun e w' => e = .returned (.bool true) ∧ Below w.heap.size w w' := by
  have KW := fun X => works_any X
  have KT := fun X => tame_any qa qb qc X
  have hN := tame_rn qa qb qc
  have hlo : Hid (0 ≤ tlo qa qb) := Lib.hid (by have := (tame_rg qa qb qc).1; omega)
  have hst : Hid (0 ≤ tst qc) := Lib.hid (by have := (tame_rg qa qb qc).2.2.2.1; omega)
  generalize tlo qa qb = lo at *
  generalize thi qa qb = hi at *
  generalize tst qc = st at *
  have KL := fun X => ladder_any lo hi st X
  have KN := fun X => new_yes hN X
  have hL0 : lerr (rn lo hi st) = 0 := if_neg hN
  rw [hL0] at KL
  have hwl : Hid (∀ X, Below w.heap.size w X → Pts X A l) := Lib.hid fun X d => Pts.below h d
  have hle := h.le
  replace hN := Lib.hid hN
  clear h hL0
  go_enter Try.func6, Try.ntmps6
  go_upto_region 1 with fail
  have g0 := below_al (Below.refl w.heap.size w) (.cells #[.int .i64 qa, .int .i64 qb, .int .i64 qc] 45)
  have x0 := heap_alloc_at w (.cells #[.int .i64 qa, .int .i64 qb, .int .i64 qc] 45)
  generalize w.alloc (.cells #[.int .i64 qa, .int .i64 qb, .int .i64 qc] 45) = w0 at *
  go_upto_region 3 with (go_at_call 32; (with_reducible refine (KW _).mono ?_); rintro e w1 ⟨rfl, b1⟩)
  have x1 := (b1.block _ (heap_lt x0)).trans x0
  have g1 := g0.trans (b1.mono g0.size)
  have y0 : w1.cell? ⟨w.heap.size, 0, none⟩ = some (.int .i64 qa) := by rw [cell_of_row _ _ 0 _ 45 (0, 0) x1]; rfl
  have y1 : w1.cell? ⟨w.heap.size, 1, none⟩ = some (.int .i64 qb) := by rw [cell_of_row _ _ 1 _ 45 (0, 0) x1]; rfl
  have y2 : w1.cell? ⟨w.heap.size, 2, none⟩ = some (.int .i64 qc) := by rw [cell_of_row _ _ 2 _ 45 (0, 0) x1]; rfl
  replace g1 := Lib.hid g1
  clear x0 g0 b1 KW
  go_upto_region 4 with (go_at_call 33; (with_reducible refine (KT _).mono ?_); rintro e w2 ⟨rfl, b2⟩)
  have x2 := heap_alloc_at w2 (.cells #[.int .i64 lo, .int .i64 hi, .int .i64 st] 49)
  have g2 := g1.out.trans (b2.mono g1.out.size)
  have g3 := Lib.hid (g2.alloc g2.size (.cells #[.int .i64 lo, .int .i64 hi, .int .i64 st] 49))
  have hB : Hid (w.heap.size ≤ w2.heap.size) := Lib.hid g2.size
  generalize w2.alloc (.cells #[.int .i64 lo, .int .i64 hi, .int .i64 st] 49) = w3 at *
  obtain ⟨Bx, hBx⟩ : ∃ B, B = w2.heap.size := ⟨_, rfl⟩
  rw [← hBx] at x2 ⊢
  clear y0 y1 y2 g1 b2 g2 KT x1 hBx
  have y0 : w3.cell? ⟨Bx, 0, none⟩ = some (.int .i64 lo) := by rw [cell_of_row _ _ 0 _ 49 (0, 0) x2]; rfl
  have y1 : w3.cell? ⟨Bx, 1, none⟩ = some (.int .i64 hi) := by rw [cell_of_row _ _ 1 _ 49 (0, 0) x2]; rfl
  have y2 : w3.cell? ⟨Bx, 2, none⟩ = some (.int .i64 st) := by rw [cell_of_row _ _ 2 _ 49 (0, 0) x2]; rfl
  go_upto_region 5 with (go_at_call 18; (with_reducible refine (KL _).mono ?_); rintro e w4 ⟨vl, rfl, hL, b4⟩)
  have g4 := g3.out.trans (b4.mono g3.out.size)
  have x4 := (b4.block _ (heap_lt x2)).trans x2
  have hB4 := Nat.lt_of_lt_of_le (heap_lt x2) b4.size
  clear y0 y1 y2 g3 b4 KL x2
  have y0 : w4.cell? ⟨Bx, 0, none⟩ = some (.int .i64 lo) := by rw [cell_of_row _ _ 0 _ 49 (0, 0) x4]; rfl
  have y1 : w4.cell? ⟨Bx, 1, none⟩ = some (.int .i64 hi) := by rw [cell_of_row _ _ 1 _ 49 (0, 0) x4]; rfl
  have y2 : w4.cell? ⟨Bx, 2, none⟩ = some (.int .i64 st) := by rw [cell_of_row _ _ 2 _ 49 (0, 0) x4]; rfl
  replace g4 := Lib.hid g4
  replace hL := Lib.hid hL
  go_upto_region 6 with (go_at_call 23; (with_reducible refine (KN _).mono ?_); rintro e w5 ⟨g, bm, rfl, hS5, hg5, -, b5⟩)
  have g5 := g4.out.trans (b5.mono g4.out.size)
  have x5 := (b5.block _ (heap_lt x4)).trans x4
  obtain ⟨AL, cl, rfl, hla⟩ := own_lad hL.out hg5
  have hF5 : Hid (Wf w.heap.size g Bx lo hi st (ladd lo st (rn lo hi st)) AL w w5) := Lib.hid ⟨x5, by omega, Sl.below' hla b5, by have := g4.out.size; omega, g5⟩
  have hll : (ladd lo st (rn lo hi st)).length = rn lo hi st := ladd_len _ _ _
  rw [hll] at *
  obtain ⟨n, hn⟩ : ∃ n, rn lo hi st = n := ⟨_, rfl⟩
  have hn4 : n ≤ 1024 := by rw [← hn]; exact rn_le _ _ _
  have hrn := Lib.hid hn
  rw [hn] at hF5 hll ⊢
  replace hll := Lib.hid hll
  have hz5 : Hid (w.heap.size ≤ w5.heap.size) := Lib.hid g5.size
  have hgz : Hid (g < w5.heap.size) := Lib.hid (heap_lt hS5.r)
  replace hS5 := Lib.hid hS5
  clear y0 y1 y2 g4 b5 x4 x5 hla hL KN hn g5 hg5 hB4
  go_upto_region 10 with fail
  go_loopw [10, 11] (fun s10 s11 wr => ∃ (i : Nat) (kept : List Pt) (m : Hl) (v t : Int) (bm : Nat) (Ak : Option Addr) (ck : Nat), i ≤ l.length ∧ i ≤ 40 ∧ s11 = .int .i64 i ∧ s10 = .slice Ak kept.length ck ∧ Hid (Wi lo hi st i kept m v) ∧ Hid (St wr g bm lo hi st m v t) ∧
    Hid (Kt g wr Ak kept ∧ (Ak = none → ck = 0)) ∧ Hid (Wf w.heap.size g Bx lo hi st (ladd lo st n) AL w wr)) (fun _ s11 _ => l.length - (RowKit.intOf s11).toNat)
  case atStart => exact ⟨0, [], [], 0, 0, bm, none, 0, by omega, by omega, rfl, rfl, Lib.hid (Wi.zero _ _ _), hS5, Lib.hid ⟨Sl.nil _ _ _ _, fun _ => rfl⟩, hF5⟩
  case round =>
    clear hS5 hF5 hz5
    obtain ⟨i, kept, m, v, t, bm, Ak, ck, hi1, hi2, rfl, rfl, hW, hS, hK, hF⟩ := hrel
    obtain ⟨wk, rfl⟩ : ∃ y : World, y = wr := ⟨_, rfl⟩
    by_cases hend : i < l.length ∧ i < 40
    case neg =>
      obtain ⟨mk, hmk⟩ : ∃ mk : Nat, mk = kept.length := ⟨_, rfl⟩
      have hKm := Lib.hid (hK.out.1)
      have hkl : mk ≤ 40 := by have := hW.out.len; omega
      rw [← hmk]
      have hmk' := Lib.hid hmk
      clear hmk
      go_upto_region 10 with fail
      go_cut [58] from 51 to 57 (fun x wc => x = .bool false ∧ wc = wk)
      case first =>
        by_cases h1 : i < l.length
        · have h2 : ¬ i < 40 := fun q => hend ⟨h1, q⟩
          have h1' : (i : Int) < (l.length : Int) := by omega
          have h2' : ¬ (i : Int) < 40 := by omega
          clear hend h1 h2
          go_wp2
          go_meet
          case rel => exact ⟨rfl, rfl⟩
        · have h1' : ¬ (i : Int) < (l.length : Int) := by omega
          clear hend h1
          go_wp2
          go_meet
          case rel => exact ⟨rfl, rfl⟩
      obtain ⟨rfl, rfl⟩ := hcut
      obtain ⟨wk, rfl⟩ : ∃ y : World, y = wc := ⟨_, rfl⟩
      have hzk : Hid (w.heap.size ≤ wk.heap.size ∧ g < wk.heap.size) := Lib.hid ⟨hF.out.d.size, heap_lt hS.out.r⟩
      clear hend hwl hK
      go_upto_region 43 with fail
      go_loopw [23, 24] (fun s23 s24 wr => ∃ k : Nat, k ≤ mk ∧ s24 = .int .i64 ((k : Int) - 1) ∧ Hid (Own wr wk.heap.size 58 2 ((kept.drop k).reverse.map prow) s23) ∧ Hid (Below wk.heap.size wk wr)) (fun _ s24 _ => (RowKit.intOf s24 + 1).toNat)
      case atStart => exact ⟨mk, Nat.le_refl _, by go_num, Lib.hid (by rw [hmk'.out, List.drop_length]; exact Own.nil _ _ _ _), Lib.hid (Below.refl _ _)⟩
      case round =>
        obtain ⟨k, hk, rfl, hO, hd⟩ := hrel
        obtain ⟨wl, rfl⟩ : ∃ y : World, y = wr := ⟨_, rfl⟩
        by_cases hk0 : k = 0
        · subst hk0
          have hO' := hO.out
          rw [List.drop_zero] at hO'
          obtain ⟨Ab, cb, rfl, hB, -⟩ := own_kt hO' hzk.out.2
          have hbl : kept.reverse.length = mk := by rw [List.length_reverse]; exact hmk'.out.symm
          rw [hbl]
          have hS1 := Lib.hid (hS.out.below hd.out)
          have hK1 := Lib.hid (hKm.out.below hd.out)
          have hF1 := Lib.hid (hF.out.below hzk.out.1 hd.out)
          have hz1 : Hid (w.heap.size ≤ wl.heap.size) := Lib.hid (by have h1 := hzk.out.1; have h2 := hd.out.size; omega)
          have KM1 := fun X (d : Below wl.heap.size wl X) => meet_any lo hi st kept Ak ck X (hK1.out.below d).pts
          have KM2 := fun X (d : Below wl.heap.size wl X) => meet_any lo hi st kept.reverse Ab cb X (hB.below d).pts
          rw [hbl, meet_perm (ws := kept.reverse) (ws' := kept) (List.reverse_perm kept)] at KM2
          rw [← hmk'.out] at KM1
          have hend : Hid (mk ≠ 0 → (meet lo hi st kept).1 = v) := Lib.hid fun q => hW.out.end_ (fun e => q (by rw [hmk'.out, e]; rfl))
          have hml : Hid ((m.map (·.1)).length = mk) := Lib.hid (by rw [List.length_map, hW.out.hl]; exact hmk'.out.symm)
          obtain ⟨V, hV⟩ : ∃ V, V = (meet lo hi st kept).1 := ⟨_, rfl⟩
          obtain ⟨E, hE⟩ : ∃ E, E = (meet lo hi st kept).2 := ⟨_, rfl⟩
          rw [← hV] at KM1 KM2 hend
          rw [← hE] at KM1 KM2
          have z0 : wl.cell? ⟨Bx, 0, none⟩ = some (.int .i64 lo) := by rw [cell_of_row _ _ 0 _ 49 (0, 0) hF1.out.box]; rfl
          have z1 : wl.cell? ⟨Bx, 1, none⟩ = some (.int .i64 hi) := by rw [cell_of_row _ _ 1 _ 49 (0, 0) hF1.out.box]; rfl
          have z2 : wl.cell? ⟨Bx, 2, none⟩ = some (.int .i64 st) := by rw [cell_of_row _ _ 2 _ 49 (0, 0) hF1.out.box]; rfl
          replace hV := Lib.hid hV
          replace hE := Lib.hid hE
          clear hO hO' hd hB hbl hS hKm hF hzk
          go_upto_region 47 with (go_at_call 21; (with_reducible refine (KM1 _ (Below.refl _ _)).mono ?_); rintro e w7 ⟨rfl, d7⟩)
          have y0 := (d7.cell (p := ⟨Bx, 0, none⟩) (cell_lt' z0)).trans z0
          have y1 := (d7.cell (p := ⟨Bx, 1, none⟩) (cell_lt' z1)).trans z1
          have y2 := (d7.cell (p := ⟨Bx, 2, none⟩) (cell_lt' z2)).trans z2
          clear KM1 z0 z1 z2
          go_upto_region 48 with (go_at_call 21; (with_reducible refine (KM2 _ d7).mono ?_); rintro e w8 ⟨rfl, d8⟩)
          have d9 := d7.trans (d8.mono d7.size)
          have hS9 := hS1.out.below d9
          have g9 := hF1.out.d.trans (d9.mono hz1.out)
          have KH := holders_any hS9
          have KV := fun X (d : Below w8.heap.size w8 X) => volts_any (hS9.below d)
          have n1 : (V == V) = true := by simp
          have n2 : (E == E) = true := by simp
          have n3 : ((mk : Int) == (mk : Int)) = true := by simp
          replace g9 := Lib.hid g9
          clear d7 d8 d9 hS9 hF1 hz1 hS1 hK1 KM2 y0 y1 y2
          by_cases hm0 : mk = 0
          · have n4 : ((mk : Int) == 0) = true := by rw [hm0]; rfl
            replace hm0 := Lib.hid hm0
            go_wp2_with (go_at_call 27; (with_reducible refine (KH).mono ?_); rintro e w9 ⟨x, rfl, ho, hb9⟩; obtain ⟨Ah, ch, hx, -, -⟩ := ho.ints; rw [hml.out] at hx; subst hx)
            go_ret
            exact ⟨rfl, g9.out.trans (hb9.mono g9.out.size)⟩
          · have n4 : ((mk : Int) == 0) = false := by simp; omega
            have hv := hend.out hm0
            rw [← hv] at KV
            replace hv := Lib.hid hv
            replace hm0 := Lib.hid hm0
            go_wp2_with (first
              | (go_at_call 27; (with_reducible refine (KH).mono ?_); rintro e w9 ⟨x, rfl, ho, hb9⟩; obtain ⟨Ah, ch, hx, -, -⟩ := ho.ints; rw [hml.out] at hx; subst hx)
              | (go_at_call 26; (with_reducible refine (KV _ hb9).mono ?_); rintro e w9 ⟨rfl, rfl⟩))
            go_ret
            exact ⟨rfl, g9.out.trans (hb9.mono g9.out.size)⟩
        obtain ⟨k, rfl⟩ : ∃ k', k = k' + 1 := ⟨k - 1, by omega⟩
        have hkk : k < kept.length := by have := hmk'.out; omega
        obtain ⟨b1, o1, rfl, -, x0, x1⟩ := (hKm.out.below hd.out).pts.at_ hkk
        have hdk : Hid ((kept.drop k).reverse = (kept.drop (k + 1)).reverse ++ [kept[k]]) := Lib.hid (by rw [List.drop_eq_getElem_cons hkk, List.reverse_cons])
        generalize kept[k] = xx at *
        obtain ⟨xa, xb⟩ := xx
        simp only at x0 x1
        have hlr : Hid (((kept.drop (k + 1)).reverse.map prow).length ≤ 40) := Lib.hid (by rw [List.length_map, List.length_reverse, List.length_drop]; have := hmk'.out; omega)
        have hOl := hO.out
        have hsz := hd.out.size
        have e1 : (((k + 1 : Nat) : Int) - 1) = (k : Int) := by omega
        rw [e1]
        have hk1 : (k : Int) < (mk : Int) := by omega
        clear hkk
        go_wp2_with (at_builtin; refine wpList_push_at elt51 rfl _ _ rfl rfl (hOl.alloc _) (prow (xa, xb)) wl.heap.size 58 rfl (heap_alloc_at _ _) rfl (by simp [prow, Value.oneCell']) (by have := hlr.out; omega) (by rw [size_al]; omega) ?_; intro v' w15 ho' hb15 hs15 _ hgr _)
        go_roundw
        case rel => exact ⟨k, by omega, by go_num, Lib.hid (by rw [hdk.out, List.map_append]; exact ho'), Lib.hid (hd.out.trans (((Below.refl _ wl).alloc hsz _).trans hb15))⟩
        case measure => first | (simp [RowKit.intOf]; done) | (simp [RowKit.intOf]; omega)
    obtain ⟨hil, hi8⟩ := hend
    have hil' : (i : Int) < (l.length : Int) := by omega
    have hi8' : (i : Int) < 40 := by omega
    obtain ⟨b1, o1, rfl, hbl, c1, c2⟩ := (hwl.out wk hF.out.d).at_ hil
    generalize hp1 : l[i].1 = p at *
    generalize hp2 : l[i].2 = q at *
    clear hp1 hp2
    have e1 := m1023 p
    have e2 := m1023 q
    obtain ⟨a1, ha1⟩ : ∃ a, a = p % 1024 := ⟨_, rfl⟩
    obtain ⟨a2, ha2⟩ : ∃ a, a = q % 1024 := ⟨_, rfl⟩
    have ha1' : 0 ≤ a1 ∧ a1 ≤ 1023 := by omega
    have ha2' : 0 ≤ a2 ∧ a2 ≤ 1023 := by omega
    rw [← ha1] at e1
    rw [← ha2] at e2
    replace ha1 := Lib.hid ha1
    replace ha2 := Lib.hid ha2
    have hsm : IntKind.i64.wrap (a1 + a2) = a1 + a2 := i64_in _ (by omega)
    have hKl : kept.length ≤ 40 := by have := hW.out.len; omega
    go_upto_region 12 with fail
    go_cut [12] from 61 to 80 (fun x wc => x = .pointer (some ⟨wk.heap.size, 0, none⟩) ∧ wc.heap[wk.heap.size]? = some (.cells #[.int .i64 a1, .int .i64 (a1 + a2)] 58) ∧ Below wk.heap.size wk wc)
    case first =>
      have hX := fun (X : World) (d : Below wk.heap.size wk X) => (show X.cell? ⟨b1, o1 + i * 2, none⟩ = some (.int .i64 p) ∧ X.cell? ⟨b1, o1 + i * 2 + 1, none⟩ = some (.int .i64 q) from ⟨(d.cell hbl).trans c1, (d.cell hbl).trans c2⟩)
      go_region_held3 (fun X => X.cell? ⟨b1, o1 + i * 2, none⟩ = some (.int .i64 p) ∧ X.cell? ⟨b1, o1 + i * 2 + 1, none⟩ = some (.int .i64 q)) (first | exact ⟨c1, c2⟩ | exact hX _ (below_al (Below.refl _ wk) _).drew | exact hX _ (below_al (Below.refl _ wk).drew _)) (fail)
      all_goals go_wp2
      all_goals go_meet
      all_goals (case rel => exact ⟨rfl, heap_alloc_at' _ _ _ rfl, (below_al (Below.refl _ wk) _).drew⟩)
    obtain ⟨rfl, xP, dP⟩ := hcut
    obtain ⟨wa, rfl⟩ : ∃ y : World, y = wc := ⟨_, rfl⟩
    obtain ⟨P, hP⟩ : ∃ P, P = wk.heap.size := ⟨_, rfl⟩
    rw [← hP] at xP ⊢
    have hzk : Hid (w.heap.size ≤ wk.heap.size ∧ g < wk.heap.size) := Lib.hid ⟨hF.out.d.size, heap_lt hS.out.r⟩
    have hSa := Lib.hid (hS.out.below dP)
    have hKa := Lib.hid (hK.out.1.below dP)
    have hKn := Lib.hid hK.out.2
    have hFa := Lib.hid (hF.out.below hzk.out.1 dP)
    have hPg : Hid (P ≠ g ∧ P < wa.heap.size ∧ wk.heap.size ≤ wa.heap.size) := Lib.hid ⟨by have := hzk.out.2; omega, heap_lt xP, dP.size⟩
    replace xP := Lib.hid xP
    have KV := fun X (d : Below wa.heap.size wa X) => volts_any (hSa.out.below d)
    clear c1 c2 e1 e2 hsm dP hS hK hF hP hil' hi8' hbl
    go_upto_region 14 with (go_at_call 26; (with_reducible refine (KV _ (Below.refl _ _)).mono ?_); rintro e w6 ⟨rfl, rfl⟩)
    obtain ⟨mo, hmo⟩ : ∃ mo, mo = kept ++ [(a1, a1 + a2)] := ⟨_, rfl⟩
    replace hmo := Lib.hid hmo
    go_cut [14] from 83 to 88 (fun x wc => ∃ A' c', x = .slice A' mo.length c' ∧ Kt g wc A' mo ∧ (A' = none → c' = 0) ∧ Below wa.heap.size wa wc)
    case first =>
      have OW3 : Hid (Own ((wa.alloc (.cells #[.int .i64 a1, .int .i64 (a1 + a2)] 58)).alloc (.cells #[] 58)).drew wa.heap.size 58 2 [] (.slice (some ⟨wa.heap.size + 1, 0, none⟩) 0 0)) := Lib.hid (by
        have q := (Own.lit (w := wa.alloc (.cells #[.int .i64 a1, .int .i64 (a1 + a2)] 58)) (base := wa.heap.size) (e := 58) (size := 2) (xs := []) #[] 0 rfl rfl (by simp) (by rw [size_al]; omega) (by decide)).drawn (Drawn.refl _).drew
        rw [size_al] at q
        exact q)
      have hX := fun (X : World) (d : Below wa.heap.size wa X) => (show X.cell? ⟨P, 0, none⟩ = some (.int .i64 a1) ∧ X.cell? ⟨P, 1, none⟩ = some (.int .i64 (a1 + a2)) by
        have h1 := (d.block P hPg.out.2.1).trans xP.out
        exact ⟨by rw [cell_of_row _ _ 0 _ 58 (0, 0) h1]; rfl, by rw [cell_of_row _ _ 1 _ 58 (0, 0) h1]; rfl⟩)
      have hk2 : Hid (kept.length = (kept.map prow).length) := Lib.hid (List.length_map _).symm
      have hone : Hid (∀ r ∈ kept.map prow, ∀ u ∈ r, u.oneCell' = true) := Lib.hid (one_pts kept)
      have hby : Hid ((([] : List (List Value)).length + (kept.map prow).length) * 16 ≤ 140737488355328) := Lib.hid (by rw [← hk2.out]; simp; omega)
      have hby2 : Hid (((kept.map prow).length + 1) * 16 ≤ 140737488355328) := Lib.hid (by rw [← hk2.out]; omega)
      go_region_held3 (fun X => X.cell? ⟨P, 0, none⟩ = some (.int .i64 a1) ∧ X.cell? ⟨P, 1, none⟩ = some (.int .i64 (a1 + a2)))
        (first | exact hX _ k2 | exact hX _ (k1.alloc k1.size _) | exact hX _ k1 | exact hX _ (below_al (below_al (Below.refl _ wa) _) _).drew | exact hX _ (below_al (Below.refl _ wa) _).drew | exact hX _ (Below.refl _ wa).drew | exact hX _ (Below.refl _ wa))
        (first
          | (refine step_app_any elt51 rfl (.tmp 83) (.tmp 84) rfl rfl ((Own.lit (w := wa) (base := wa.heap.size) (e := 58) (size := 2) (xs := []) #[] 0 rfl rfl (by simp) (Nat.le_refl _) (by decide)).drawn (Drawn.refl _).drew) Ak ck kept.length hk2.out rfl hKn.out (Sl.drawn (Sl.alloc hKa.out _) (Drawn.refl _).drew) hone.out hby.out ((below_al (Below.refl _ wa) _).drew).size (fun v1 w1 ho1 hb1 hg1 hat1 => ?_); have k1 : Below wa.heap.size wa w1 := ((below_al (Below.refl _ wa) _).drew).trans hb1)
          | (refine step_app_any elt51 rfl (.tmp 83) (.tmp 84) rfl rfl (((Own.lit (w := wa) (base := wa.heap.size) (e := 58) (size := 2) (xs := []) #[] 0 rfl rfl (by simp) (Nat.le_refl _) (by decide)).alloc (.cells #[.int .i64 a1, .int .i64 (a1 + a2)] 58)).drawn (Drawn.refl _).drew) Ak ck kept.length hk2.out rfl hKn.out (Sl.drawn (Sl.alloc (Sl.alloc hKa.out _) _) (Drawn.refl _).drew) hone.out hby.out ((below_al (below_al (Below.refl _ wa) _) _).drew).size (fun v1 w1 ho1 hb1 hg1 hat1 => ?_); have k1 : Below wa.heap.size wa w1 := ((below_al (below_al (Below.refl _ wa) _) _).drew).trans hb1)
          | (refine step_app_any elt51 rfl (.tmp 83) (.tmp 84) rfl rfl (((Own.lit (w := wa) (base := wa.heap.size) (e := 58) (size := 2) (xs := []) #[] 0 rfl rfl (by simp) (Nat.le_refl _) (by decide)).drawn (Drawn.refl _).drew).alloc (.cells #[.int .i64 a1, .int .i64 (a1 + a2)] 58)) Ak ck kept.length hk2.out rfl hKn.out (Sl.alloc (Sl.drawn (Sl.alloc hKa.out _) (Drawn.refl _).drew) _) hone.out hby.out (below_al (below_al (Below.refl _ wa) _).drew _).size (fun v1 w1 ho1 hb1 hg1 hat1 => ?_); have k1 : Below wa.heap.size wa w1 := (below_al (below_al (Below.refl _ wa) _).drew _).trans hb1)
          | (refine step_app_any elt51 rfl (.tmp 83) (.tmp 84) rfl rfl OW3.out Ak ck kept.length hk2.out rfl hKn.out (Sl.drawn (Sl.alloc (Sl.alloc hKa.out _) _) (Drawn.refl _).drew) hone.out hby.out ((below_al (below_al (Below.refl _ wa) _) _).drew).size (fun v1 w1 ho1 hb1 hg1 hat1 => ?_); have k1 : Below wa.heap.size wa w1 := ((below_al (below_al (Below.refl _ wa) _) _).drew).trans hb1)
          | (refine step_push_one elt51 rfl (.tmp 85) (.tmp 87) rfl rfl (ho1.alloc _) (prow (a1, a1 + a2)) w1.heap.size 58 rfl (heap_alloc_at _ _) rfl (by simp [prow, Value.oneCell']) hby2.out ((k1.alloc k1.size _).size) (fun v2 w2 ho2 hb2 hg2 hat2 => ?_); have k2 : Below wa.heap.size wa w2 := (k1.alloc k1.size _).trans hb2)
          | (refine step_push_one elt51 rfl (.tmp 85) (.tmp 87) rfl rfl (ho1) (prow (a1, a1 + a2)) (wa.heap.size + 1) 58 rfl (row_two hg1 rfl) rfl (by simp [prow, Value.oneCell']) hby2.out (k1.size) (fun v2 w2 ho2 hb2 hg2 hat2 => ?_); have k2 : Below wa.heap.size wa w2 := (k1).trans hb2)
          | (refine step_push_one elt51 rfl (.tmp 85) (.tmp 87) rfl rfl (ho1) (prow (a1, a1 + a2)) wa.heap.size 58 rfl (row_one hg1 rfl) rfl (by simp [prow, Value.oneCell']) hby2.out (k1.size) (fun v2 w2 ho2 hb2 hg2 hat2 => ?_); have k2 : Below wa.heap.size wa w2 := (k1).trans hb2))
      all_goals go_wp2
      all_goals go_meet
      all_goals (case rel =>
        have hO : Own w2 wa.heap.size 58 2 (mo.map prow) v2 := by rw [hmo.out, List.map_append]; exact ho2
        obtain ⟨A', c', hv, hK', hc'⟩ := own_kt hO (Nat.lt_of_lt_of_le hzk.out.2 hPg.out.2.2)
        exact ⟨A', c', hv, hK', hc', k2⟩)
    obtain ⟨Am, cm, rfl, hKm, hmn, dm⟩ := hcut
    obtain ⟨wb, rfl⟩ : ∃ y : World, y = wc := ⟨_, rfl⟩
    replace hmn := Lib.hid hmn
    have hml : mo.length ≤ 41 := by rw [hmo.out, List.length_append]; simp; omega
    have hzb : Hid (w.heap.size ≤ wb.heap.size ∧ g < wb.heap.size) := Lib.hid (by have h1 := hzk.out; have h2 := hPg.out.2.2; have h3 := dm.size; omega)
    have hSb := Lib.hid (hSa.out.below dm)
    have hKb := Lib.hid (hKa.out.below dm)
    have hFb := Lib.hid (hFa.out.below (by have h1 := hzk.out; have h2 := hPg.out.2.2; omega) dm)
    have xPb := Lib.hid ((dm.block _ hPg.out.2.1).trans xP.out)
    have hPl : Hid (P < wb.heap.size) := Lib.hid (heap_lt xPb.out)
    have hPne : Hid (P ≠ g) := Lib.hid hPg.out.1
    replace hKm := Lib.hid hKm
    have hxok : Hid (((a1, a1 + a2) : Pt).1 ≤ ((a1, a1 + a2) : Pt).2) := Lib.hid (by show a1 ≤ a1 + a2; omega)
    have hmok := hW.out.ok' hxok.out
    rw [← hmo.out] at hmok
    have hNn := hN.out
    have hmt := meet_ok hNn (by omega) hmok
    obtain ⟨V, hV⟩ : ∃ V, V = (meet lo hi st mo).1 := ⟨_, rfl⟩
    obtain ⟨E, hE⟩ : ∃ E, E = (meet lo hi st mo).2 := ⟨_, rfl⟩
    have hE2 : E = 0 ∨ E = 191 := by
      rcases hmt with h | h
      · exact Or.inl (hE.trans h.1)
      · exact Or.inr (hE.trans h.1)
    have KM := fun X (d : Below wb.heap.size wb X) => meet_any lo hi st mo Am cm X (hKm.out.below d).pts
    rw [← hV, ← hE] at KM
    have z0 : wb.cell? ⟨Bx, 0, none⟩ = some (.int .i64 lo) := by rw [cell_of_row _ _ 0 _ 49 (0, 0) hFb.out.box]; rfl
    have z1 : wb.cell? ⟨Bx, 1, none⟩ = some (.int .i64 hi) := by rw [cell_of_row _ _ 1 _ 49 (0, 0) hFb.out.box]; rfl
    have z2 : wb.cell? ⟨Bx, 2, none⟩ = some (.int .i64 st) := by rw [cell_of_row _ _ 2 _ 49 (0, 0) hFb.out.box]; rfl
    replace hV := Lib.hid hV
    replace hE := Lib.hid hE
    replace hmok := Lib.hid hmok
    clear dm hSa hKa hFa xP hPg hmt hNn KV
    go_upto_region 16 with (go_at_call 21; (with_reducible refine (KM _ (Below.refl _ _)).mono ?_); rintro e w7 ⟨rfl, d7⟩)
    have hSc := Lib.hid (hSb.out.below d7)
    have hKc := Lib.hid (hKb.out.below d7)
    have hKd := Lib.hid (hKm.out.below d7)
    have hFc := Lib.hid (hFb.out.below hzb.out.1 d7)
    have xPc := Lib.hid ((d7.block _ hPl.out).trans xPb.out)
    have hzc : Hid (w.heap.size ≤ w7.heap.size ∧ g < w7.heap.size) := Lib.hid (by have h1 := hzb.out; have h3 := d7.size; omega)
    have hwf : (Lit.int .i64 (i : Int)).wf = true := wf_small i hi8
    have KA := ask_any hSc.out (i : Int) (a1, a1 + a2) hwf
    obtain ⟨q1, hq⟩ : ∃ q1, q1 = askd lo hi st m v t (i : Int) (a1, a1 + a2) := ⟨_, rfl⟩
    rw [← hq] at KA
    rw [hW.out.ask hi8 hxok.out t, ← hmo.out, ← hV.out, ← hE.out] at hq
    have hqc : q1.c = E := by
      rw [hq]
      split
      · rename_i h; exact h.symm
      · rfl
    have hq0 : Hid (E = 0 → q1.m = m ++ [((i : Int), ((a1, a1 + a2) : Pt))] ∧ q1.v = V) := Lib.hid fun h => by rw [hq, if_pos h]; exact ⟨rfl, rfl⟩
    have hq1 : Hid (E ≠ 0 → q1.m = m ∧ q1.v = v) := Lib.hid fun h => by rw [hq, if_neg h]; exact ⟨rfl, rfl⟩
    rw [hqc] at KA
    clear hqc hq
    replace hwf := Lib.hid hwf
    have z0 : w7.cell? ⟨P, 0, none⟩ = some (.int .i64 a1) := by rw [cell_of_row _ _ 0 _ 58 (0, 0) xPc.out]; rfl
    have z1 : w7.cell? ⟨P, 1, none⟩ = some (.int .i64 (a1 + a2)) := by rw [cell_of_row _ _ 1 _ 58 (0, 0) xPc.out]; rfl
    clear z2 d7 hSb hKb hKm hFb xPb hzb KM
    go_upto_region 17 with (go_at_call 24; (with_reducible refine (KA).mono ?_); rintro e w8 ⟨rfl, f8, b8, hS8, -⟩)
    have hz8 : Hid (w.heap.size ≤ w8.heap.size ∧ g < w8.heap.size) := Lib.hid (by have h1 := hzc.out; have h3 := f8.size; omega)
    have hK8 := Lib.hid (hKc.out.fr f8)
    have hM8 := Lib.hid (hKd.out.fr f8)
    have hF8 := Lib.hid (hFc.out.fr hzc.out.1 f8)
    have x8 := Lib.hid ((f8.k _ (heap_lt xPc.out) hPne.out).trans xPc.out)
    have KV := fun X (d : Below w8.heap.size w8 X) => volts_any (hS8.below d)
    replace hS8 := Lib.hid hS8
    clear z0 z1 hSc hKc hKd hFc xPc hzc KA f8
    go_cut [115] from 99 to 114 (fun x wc => x = .bool false ∧ wc = w8)
    case first =>
      have n1 : (E != E) = false := bne_self_eq_false E
      rcases hE2 with h | h
      · have n2 : (E != 0) = false := by rw [h]; rfl
        replace h := Lib.hid h
        go_wp2
        go_meet
        case rel => exact ⟨rfl, rfl⟩
      · have n2 : (E != 0) = true := by rw [h]; rfl
        have n3 : (E != 191) = false := by rw [h]; rfl
        have hv := (hq1.out (by rw [h]; decide)).2
        rw [hv] at KV
        have n4 : (v != v) = false := bne_self_eq_false v
        replace h := Lib.hid h
        replace hv := Lib.hid hv
        go_wp2_with (go_at_call 26; (with_reducible refine (KV _ (Below.refl _ _)).mono ?_); rintro e w9 ⟨rfl, rfl⟩)
        go_meet
        case rel => exact ⟨rfl, rfl⟩
    obtain ⟨rfl, rfl⟩ := hcut
    obtain ⟨w8, rfl⟩ : ∃ y : World, y = wc := ⟨_, rfl⟩
    go_upto_region 21 with fail
    have hld : Hid ((ladd lo st n).length = n) := Lib.hid (ladd_len _ _ _)
    go_loopw [18, 19] (fun s18 s19 wr => ∃ k : Nat, k ≤ n ∧ s19 = .int .i64 k ∧ s18 = .bool (anyk lo st V mo k) ∧ Drawn w8 wr) (fun _ s19 _ => n - (RowKit.intOf s19).toNat)
    case atStart => exact ⟨0, by omega, rfl, rfl, Drawn.refl _⟩
    case round =>
      obtain ⟨k, hkn, rfl, rfl, hd⟩ := hrel
      obtain ⟨wl, rfl⟩ : ∃ y : World, y = wr := ⟨_, rfl⟩
      by_cases hkl : k = n
      · subst hkl
        have hend := anyk_end hN.out (by omega) hmok.out
        rw [hrn.out, ← hV.out, ← hE.out] at hend
        obtain ⟨ab, hab⟩ : ∃ ab, ab = anyk lo st V mo k := ⟨_, rfl⟩
        rw [← hab] at hend ⊢
        replace hab := Lib.hid hab
        obtain ⟨hS9, hK9, hM9, hF9, x9, hz9⟩ : Hid (St wl g b8 lo hi st q1.m q1.v q1.t) ∧ Hid (Kt g wl Ak kept) ∧ Hid (Kt g wl Am mo) ∧ Hid (Wf w.heap.size g Bx lo hi st (ladd lo st k) AL w wl) ∧ Hid (wl.heap[P]? = some (.cells #[.int .i64 a1, .int .i64 (a1 + a2)] 58)) ∧ Hid (w.heap.size ≤ wl.heap.size ∧ g < wl.heap.size) :=
          ⟨Lib.hid (hS8.out.below (hd.below _)), Lib.hid (hK8.out.below (hd.below _)), Lib.hid (hM8.out.below (hd.below _)), Lib.hid (hF8.out.below hz8.out.1 (hd.below _)), Lib.hid (by rw [hd.heap]; exact x8.out), Lib.hid (by rw [hd.heap]; exact hz8.out)⟩
        clear hd hS8 hK8 hM8 hF8 x8 hz8 KV
        rcases hE2 with h | h
        · subst h
          rw [show decide ((0 : Int) = 0) = true from rfl] at hend
          subst hend
          go_upto_region 34 with fail
          have h0 := hq0.out rfl
          have hS9' := hS9.out
          rw [h0.1, h0.2] at hS9'
          have KD := drop_any hS9' (i : Int) hwf.out
          rw [hW.out.drop] at KD
          have hmo0 : (meet lo hi st (kept ++ [((a1, a1 + a2) : Pt)])).2 = 0 := by rw [← hmo.out]; exact hE.out.symm
          have hmono : ¬ V < v := by
            have q := hW.out.mono hi8 hN.out hlo.out hst.out hxok.out hmo0
            rw [← hmo.out, ← hV.out] at q
            omega
          replace hmo0 := Lib.hid hmo0
          replace hS9' := Lib.hid hS9'
          clear h0
          go_upto_region 35 with (go_at_call 25; (with_reducible refine (KD).mono ?_); rintro e w10 ⟨rfl, f10, b10, hS10, -⟩)
          have hz10 : Hid (w.heap.size ≤ w10.heap.size ∧ g < w10.heap.size) := Lib.hid (by have h1 := hz9.out; have h3 := f10.size; omega)
          have hM10 := Lib.hid (hM9.out.fr f10)
          have hF10 := Lib.hid (hF9.out.fr hz9.out.1 f10)
          have x10 := Lib.hid ((f10.k _ (heap_lt x9.out) hPne.out).trans x9.out)
          have KV := fun X (d : Below w10.heap.size w10 X) => volts_any (hS10.below d)
          replace hS10 := Lib.hid hS10
          clear KD f10 hS9 hS9' hK9 hM9 hF9 x9 hz9
          have n4 : (v != v) = false := bne_self_eq_false v
          go_upto_region 37 with (go_at_call 26; (with_reducible refine (KV _ (Below.refl _ _)).mono ?_); rintro e w9 ⟨rfl, rfl⟩)
          have KA := ask_any hS10.out (i : Int) (a1, a1 + a2) hwf.out
          rw [hW.out.ask hi8 hxok.out, ← hmo.out, ← hV.out, ← hE.out, if_pos rfl] at KA
          have y0 : w10.cell? ⟨P, 0, none⟩ = some (.int .i64 a1) := by rw [cell_of_row _ _ 0 _ 58 (0, 0) x10.out]; rfl
          have y1 : w10.cell? ⟨P, 1, none⟩ = some (.int .i64 (a1 + a2)) := by rw [cell_of_row _ _ 1 _ 58 (0, 0) x10.out]; rfl
          clear KV
          go_upto_region 38 with (go_at_call 24; (with_reducible refine (KA).mono ?_); rintro e w11 ⟨rfl, f11, b11, hS11, -⟩)
          have hM11 := Lib.hid (hM10.out.fr f11)
          have hF11 := Lib.hid (hF10.out.fr hz10.out.1 f11)
          have KV := fun X (d : Below w11.heap.size w11 X) => volts_any (hS11.below d)
          replace hS11 := Lib.hid hS11
          have n5 : (V != V) = false := bne_self_eq_false V
          clear KA f11 hS10 hM10 hF10 x10 hz10 y0 y1
          go_wp2_with (go_at_call 26; (with_reducible refine (KV _ (Below.refl _ _)).mono ?_); rintro e w9 ⟨rfl, rfl⟩)
          go_roundw
          case rel => exact ⟨i + 1, mo, m ++ [((i : Int), ((a1, a1 + a2) : Pt))], V, _, b11, Am, cm, by omega, by omega, by go_num, rfl, Lib.hid (by
            have q := hW.out.go hxok.out hmo0.out
            rw [← hmo.out, ← hV.out] at q
            exact q), hS11, Lib.hid ⟨hM11.out, hmn.out⟩, hF11⟩
          case measure => simp [RowKit.intOf]; omega
        · subst h
          rw [show decide ((191 : Int) = 0) = false from rfl] at hend
          subst hend
          have h191 := hq1.out (by decide)
          go_wp2
          go_roundw
          case rel => exact ⟨i + 1, kept, m, v, q1.t, b8, Ak, ck, by omega, by omega, by go_num, rfl, Lib.hid hW.out.skip, Lib.hid (by have q := hS9.out; rw [h191.1, h191.2] at q; exact q), Lib.hid ⟨hK9.out, hKn.out⟩, hF9⟩
          case measure => simp [RowKit.intOf]; omega
      have hkl' : k < n := by omega
      have hkl2 : (k : Int) < (n : Int) := by omega
      have hladk := fun (X : World) (q : Drawn wl X) => (Sl.drawn hF8.out.lad (hd.trans q)).at_ (k := k) (by rw [List.length_map, hld.out]; exact hkl')
      obtain ⟨r, hr⟩ : ∃ r, r = lo + (k : Int) * st := ⟨_, rfl⟩
      have hrg : (ladd lo st n)[k]'(by rw [hld.out]; exact hkl') = r := by
        have q := ladd_at lo st hkl'
        rw [List.getElem?_eq_getElem (by rw [hld.out]; exact hkl')] at q
        rw [hr]; exact Option.some.inj q
      obtain ⟨bl, ol, rfl, -, hbl, hcl⟩ := hladk wl (Drawn.refl _)
      have hcr : wl.cell? ⟨bl, ol + k, none⟩ = some (.int .i64 r) := by
        have := hcl 0 (.int .i64 r) (by rw [List.getElem_map, hrg]; rfl)
        simpa using this
      replace hr := Lib.hid hr
      have hd8 := Lib.hid hd
      clear hladk hcl hrg
      go_upto_region 25 with fail
      go_loopw [20, 21] (fun s20 s21 wr => ∃ j : Nat, j ≤ mo.length ∧ s21 = .int .i64 j ∧ s20 = .bool (fits (mo.take j) r) ∧ Drawn wl wr) (fun _ s21 _ => mo.length - (RowKit.intOf s21).toNat)
      case atStart => exact ⟨0, by omega, rfl, by rw [List.take_zero]; rfl, Drawn.refl _⟩
      case round =>
        obtain ⟨j, hjm, rfl, rfl, hdj⟩ := hrel
        obtain ⟨wj, rfl⟩ : ∃ y : World, y = wr := ⟨_, rfl⟩
        by_cases hjl : j = mo.length
        · subst hjl
          rw [List.take_length]
          have hri := fun hf => rung_in hN.out (by omega) hmok.out hst.out (k := k) (by rw [hrn.out]; exact hkl') hf
          rw [← hr.out, ← hV.out, ← hE.out] at hri
          have hfk : Hid (fits mo (lo + (k : Int) * st) = fits mo r) := Lib.hid (by rw [← hr.out])
          obtain ⟨fb, hfb⟩ : ∃ fb, fb = fits mo r := ⟨_, rfl⟩
          rw [← hfb] at hri hfk ⊢
          replace hri := Lib.hid hri
          replace hfb := Lib.hid hfb
          have hcj := (hdj.cell ⟨bl, ol + k, none⟩).trans hcr
          have hdj8 := Lib.hid (hd8.out.trans hdj)
          clear hcr hbl hd hdj
          go_upto_region 28 with fail
          go_cut [165] from 153 to 164 (fun x wc => x = .bool false ∧ wc = wj)
          case first =>
            cases fb with
            | false =>
              go_wp2
              go_meet
              case rel => exact ⟨rfl, rfl⟩
            | true =>
              obtain ⟨h1, h2⟩ := hri.out rfl
              have n2 : (E != 0) = false := by rw [h1]; rfl
              have n3 : ¬ r < V := by omega
              replace h1 := Lib.hid h1
              clear h2
              go_wp2
              go_meet
              case rel => exact ⟨rfl, rfl⟩
          obtain ⟨rfl, rfl⟩ := hcut
          obtain ⟨wj, rfl⟩ : ∃ y : World, y = wc := ⟨_, rfl⟩
          have hsu := anyk_succ lo st V mo k
          rw [hfk.out, ← hr.out] at hsu
          obtain ⟨ab, hab⟩ : ∃ ab, ab = anyk lo st V mo k := ⟨_, rfl⟩
          rw [← hab] at hsu ⊢
          replace hsu := Lib.hid hsu
          replace hab := Lib.hid hab
          go_upto_region 30 with fail
          cases ab with
          | true =>
            clear hcj
            go_wp2
            go_roundw
            case rel => exact ⟨k + 1, by omega, by go_num, by rw [hsu.out]; rfl, hdj8.out⟩
            case measure => simp [RowKit.intOf]; omega
          | false =>
            cases fb with
            | false =>
              clear hcj
              go_wp2
              go_roundw
              case rel => exact ⟨k + 1, by omega, by go_num, by rw [hsu.out]; rfl, hdj8.out⟩
              case measure => simp [RowKit.intOf]; omega
            | true =>
              by_cases hrv : r = V
              · have n1 : (r == V) = true := by rw [hrv]; simp
                have n2 := Lib.hid (decide_eq_true hrv)
                replace hrv := Lib.hid hrv
                go_wp2
                go_roundw
                case rel => exact ⟨k + 1, by omega, by go_num, by rw [hsu.out, n2.out]; rfl, hdj8.out⟩
                case measure => simp [RowKit.intOf]; omega
              · have n1 : (r == V) = false := by simp [hrv]
                have n2 := Lib.hid (decide_eq_false hrv)
                replace hrv := Lib.hid hrv
                go_wp2
                go_roundw
                case rel => exact ⟨k + 1, by omega, by go_num, by rw [hsu.out, n2.out]; rfl, hdj8.out⟩
                case measure => simp [RowKit.intOf]; omega
        have hjl' : j < mo.length := by omega
        have hjl2 : (j : Int) < (mo.length : Int) := by omega
        obtain ⟨bm1, om1, rfl, -, x0, x1⟩ := (Pts.at_ (Sl.drawn hM8.out.pts (hd8.out.trans hdj)) hjl')
        have hft := Lib.hid (fits_take mo r hjl')
        generalize mo[j] = xx at *
        obtain ⟨xa, xb⟩ := xx
        simp only at x0 x1
        have hcj := (hdj.cell ⟨bl, ol + k, none⟩).trans hcr
        have hdj8 := Lib.hid hdj
        generalize fits (mo.take j) r = fb at *
        clear hcr hbl hd hdj
        go_upto_region 27 with fail
        cases fb with
        | false =>
          go_big_quiet (fail)
          go_wp2
          go_roundw
          case rel => exact ⟨j + 1, by omega, by go_num, by rw [hft.out]; rfl, hdj8.out.drewN nq⟩
          case measure => simp [RowKit.intOf]; omega
        | true =>
          by_cases h1 : xa ≤ r
          · by_cases h2 : r ≤ xb
            · have n1 := Lib.hid (show decide ((xa, xb).fst ≤ r ∧ r ≤ (xa, xb).snd) = true from decide_eq_true ⟨h1, h2⟩)
              go_big_quiet (fail)
              go_wp2
              go_roundw
              case rel => exact ⟨j + 1, by omega, by go_num, by rw [hft.out, n1.out]; rfl, hdj8.out.drewN nq⟩
              case measure => simp [RowKit.intOf]; omega
            · have n1 := Lib.hid (show decide ((xa, xb).fst ≤ r ∧ r ≤ (xa, xb).snd) = false from decide_eq_false fun q => h2 q.2)
              have n2 := decide_eq_false h2
              go_big_quiet (fail)
              go_wp2
              go_roundw
              case rel => exact ⟨j + 1, by omega, by go_num, by rw [hft.out, n1.out]; rfl, hdj8.out.drewN nq⟩
              case measure => simp [RowKit.intOf]; omega
          · have n1 := Lib.hid (show decide ((xa, xb).fst ≤ r ∧ r ≤ (xa, xb).snd) = false from decide_eq_false fun q => h1 q.1)
            have n2 := decide_eq_false h1
            go_big_quiet (fail)
            go_wp2
            go_roundw
            case rel => exact ⟨j + 1, by omega, by go_num, by rw [hft.out, n1.out]; rfl, hdj8.out.drewN nq⟩
            case measure => simp [RowKit.intOf]; omega
end Go.Proofs.Ytbbjnhajmckjoaa
