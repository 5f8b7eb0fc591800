/- Heat: HeatSettles, walked. -/
import Derived.Test.YtdjdkhbagoideaaSet0
import Derived.Test.YtdjdkhbagoideaaAwk
namespace Go.Proofs.Ytdjdkhbagoideaa
open Go.RowKit Go.BigFrame flt Ieee

theorem mul_bound {d P A B : Int} (h1 : -A ≤ d ∧ d ≤ A) (h2 : 0 ≤ P ∧ P ≤ B) (hA : 0 ≤ A) : -(A * B) ≤ d * P ∧ d * P ≤ A * B := by
  have e1 : d * P ≤ A * P := Int.mul_le_mul_of_nonneg_right h1.2 h2.1
  have e2 : A * P ≤ A * B := Int.mul_le_mul_of_nonneg_left h2.2 hA
  have e3 : -A * P ≤ d * P := Int.mul_le_mul_of_nonneg_right h1.1 h2.1
  rw [Int.neg_mul] at e3
  omega
theorem fin_rung {x : Nat} (h : rung x < double.infRung) : fin x := by
  obtain ⟨m, e, hr, _⟩ := read_fin h
  exact ⟨_, _, _, hr⟩
theorem rem20 (N : Int) : ∃ n : Nat, n ≤ 19 ∧ ((N.tmod 20 + 20).tmod 20) = (n : Int) := by
  have h1 := Int.tmod_lt_of_pos N (show (0 : Int) < 20 by decide)
  have h2 : -20 < N.tmod 20 := by
    have := Int.lt_tmod_of_pos N (show (0 : Int) < 20 by decide)
    omega
  have h3 : 0 ≤ (N.tmod 20 + 20).tmod 20 := Int.tmod_nonneg _ (by omega)
  have h4 := Int.tmod_lt_of_pos (N.tmod 20 + 20) (show (0 : Int) < 20 by decide)
  exact ⟨((N.tmod 20 + 20).tmod 20).toNat, by omega, by omega⟩
set_option maxHeartbeats 8000000 in
set_option maxRecDepth 100000 in
theorem settles_walk (a t b N : Int) (ha : -32768 ≤ a ∧ a ≤ 32767) (ht : -32768 ≤ t ∧ t ≤ 32767) (hb : 0 ≤ b ∧ b ≤ 255) (W : World) :
    Calls Try.prog 3 #[.agg #[.int .i16 a, .int .i16 t, .int .u8 b, .int .i64 N]] W fun e w' => e = .returned (.bool true) ∧ Below W.heap.size W w' := by
  have hbt : Bt 0 1000000 (floatOfInt .f64 b) := (int_bt b (by omega)).mono (by omega) (by omega)
  have hok := zset_ok hbt
  have hZ := okZ_zok hok
  have KA := awake_any
  obtain ⟨fb, hfb⟩ : ∃ x, floatOfInt .f64 b = x := ⟨_, rfl⟩
  obtain ⟨n, hn19, hnq⟩ := rem20 N
  rw [hfb] at hbt hok hZ
  go_enter Try.func3, Try.ntmps3
  go_upto_region 4 with (refine wpList_store_row rfl 30 _ _ rfl (W.heap.size + 2) #[.float .f64 4602678819172646912, .float .f64 0, .float .f64 4607182418800017408, .float .f64 0, .float .f64 0, .int .i64 5, .slice (some ⟨W.heap.size + 1, 0, none⟩) 1 1] rfl rfl 30 _ (heap_alloc_at' _ _ _ (by rw [size_al, size_al])) (by kernel_rfl) (by kernel_rfl) (by kernel_rfl) ?_)
  (try rw [setRow_alloc _ _ _ _ _ (by rw [size_al, size_al])])
  (try simp only [Act.put])
  have hx1 : (((W.alloc (.cells #[.int .i16 a, .int .i16 t, .int .u8 b, .int .i64 N] 24)).alloc (.cells #[.float .f64 4632233691727265792, .float .f64 fb, .int .u8 1] 27)).alloc (.cells #[.float .f64 4602678819172646912, .float .f64 0, .float .f64 4607182418800017408, .float .f64 0, .float .f64 0, .int .i64 5, .slice (some ⟨W.heap.size + 1, 0, none⟩) 1 1] 30)).heap[W.heap.size]? = some (.cells #[.int .i16 a, .int .i16 t, .int .u8 b, .int .i64 N] 24) := heap_alloc (heap_alloc (heap_alloc_at _ _))
  have hx2 : (((W.alloc (.cells #[.int .i16 a, .int .i16 t, .int .u8 b, .int .i64 N] 24)).alloc (.cells #[.float .f64 4632233691727265792, .float .f64 fb, .int .u8 1] 27)).alloc (.cells #[.float .f64 4602678819172646912, .float .f64 0, .float .f64 4607182418800017408, .float .f64 0, .float .f64 0, .int .i64 5, .slice (some ⟨W.heap.size + 1, 0, none⟩) 1 1] 30)).heap[W.heap.size + 1]? = some (.cells #[.float .f64 4632233691727265792, .float .f64 fb, .int .u8 1] 27) := heap_alloc (heap_alloc_at' _ _ _ (by rw [size_al]))
  have hx3 : (((W.alloc (.cells #[.int .i16 a, .int .i16 t, .int .u8 b, .int .i64 N] 24)).alloc (.cells #[.float .f64 4632233691727265792, .float .f64 fb, .int .u8 1] 27)).alloc (.cells #[.float .f64 4602678819172646912, .float .f64 0, .float .f64 4607182418800017408, .float .f64 0, .float .f64 0, .int .i64 5, .slice (some ⟨W.heap.size + 1, 0, none⟩) 1 1] 30)).heap[W.heap.size + 2]? = some (.cells #[.float .f64 4602678819172646912, .float .f64 0, .float .f64 4607182418800017408, .float .f64 0, .float .f64 0, .int .i64 5, .slice (some ⟨W.heap.size + 1, 0, none⟩) 1 1] 30) := heap_alloc_at' _ _ _ (by rw [size_al, size_al])
  have hbw : Below W.heap.size W (((W.alloc (.cells #[.int .i16 a, .int .i16 t, .int .u8 b, .int .i64 N] 24)).alloc (.cells #[.float .f64 4632233691727265792, .float .f64 fb, .int .u8 1] 27)).alloc (.cells #[.float .f64 4602678819172646912, .float .f64 0, .float .f64 4607182418800017408, .float .f64 0, .float .f64 0, .int .i64 5, .slice (some ⟨W.heap.size + 1, 0, none⟩) 1 1] 30)) := below_al (below_al (below_al (Below.refl _ _) _) _) _
  generalize ((W.alloc _).alloc _).alloc _ = w1 at *
  have KN := new_yes (zset fb) (some ⟨W.heap.size + 1, 0, none⟩) 1 1 w1 (tps_one (t := ⟨fifty, fb, 1⟩) hx2) rfl hok
  simp only [zarr, zset, half] at KN
  have hl1 := heap_lt hx1
  go_upto_region 7 with (first
    | (refine wpList_load_row rfl 30 _ rfl (W.heap.size + 2) rfl 30 _ (0, 0) _ hx3 Try.underlying30 rfl (by kernel_rfl) ?_)
    | (go_at_call 7; (with_reducible refine (KN).mono ?_); rintro e w2 ⟨g, v, vo, rfl, hW2, hb2⟩))
  have hW2' : Wt w2 w1.heap.size g (zset fb) v vo (hs0 1) := hW2
  have hxb := (hb2.block _ hl1).trans hx1
  have y3 : w2.cell? ⟨W.heap.size, 3, none⟩ = some (.int .i64 N) := by rw [cell_of_row _ _ 3 _ 24 (0, 0) hxb]; rfl
  have hbw2 := hbw.trans (hb2.mono hbw.size)
  have hgw : W.heap.size ≤ g := Nat.le_trans hbw.size hW2.hB
  have hvw : ∀ q, vo.ownBlock = some q → W.heap.size ≤ q := fun q e => Nat.le_trans hbw.size (hW2.on.lt q e).1
  replace hgw := Lib.hid hgw
  replace hvw := Lib.hid hvw
  have hok0 : Hok (zset fb) (hs0 1) := hok0 (zset fb) hZ
  clear KN hx1 hx2 hx3 hbw hW2 hb2 hxb hl1
  have hwr : wrap64 (N.tmod 20 + 20) = N.tmod 20 + 20 := by
    have h1 := Int.tmod_lt_of_pos N (show (0 : Int) < 20 by decide)
    have h2 := Int.lt_tmod_of_pos N (show (0 : Int) < 20 by decide)
    unfold wrap64
    omega
  have hnv : Hid ((wrap64 (N.tmod 20 + 20)).tmod 20 = (n : Int)) := Lib.hid (by rw [hwr]; exact hnq)
  clear hnq hwr
  go_cut [8] from 33 to 37 (fun q wc => q = .int .i64 n ∧ wc = w2)
  case first =>
    go_wp2
    go_meet
    case rel => exact ⟨by rw [hnv.out], rfl⟩
  obtain ⟨rfl, rfl⟩ := hcut
  clear y3 hnv
  obtain ⟨B, hB⟩ : ∃ B, w1.heap.size = B := ⟨_, rfl⟩
  rw [hB] at hW2'
  clear hB
  have hia := int_val a (by omega)
  have hit := int_val t (by omega)
  have hga := one_good ha
  obtain ⟨fa, hfa⟩ : ∃ x, floatOfInt .f64 a = x := ⟨_, rfl⟩
  have hTG := fun (s : Hs) (hs : s.sh = false) => told_good (Z := zset fb) (s := s) ha hs
  have hSF := sp_first fb a ha 4607182418800017408
  have hSS := fun (s : Hs) (h : Sp fb s (a * 1048576) (decide (50 ≤ a))) => sp_same hbt ha h 4607182418800017408
  rw [hfa] at hTG hSF hSS hia
  replace hTG := Lib.hid hTG
  replace hSS := Lib.hid hSS
  replace hSF := Lib.hid hSF
  go_upto_region 9 with fail
  go_loopw [9] (fun s9 wr => ∃ (i : Nat) (s : Hs), i ≤ n + 1 ∧ s9 = .int .i64 i ∧ ((i = 0 ∧ s = hs0 1) ∨ (0 < i ∧ Sp fb s (a * 1048576) (decide (50 ≤ a)))) ∧ Hok (zset fb) s ∧ Wt wr B g (zset fb) v vo s ∧ Below W.heap.size W wr) (fun s9 _ => n + 1 - (intOf s9).toNat)
  case atStart => exact ⟨0, hs0 1, by omega, rfl, Or.inl ⟨rfl, rfl⟩, hok0, hW2', hbw2⟩
  case round =>
    clear hok0 hW2' hbw2
    obtain ⟨i, s, hi, rfl, hst, hsk, hW, hbw⟩ := hrel
    obtain ⟨wk, rfl⟩ : ∃ x : World, x = wr := ⟨_, rfl⟩
    by_cases hin : i = n + 1
    case neg =>
      have hile : (i : Int) ≤ (n : Int) := by omega
      have hsh : s.sh = false := by
        rcases hst with ⟨_, rfl⟩ | ⟨_, h⟩
        · rfl
        · exact h.sh
      obtain ⟨q1, q2, q3⟩ := hTG.out s hsh
      have K := step_any hW hZ hsk fa 4607182418800017408
      have hsk' := nxt_ok hZ hsk fa 4607182418800017408
      rw [q1, q2, q3] at K
      rw [q2] at hsk'
      simp only [sarr] at K
      have hSp : Sp fb (stepd (zset fb) s fa 4607182418800017408) (a * 1048576) (decide (50 ≤ a)) := by
        rcases hst with ⟨_, rfl⟩ | ⟨_, h⟩
        · exact hSF.out
        · exact hSS.out s h
      have hev : (evs 0 s.on (stepd (zset fb) s fa 4607182418800017408).on).length = if i = 0 ∧ 50 ≤ a then 1 else 0 := by
        rw [hSp.o]
        rcases hst with ⟨rfl, rfl⟩ | ⟨h0, h⟩
        · show (evs 0 [false] [decide (50 ≤ a)]).length = _
          by_cases k : 50 ≤ a <;> simp [evs, k]
        · rw [h.o]
          have : ¬ i = 0 := by omega
          simp [evs, this]
      have hdeg := eq_of_val hSp.r hia.1 (by rw [hSp.v, hia.2, grid_of])
      obtain ⟨T, hT⟩ : ∃ T, stepd (zset fb) s fa 4607182418800017408 = T := ⟨_, rfl⟩
      rw [hT] at K hsk' hSp hev hdeg
      generalize evs 0 s.on T.on = ev at *
      obtain ⟨th, hth⟩ : ∃ x, T.h = x := ⟨_, rfl⟩
      obtain ⟨tl, htl⟩ : ∃ x, T.lv = x := ⟨_, rfl⟩
      obtain ⟨ts, hts⟩ : ∃ x, T.sh = x := ⟨_, rfl⟩
      rw [hth] at K hdeg
      rw [htl, hts] at K
      replace hSp := Lib.hid hSp
      replace hsk' := Lib.hid hsk'
      have hbf := Lib.hid fun (X : World) (q : Fr wk.heap.size (fun b => b = g ∨ vo.ownBlock = some b) wk X) => hbw.trans (q.below hbw.size (fun b e => by
        rcases e with e | e
        · subst e; exact hgw.out
        · exact hvw.out b e))
      clear hst hTG hSS hSF q1 q2 q3 hT hth htl hts hsk hW hin hbw hsh
      by_cases h0 : i = 0
      · by_cases h50 : 50 ≤ a
        · subst h0; rw [if_pos ⟨rfl, h50⟩] at hev
          go_upto_region 12 with (first
            | (go_at_call 8; (with_reducible refine (K).mono ?_); rintro e w3 ⟨tv, rfl, ho, hW3, hF3⟩; obtain ⟨tA, tc, rfl, -⟩ := ho.sl; rw [List.length_map, hev] at ho ⊢)
            | (refine wpList_store_row rfl 37 _ _ rfl w3.heap.size #[.float .f64 th, .bool false, .int .i64 tl, .bool ts, .slice tA 1 tc] rfl rfl 37 _ (heap_alloc_at _ _) (by kernel_rfl) (by kernel_rfl) (by kernel_rfl) ?_))
          (try rw [setRow_alloc _ _ _ _ _ rfl])
          (try simp only [Act.put])
          have hx := heap_alloc_at w3 (.cells #[.float .f64 th, .bool false, .int .i64 tl, .bool ts, .slice tA 1 tc] 37)
          have hW4 := hW3.below (below_al (Below.refl _ _) (.cells #[.float .f64 th, .bool false, .int .i64 tl, .bool ts, .slice tA 1 tc] 37))
          have hb4 := below_al (hbf.out _ hF3) (.cells #[.float .f64 th, .bool false, .int .i64 tl, .bool ts, .slice tA 1 tc] 37)
          generalize w3.alloc (.cells #[.float .f64 th, .bool false, .int .i64 tl, .bool ts, .slice tA 1 tc] 37) = w4 at *
          have d0 : w4.cell? ⟨w3.heap.size, 0, none⟩ = some (.float .f64 th) := by rw [cell_of_row _ _ 0 _ 37 (0, 0) hx]; rfl
          have d4 : w4.cell? ⟨w3.heap.size, 4, none⟩ = some (.slice tA 1 tc) := by rw [cell_of_row _ _ 4 _ 37 (0, 0) hx]; rfl
          clear K hx ho hW3 hF3 hbf
          go_wp2
          go_roundw
          case rel => exact ⟨1, T, by omega, by go_num, Or.inr ⟨by omega, hSp.out⟩, hsk'.out, hW4, hb4⟩
          case measure => first | (simp [intOf]; done) | (simp [intOf]; omega)
        · subst h0; rw [if_neg (fun q => h50 q.2)] at hev
          go_upto_region 12 with (first
            | (go_at_call 8; (with_reducible refine (K).mono ?_); rintro e w3 ⟨tv, rfl, ho, hW3, hF3⟩; obtain ⟨tA, tc, rfl, -⟩ := ho.sl; rw [List.length_map, hev] at ho ⊢)
            | (refine wpList_store_row rfl 37 _ _ rfl w3.heap.size #[.float .f64 th, .bool false, .int .i64 tl, .bool ts, .slice tA 0 tc] rfl rfl 37 _ (heap_alloc_at _ _) (by kernel_rfl) (by kernel_rfl) (by kernel_rfl) ?_))
          (try rw [setRow_alloc _ _ _ _ _ rfl])
          (try simp only [Act.put])
          have hx := heap_alloc_at w3 (.cells #[.float .f64 th, .bool false, .int .i64 tl, .bool ts, .slice tA 0 tc] 37)
          have hW4 := hW3.below (below_al (Below.refl _ _) (.cells #[.float .f64 th, .bool false, .int .i64 tl, .bool ts, .slice tA 0 tc] 37))
          have hb4 := below_al (hbf.out _ hF3) (.cells #[.float .f64 th, .bool false, .int .i64 tl, .bool ts, .slice tA 0 tc] 37)
          generalize w3.alloc (.cells #[.float .f64 th, .bool false, .int .i64 tl, .bool ts, .slice tA 0 tc] 37) = w4 at *
          have d0 : w4.cell? ⟨w3.heap.size, 0, none⟩ = some (.float .f64 th) := by rw [cell_of_row _ _ 0 _ 37 (0, 0) hx]; rfl
          have d4 : w4.cell? ⟨w3.heap.size, 4, none⟩ = some (.slice tA 0 tc) := by rw [cell_of_row _ _ 4 _ 37 (0, 0) hx]; rfl
          clear K hx ho hW3 hF3 hbf
          go_wp2
          go_roundw
          case rel => exact ⟨1, T, by omega, by go_num, Or.inr ⟨by omega, hSp.out⟩, hsk'.out, hW4, hb4⟩
          case measure => first | (simp [intOf]; done) | (simp [intOf]; omega)
      · rw [if_neg (fun q => h0 q.1)] at hev; have h0' : ((i : Int) == 0) = false := (by have : ¬ (i : Int) = 0 := (by omega); simpa using this)
        go_upto_region 12 with (first
          | (go_at_call 8; (with_reducible refine (K).mono ?_); rintro e w3 ⟨tv, rfl, ho, hW3, hF3⟩; obtain ⟨tA, tc, rfl, -⟩ := ho.sl; rw [List.length_map, hev] at ho ⊢)
          | (refine wpList_store_row rfl 37 _ _ rfl w3.heap.size #[.float .f64 th, .bool false, .int .i64 tl, .bool ts, .slice tA 0 tc] rfl rfl 37 _ (heap_alloc_at _ _) (by kernel_rfl) (by kernel_rfl) (by kernel_rfl) ?_))
        (try rw [setRow_alloc _ _ _ _ _ rfl])
        (try simp only [Act.put])
        have hx := heap_alloc_at w3 (.cells #[.float .f64 th, .bool false, .int .i64 tl, .bool ts, .slice tA 0 tc] 37)
        have hW4 := hW3.below (below_al (Below.refl _ _) (.cells #[.float .f64 th, .bool false, .int .i64 tl, .bool ts, .slice tA 0 tc] 37))
        have hb4 := below_al (hbf.out _ hF3) (.cells #[.float .f64 th, .bool false, .int .i64 tl, .bool ts, .slice tA 0 tc] 37)
        generalize w3.alloc (.cells #[.float .f64 th, .bool false, .int .i64 tl, .bool ts, .slice tA 0 tc] 37) = w4 at *
        have d0 : w4.cell? ⟨w3.heap.size, 0, none⟩ = some (.float .f64 th) := by rw [cell_of_row _ _ 0 _ 37 (0, 0) hx]; rfl
        have d4 : w4.cell? ⟨w3.heap.size, 4, none⟩ = some (.slice tA 0 tc) := by rw [cell_of_row _ _ 4 _ 37 (0, 0) hx]; rfl
        clear K hx ho hW3 hF3 hbf
        go_wp2
        go_roundw
        case rel => exact ⟨i + 1, T, by omega, by go_num, Or.inr ⟨by omega, hSp.out⟩, hsk'.out, hW4, hb4⟩
        case measure => first | (simp [intOf]; done) | (simp [intOf]; omega)
    have hSp0 : Sp fb s (a * 1048576) (decide (50 ≤ a)) := by
      rcases hst with ⟨h, _⟩ | ⟨_, h⟩
      · omega
      · exact h
    have hni : ¬ (i : Int) ≤ (n : Int) := by omega
    clear hst hTG hSS hSF hga hi hin
    have hgt := one_good ht
    have hTG := fun (s : Hs) (hs : s.sh = false) => told_good (Z := zset fb) (s := s) ht hs
    obtain ⟨ft, hft⟩ : ∃ x, floatOfInt .f64 t = x := ⟨_, rfl⟩
    rw [hft] at hTG hit
    replace hTG := Lib.hid hTG
    obtain ⟨z0, zf0, zv0⟩ := grid ((a - t) * 1048576) (by omega)
    have hg0 := sub_exact hia.1 hit.1 zf0 (by rw [hia.2, hit.2, zv0, grid_of, grid_of, ← Int.sub_mul]; congr 1; omega)
    have r0 := fun W => run_float_arith (P := Try.prog) W .sub 25 .f64 _ _ _ (fsub_spec hia.1 hit.1).1
    rw [zv0] at hg0
    generalize fsub fa ft = g0 at *
    clear zf0 zv0
    have hS1 : Sp fb s (t * 1048576 + (a - t) * ((2 ^ (20 - 0) : Nat) : Int)) (decide (50 ≤ a)) := by
      have e : t * 1048576 + (a - t) * ((2 ^ (20 - 0) : Nat) : Int) = a * 1048576 := by
        show t * 1048576 + (a - t) * (1048576 : Int) = a * 1048576
        omega
      rw [e]; exact hSp0
    clear hSp0
    go_upto_region 16 with fail
    clear r0
    go_loopw [13, 12] (fun s13 s12 wr => ∃ (j : Nat) (s : Hs) (gp : Nat) (on : Bool), j ≤ n ∧ s13 = .int .i64 j ∧ s12 = .float .f64 gp ∧ rung gp < double.infRung ∧ val gp = ((a - t) * ((2 ^ (20 - j) : Nat) : Int)) * (G : Int) ∧ Sp fb s (t * 1048576 + (a - t) * ((2 ^ (20 - j) : Nat) : Int)) on ∧ Hok (zset fb) s ∧ Wt wr B g (zset fb) v vo s ∧ Below W.heap.size W wr) (fun s13 _ _ => n - (intOf s13).toNat)
    case atStart => exact ⟨0, s, g0, _, by omega, rfl, rfl, hg0.1, hg0.2, hS1, hsk, hW, hbw⟩
    case round =>
      clear hg0 hS1 hsk hW hbw
      obtain ⟨j, s, gp, on, hj, rfl, rfl, hgf, hgv, hSp, hsk, hW, hbw⟩ := hrel
      obtain ⟨wk, rfl⟩ : ∃ x : World, x = wr := ⟨_, rfl⟩
      by_cases hjn : j = n
      · subst hjn
        have KAw := KA wk
        replace hbw := Lib.hid hbw
        clear hW hSp hsk hgv hgf hTG
        go_wp2_with (go_at_call 9; (with_reducible refine (KAw).mono ?_); rintro e w9 ⟨rfl, hb9⟩)
        go_ret
        exact ⟨rfl, hbw.out.trans (hb9.mono hbw.out.size)⟩
      · have hlt : j < n := by omega
        obtain ⟨P, hP⟩ : ∃ P : Nat, 2 ^ (20 - (j + 1)) = P := ⟨_, rfl⟩
        have hP2 : 2 ^ (20 - j) = 2 * P := by
          rw [← hP, show 20 - j = (20 - (j + 1)) + 1 by omega, Nat.pow_succ]; omega
        have hPb : P ≤ 524288 := by
          rw [← hP]
          exact Nat.le_trans (Nat.pow_le_pow_right (by decide) (show 20 - (j + 1) ≤ 19 by omega)) (by decide)
        have hmb := mul_bound (d := a - t) (P := (P : Int)) (A := 65535) (B := 524288) (by omega) (by omega) (by decide)
        rw [hP2] at hgv hSp
        have e2 : (a - t) * ((2 * P : Nat) : Int) = 2 * ((a - t) * (P : Int)) := by
          rw [Int.natCast_mul, Int.mul_left_comm]; rfl
        rw [e2] at hgv hSp
        obtain ⟨q, hq⟩ : ∃ q, (a - t) * (P : Int) = q := ⟨_, rfl⟩
        rw [hq] at hgv hSp hmb
        obtain ⟨q1, q2, q3⟩ := hTG.out s hSp.sh
        have K := step_any hW hZ hsk ft 4607182418800017408
        have hsk' := nxt_ok hZ hsk ft 4607182418800017408
        rw [q1, q2, q3] at K
        rw [q2] at hsk'
        simp only [sarr] at K
        have hS2 := sp_next (c := -q) hSp 4607182418800017408 hit.1 (by rw [hit.2, grid_of]; congr 1; omega) (by omega) (by omega)
        have eN : t * 1048576 + 2 * q + -q = t * 1048576 + q := by omega
        rw [eN] at hS2
        obtain ⟨z1, zf1, zv1⟩ := grid q (by omega)
        obtain ⟨d1, d2, d3⟩ := div2_exact hgf zf1 (by rw [hgv, zv1, Int.mul_assoc])
        obtain ⟨z2, zf2, zv2⟩ := grid (t * 1048576 + q) (by omega)
        obtain ⟨a1, a2⟩ := add_exact hit.1 d2 zf2 (by rw [hit.2, d3, zv1, zv2, grid_of, ← Int.add_mul])
        have a0 := (add_some (nn_of_rung hit.1) (fin_rung d2)).1
        have r2 := fun W => run_float_arith (P := Try.prog) W .quo 25 .f64 _ _ _ d1
        have r3 := fun W => run_float_arith (P := Try.prog) W .add 25 .f64 _ _ _ a0
        have hdeg := eq_of_val hS2.r a1 (by rw [hS2.v, a2, zv2])
        have hg2 : val (fdiv gp 4611686018427387904) = q * (G : Int) := by rw [d3, zv1]
        obtain ⟨T, hT⟩ : ∃ T, stepd (zset fb) s ft 4607182418800017408 = T := ⟨_, rfl⟩
        rw [hT] at K hsk' hS2 hdeg
        generalize evs 0 s.on T.on = ev at *
        obtain ⟨ne, hne⟩ : ∃ n, ev.length = n := ⟨_, rfl⟩
        obtain ⟨th, hth⟩ : ∃ x, T.h = x := ⟨_, rfl⟩
        obtain ⟨tl, htl⟩ : ∃ x, T.lv = x := ⟨_, rfl⟩
        obtain ⟨ts, hts⟩ : ∃ x, T.sh = x := ⟨_, rfl⟩
        rw [hth] at K hdeg
        rw [htl, hts] at K
        generalize fdiv gp 4611686018427387904 = gq at *
        generalize fadd ft gq = sm at *
        replace hS2 := Lib.hid hS2
        replace hsk' := Lib.hid hsk'
        replace hg2 := Lib.hid hg2
        have hqq : Hid ((a - t) * ((2 ^ (20 - (j + 1)) : Nat) : Int) = q) := Lib.hid (by rw [hP]; exact hq)
        have hbf := Lib.hid fun (X : World) (q : Fr wk.heap.size (fun b => b = g ∨ vo.ownBlock = some b) wk X) => hbw.trans (q.below hbw.size (fun b e => by
          rcases e with e | e
          · subst e; exact hgw.out
          · exact hvw.out b e))
        have hd2 := Lib.hid d2
        clear hTG q1 q2 q3 hT hth htl hts hsk hW hjn hbw hSp hgv hgf d1 d2 d3 zf1 zv1 zf2 zv2 a0 a1 a2 hmb e2 hq hP hP2 hPb eN
        go_upto_region 19 with (first
          | (go_at_call 8; (with_reducible refine (K).mono ?_); rintro e w3 ⟨tv, rfl, ho, hW3, hF3⟩; obtain ⟨tA, tc, rfl, -⟩ := ho.sl; rw [List.length_map, hne] at ho ⊢)
          | (refine wpList_store_row rfl 37 _ _ rfl w3.heap.size #[.float .f64 th, .bool false, .int .i64 tl, .bool ts, .slice tA ne tc] rfl rfl 37 _ (heap_alloc_at _ _) (by kernel_rfl) (by kernel_rfl) (by kernel_rfl) ?_))
        (try rw [setRow_alloc _ _ _ _ _ rfl])
        (try simp only [Act.put])
        have hx := heap_alloc_at w3 (.cells #[.float .f64 th, .bool false, .int .i64 tl, .bool ts, .slice tA ne tc] 37)
        have hW4 := hW3.below (below_al (Below.refl _ _) (.cells #[.float .f64 th, .bool false, .int .i64 tl, .bool ts, .slice tA ne tc] 37))
        have hb4 := below_al (hbf.out _ hF3) (.cells #[.float .f64 th, .bool false, .int .i64 tl, .bool ts, .slice tA ne tc] 37)
        generalize w3.alloc (.cells #[.float .f64 th, .bool false, .int .i64 tl, .bool ts, .slice tA ne tc] 37) = w4 at *
        have d0 : w4.cell? ⟨w3.heap.size, 0, none⟩ = some (.float .f64 th) := by rw [cell_of_row _ _ 0 _ 37 (0, 0) hx]; rfl
        clear K hx ho hW3 hF3 hbf
        go_wp2
        go_roundw
        case rel => exact ⟨j + 1, T, gq, _, by omega, by go_num, rfl, hd2.out, by rw [hqq.out]; exact hg2.out, by rw [hqq.out]; exact hS2.out, hsk'.out, hW4, hb4⟩
        case measure => first | (simp [intOf]; done) | (simp [intOf]; omega)
end Go.Proofs.Ytdjdkhbagoideaa
