/- Rails: RailsSets, walked. -/
import Derived.Test.YtbbjnhajmckjoaaPrs
import Derived.Test.YtbbjnhajmckjoaaOpen4
namespace Go.Proofs.Ytbbjnhajmckjoaa
open Go.RowKit Go.BigFrame Go.Maps

/-- what a round keeps: the two rows of sets, the step's box -/
structure Kp (w0 : World) (H P ga gb : Nat) (who by_ slo shi : Int) (dr : Bool) (X : World) : Prop where
  a : X.heap[H]? = some (.cells #[.pointer (some ⟨ga, 0, none⟩), .pointer (some ⟨gb, 0, none⟩), .pointer none] 61)
  b : X.heap[H + 1 + 1 + 1]? = some (.cells #[.pointer (some ⟨H + 1, 0, none⟩), .pointer (some ⟨H + 1 + 1, 0, none⟩)] 65)
  c : X.heap[P]? = some (.cells #[.int .i64 who, .bool dr, .int .i64 by_, .int .i64 slo, .int .i64 shi] 71)
  n : H + 4 ≤ X.heap.size
  d : Below w0.heap.size w0 X
theorem Kp.fr {w0 : World} {H P ga gb : Nat} {who by_ slo shi : Int} {dr : Bool} {X Y : World} {S : Nat → Prop} (h : Kp w0 H P ga gb who by_ slo shi dr X) (f : Fr X.heap.size S X Y) (h1 : ¬ S H) (h2 : ¬ S (H + 1 + 1 + 1)) (h3 : ¬ S P) (h4 : ∀ b, S b → w0.heap.size ≤ b) : Kp w0 H P ga gb who by_ slo shi dr Y :=
  ⟨(f.k _ (heap_lt h.a) h1).trans h.a, (f.k _ (heap_lt h.b) h2).trans h.b, (f.k _ (heap_lt h.c) h3).trans h.c, Nat.le_trans h.n f.size, h.d.trans (f.below h.d.size h4)⟩
theorem Kp.below {w0 : World} {H P ga gb : Nat} {who by_ slo shi : Int} {dr : Bool} {X Y : World} (h : Kp w0 H P ga gb who by_ slo shi dr X) (d : Below X.heap.size X Y) : Kp w0 H P ga gb who by_ slo shi dr Y :=
  h.fr (S := fun _ => False) (Fr.of d) id id id fun _ q => q.elim
theorem upd_upd {α : Type} (i : Bool) (x y : α) (f : Bool → α) : upd i x (upd i y f) = upd i x f := by
  funext j
  unfold upd
  split <;> rfl
set_option maxHeartbeats 16000000 in
set_option maxRecDepth 100000 in
theorem sets_no (lo hi st : Int) (hN : rn lo hi st = 0) (n : Nat) (A : Option Addr) (c : Nat) (w : World) :
    Calls Try.prog 5 #[.agg #[.int .i64 lo, .int .i64 hi, .int .i64 st], .slice A n c] w fun e w' => e = .returned (.bool true) ∧ Below w.heap.size w w' := by
  have KN := fun X => new_no hN X
  have KL := fun X => rladder_any lo hi st X
  rw [hN] at KL
  have hx := heap_alloc_at w (.cells #[.int .i64 lo, .int .i64 hi, .int .i64 st] 45)
  have hb0 := below_al (Below.refl w.heap.size w) (.cells #[.int .i64 lo, .int .i64 hi, .int .i64 st] 45)
  have y0 : (w.alloc (.cells #[.int .i64 lo, .int .i64 hi, .int .i64 st] 45)).cell? ⟨w.heap.size, 0, none⟩ = some (.int .i64 lo) := by rw [cell_of_row _ _ 0 _ 45 (0, 0) hx]; rfl
  have y1 : (w.alloc (.cells #[.int .i64 lo, .int .i64 hi, .int .i64 st] 45)).cell? ⟨w.heap.size, 1, none⟩ = some (.int .i64 hi) := by rw [cell_of_row _ _ 1 _ 45 (0, 0) hx]; rfl
  have y2 : (w.alloc (.cells #[.int .i64 lo, .int .i64 hi, .int .i64 st] 45)).cell? ⟨w.heap.size, 2, none⟩ = some (.int .i64 st) := by rw [cell_of_row _ _ 2 _ 45 (0, 0) hx]; rfl
  have hw0 := Lib.hid (size_al w (.cells #[.int .i64 lo, .int .i64 hi, .int .i64 st] 45))
  have hlt : w.heap.size < (w.alloc (.cells #[.int .i64 lo, .int .i64 hi, .int .i64 st] 45)).heap.size := heap_lt hx
  clear hx hN
  go_enter Try.func5, Try.ntmps5
  go_upto_region 1 with fail
  generalize w.alloc (.cells #[.int .i64 lo, .int .i64 hi, .int .i64 st] 45) = w0 at *
  go_upto_region 2 with (go_at_call 23; (with_reducible refine (KN _).mono ?_); rintro e w1 ⟨rfl, b1⟩)
  have z0 := (b1.cell (p := ⟨w.heap.size, 0, none⟩) hlt).trans y0
  have z1 := (b1.cell (p := ⟨w.heap.size, 1, none⟩) hlt).trans y1
  have z2 := (b1.cell (p := ⟨w.heap.size, 2, none⟩) hlt).trans y2
  have k1 := hb0.trans (b1.mono hb0.size)
  have hlt1 := Nat.lt_of_lt_of_le hlt b1.size
  clear y0 y1 y2 b1 hb0 hlt
  go_upto_region 3 with (go_at_call 23; (with_reducible refine (KN _).mono ?_); rintro e w2 ⟨rfl, b2⟩)
  have y0 := (b2.cell (p := ⟨w.heap.size, 0, none⟩) hlt1).trans z0
  have y1 := (b2.cell (p := ⟨w.heap.size, 1, none⟩) hlt1).trans z1
  have y2 := (b2.cell (p := ⟨w.heap.size, 2, none⟩) hlt1).trans z2
  have k2 := k1.trans (b2.mono k1.size)
  clear z0 z1 z2 b2 k1 hlt1
  replace k2 := Lib.hid k2
  go_wp2_with (go_at_call 19; (with_reducible refine (KL _).mono ?_); rintro e w3 ⟨v3, rfl, -, b3⟩)
  go_ret
  exact ⟨rfl, k2.out.trans (b3.mono k2.out.size)⟩
set_option maxHeartbeats 16000000 in
set_option maxRecDepth 100000 in
theorem sets_yes (lo hi st : Int) (hN : rn lo hi st ≠ 0) (l : List Sp) (A : Option Addr) (c : Nat) (w : World) (h : Sps w A l) (hwf : ∀ s ∈ l, (Lit.int .i64 s.by_).wf = true) :
    Calls Try.prog 5 #[.agg #[.int .i64 lo, .int .i64 hi, .int .i64 st], .slice A l.length c] w fun e w' => e = .returned (.bool true) ∧ Below w.heap.size w w' := by
  have KN := fun X => new_yes hN X
  have KL := fun X => rladder_any lo hi st X
  have hL0 : lerr (rn lo hi st) = 0 := if_neg hN
  rw [hL0] at KL
  have hx := heap_alloc_at w (.cells #[.int .i64 lo, .int .i64 hi, .int .i64 st] 45)
  have hb0 := below_al (Below.refl w.heap.size w) (.cells #[.int .i64 lo, .int .i64 hi, .int .i64 st] 45)
  have y0 : (w.alloc (.cells #[.int .i64 lo, .int .i64 hi, .int .i64 st] 45)).cell? ⟨w.heap.size, 0, none⟩ = some (.int .i64 lo) := by rw [cell_of_row _ _ 0 _ 45 (0, 0) hx]; rfl
  have y1 : (w.alloc (.cells #[.int .i64 lo, .int .i64 hi, .int .i64 st] 45)).cell? ⟨w.heap.size, 1, none⟩ = some (.int .i64 hi) := by rw [cell_of_row _ _ 1 _ 45 (0, 0) hx]; rfl
  have y2 : (w.alloc (.cells #[.int .i64 lo, .int .i64 hi, .int .i64 st] 45)).cell? ⟨w.heap.size, 2, none⟩ = some (.int .i64 st) := by rw [cell_of_row _ _ 2 _ 45 (0, 0) hx]; rfl
  have hw0 := Lib.hid (size_al w (.cells #[.int .i64 lo, .int .i64 hi, .int .i64 st] 45))
  have hlt : w.heap.size < (w.alloc (.cells #[.int .i64 lo, .int .i64 hi, .int .i64 st] 45)).heap.size := heap_lt hx
  clear hx hN hL0
  go_enter Try.func5, Try.ntmps5
  go_upto_region 1 with fail
  generalize w.alloc (.cells #[.int .i64 lo, .int .i64 hi, .int .i64 st] 45) = w0 at *
  go_upto_region 2 with (go_at_call 23; (with_reducible refine (KN _).mono ?_); rintro e w1 ⟨ga, ba, rfl, sa, la, -, b1⟩)
  have z0 := (b1.cell (p := ⟨w.heap.size, 0, none⟩) hlt).trans y0
  have z1 := (b1.cell (p := ⟨w.heap.size, 1, none⟩) hlt).trans y1
  have z2 := (b1.cell (p := ⟨w.heap.size, 2, none⟩) hlt).trans y2
  have k1 := hb0.trans (b1.mono hb0.size)
  have hlt1 := Nat.lt_of_lt_of_le hlt b1.size
  clear y0 y1 y2 b1 hb0 hlt
  go_upto_region 3 with (go_at_call 23; (with_reducible refine (KN _).mono ?_); rintro e w2 ⟨gb, bb, rfl, sb, lb, -, b2⟩)
  have y0 := (b2.cell (p := ⟨w.heap.size, 0, none⟩) hlt1).trans z0
  have y1 := (b2.cell (p := ⟨w.heap.size, 1, none⟩) hlt1).trans z1
  have y2 := (b2.cell (p := ⟨w.heap.size, 2, none⟩) hlt1).trans z2
  have k2 := k1.trans (b2.mono k1.size)
  have hgl := heap_lt sa.r
  have sa2 := sa.below b2
  have hlt2 := Nat.lt_of_lt_of_le hlt1 b2.size
  clear z0 z1 z2 b2 k1 hlt1 sa
  go_upto_region 4 with (go_at_call 19; (with_reducible refine (KL _).mono ?_); rintro e w3 ⟨v3, rfl, -, b3⟩)
  have z0 := (b3.cell (p := ⟨w.heap.size, 0, none⟩) hlt2).trans y0
  have z1 := (b3.cell (p := ⟨w.heap.size, 1, none⟩) hlt2).trans y1
  have z2 := (b3.cell (p := ⟨w.heap.size, 2, none⟩) hlt2).trans y2
  have k3 := k2.trans (b3.mono k2.size)
  have sa3 := sa2.below b3
  have sb3 := sb.below b3
  have hlt3 := Nat.lt_of_lt_of_le hlt2 b3.size
  clear y0 y1 y2 b3 k2 hlt2 sa2 sb
  replace k3 := Lib.hid k3
  replace sa3 := Lib.hid sa3
  replace sb3 := Lib.hid sb3
  have KW := fun X => works_any X
  have hwl : Hid (∀ X, Below w.heap.size w X → Sps X A l) := Lib.hid fun X d => Sl.below' h d
  have hle := h.le
  replace hwf := Lib.hid hwf
  have hgb := Lib.hid (heap_lt sb3.out.r)
  have hga := Lib.hid (heap_lt sa3.out.r)
  have hgg : Hid (ga < gb) := Lib.hid (Nat.lt_of_lt_of_le hgl lb)
  have hwa : Hid (w.heap.size ≤ ga ∧ w.heap.size ≤ gb) := Lib.hid (by have := hw0.out; omega)
  clear KN KL h la lb hgl hw0
  go_upto_region 11 with fail
  clear z0 z1 z2
  obtain ⟨H, hH⟩ : ∃ H, w3.heap.size = H := ⟨_, rfl⟩
  obtain ⟨o1, ho1⟩ : ∃ o, o = Obj.cells #[.pointer (some ⟨ga, 0, none⟩), .pointer (some ⟨gb, 0, none⟩), .pointer none] 61 := ⟨_, rfl⟩
  obtain ⟨o2, ho2⟩ : ∃ o, o = Obj.cells (rrow lo hi st (.slice none 0 0) 0 0) 68 := ⟨_, rfl⟩
  have hrr : #[Value.int .i64 lo, .int .i64 hi, .int .i64 st, .slice none 0 0, .int .i64 0, .int .i64 0] = rrow lo hi st (.slice none 0 0) 0 0 := rfl
  rw [hrr, hH]
  rw [← ho1, ← ho2]
  obtain ⟨o3, ho3⟩ : ∃ o, o = Obj.cells #[.pointer (some ⟨H + 1, 0, none⟩), .pointer (some ⟨H + 1 + 1, 0, none⟩)] 65 := ⟨_, rfl⟩
  rw [← ho3]
  have s1 : (w3.alloc o1).heap.size = H + 1 := by rw [size_al, hH]
  have s2 : ((w3.alloc o1).alloc o2).heap.size = H + 1 + 1 := by rw [size_al, s1]
  have s3 : (((w3.alloc o1).alloc o2).alloc o2).heap.size = H + 1 + 1 + 1 := by rw [size_al, s2]
  have s4 : ((((w3.alloc o1).alloc o2).alloc o2).alloc o3).heap.size = H + 1 + 1 + 1 + 1 := by rw [size_al, s3]
  have e1 : ((((w3.alloc o1).alloc o2).alloc o2).alloc o3).heap[H]? = some o1 := heap_alloc (heap_alloc (heap_alloc (heap_alloc_at' _ _ _ hH.symm)))
  have e2 : ((((w3.alloc o1).alloc o2).alloc o2).alloc o3).heap[H + 1]? = some o2 := heap_alloc (heap_alloc (heap_alloc_at' _ _ _ s1.symm))
  have e3 : ((((w3.alloc o1).alloc o2).alloc o2).alloc o3).heap[H + 1 + 1]? = some o2 := heap_alloc (heap_alloc_at' _ _ _ s2.symm)
  have e4 : ((((w3.alloc o1).alloc o2).alloc o2).alloc o3).heap[H + 1 + 1 + 1]? = some o3 := heap_alloc_at' _ _ _ s3.symm
  have d4 : Below w3.heap.size w3 ((((w3.alloc o1).alloc o2).alloc o2).alloc o3) := below_al (below_al (below_al (below_al (Below.refl _ _) _) _) _) _
  have k4 : Below w.heap.size w ((((w3.alloc o1).alloc o2).alloc o2).alloc o3) := k3.out.trans (d4.mono k3.out.size)
  have sa4 := sa3.out.below d4
  have sb4 := sb3.out.below d4
  rw [hH] at hga hgb
  generalize (((w3.alloc o1).alloc o2).alloc o2).alloc o3 = w4 at *
  subst ho1 ho2 ho3
  clear s1 s2 s3 sa3 sb3 k3 d4 hH hrr hlt3
  obtain ⟨G, hG⟩ : ∃ G : Bool → Nat, G = fun i => if i then gb else ga := ⟨_, rfl⟩
  obtain ⟨R, hR⟩ : ∃ R : Bool → Nat, R = fun i => if i then H + 1 + 1 else H + 1 := ⟨_, rfl⟩
  obtain ⟨S, hS⟩ : ∃ S : Nat → Prop, S = fun b => H + 4 ≤ b := ⟨_, rfl⟩
  have hapt : Hid (Apt S G R) := Lib.hid (by
    have h1 := hgg.out
    have h2 := hga.out
    have h3 := hgb.out
    subst hG hR hS
    refine ⟨fun i j h => ?_, fun i j h => ?_, fun i j => ?_, fun b hb i => ?_, fun b hb i => ?_⟩
    · cases i <;> cases j <;> first | exact absurd rfl h | (simp; omega)
    · cases i <;> cases j <;> first | exact absurd rfl h | (simp)
    · cases i <;> cases j <;> (simp; omega)
    · cases i <;> (simp; omega)
    · cases i <;> (simp; omega))
  have hst0 : StF w4 lo hi st G (fun i => if i then bb else ba) (fun _ => []) (fun _ => 0) (fun _ => 0) := by
    subst hG
    intro i
    cases i
    · exact sa4
    · exact sb4
  have hrt0 : RtF S w4 lo hi st R (fun _ => none) (fun _ => 0) (fun _ => []) (fun _ => 0) (fun _ => 0) := by
    subst hR hS
    intro i
    cases i
    · exact ⟨e2, Sl.nil _ _ _ _, fun b hb => by simp; omega⟩
    · exact ⟨e3, Sl.nil _ _ _ _, fun b hb => by simp; omega⟩
  have hnew : Hid (∀ X : World, H + 4 ≤ X.heap.size → ∀ b, X.heap.size ≤ b → S b) := Lib.hid fun X hX b hb => by subst hS; show H + 4 ≤ b; omega
  have hGv : Hid (G false = ga ∧ G true = gb) := Lib.hid (by subst hG; exact ⟨rfl, rfl⟩)
  have hRv : Hid (R false = H + 1 ∧ R true = H + 1 + 1) := Lib.hid (by subst hR; exact ⟨rfl, rfl⟩)
  have hs4 : H + 4 ≤ w4.heap.size := by omega
  clear hG hR hS sa4 sb4 e2 e3 s4
  go_loopw [13] (fun s13 wr => ∃ (i : Nat) (M : Bool → Hl) (V T : Bool → Int) (Bm : Bool → Nat) (AA : Bool → Option Addr) (CC : Bool → Nat), i ≤ l.length ∧ s13 = .int .i64 i ∧ StF wr lo hi st G Bm M V T ∧ RtF S wr lo hi st R AA CC M V T ∧
    wr.heap[H]? = some (.cells #[.pointer (some ⟨ga, 0, none⟩), .pointer (some ⟨gb, 0, none⟩), .pointer none] 61) ∧ wr.heap[H + 1 + 1 + 1]? = some (.cells #[.pointer (some ⟨H + 1, 0, none⟩), .pointer (some ⟨H + 1 + 1, 0, none⟩)] 65) ∧ H + 4 ≤ wr.heap.size ∧ Below w.heap.size w wr) (fun s13 _ => l.length - (RowKit.intOf s13).toNat)
  case atStart => exact ⟨0, _, _, _, _, _, _, by omega, rfl, hst0, hrt0, e1, e4, hs4, k4⟩
  case round =>
    clear hst0 hrt0 e1 e4 hs4 k4
    obtain ⟨i, M, V, T, Bm, AA, CC, hi', rfl, hSt, hRt, r1, r4, hsz, hb⟩ := hrel
    obtain ⟨wk, rfl⟩ : ∃ y : World, y = wr := ⟨_, rfl⟩
    by_cases hend : i < l.length ∧ i < 200
    case neg =>
      have KWk := KW wk
      replace hb := Lib.hid hb
      clear hSt hRt r1 r4 KW
      by_cases h1 : i < l.length
      · have h2 : ¬ i < 200 := fun q => hend ⟨h1, q⟩
        have h1' : (i : Int) < (l.length : Int) := by omega
        have h2' : ¬ (i : Int) < 200 := by omega
        clear hend h1 h2
        go_wp2_with (go_at_call 32; (with_reducible refine (KWk).mono ?_); rintro e w9 ⟨rfl, hb9⟩)
        go_ret
        exact ⟨rfl, hb.out.trans (hb9.mono hb.out.size)⟩
      · have h1' : ¬ (i : Int) < (l.length : Int) := by omega
        clear hend h1
        go_wp2_with (go_at_call 32; (with_reducible refine (KWk).mono ?_); rintro e w9 ⟨rfl, hb9⟩)
        go_ret
        exact ⟨rfl, hb.out.trans (hb9.mono hb.out.size)⟩
    obtain ⟨hil, hi8⟩ := hend
    have hil' : (i : Int) < (l.length : Int) := by omega
    have hi8' : (i : Int) < 200 := by omega
    obtain ⟨b1, o1, rfl, hbl, c0, c1, c2, c3, c4⟩ := (hwl.out wk hb).at_ hil
    have hby := Lib.hid (hwf.out l[i] (List.getElem_mem hil))
    generalize l[i] = sp at *
    obtain ⟨who, dr, by_, slo, shi⟩ := sp
    simp only at c0 c1 c2 c3 c4 hby
    replace hSt := Lib.hid hSt
    replace hRt := Lib.hid hRt
    replace hb := Lib.hid hb
    clear KW
    go_upto_region 14 with fail
    have x0 := heap_alloc_at wk (.cells #[.int .i64 who, .bool dr, .int .i64 by_, .int .i64 slo, .int .i64 shi] 71)
    have d5 := below_al (Below.refl wk.heap.size wk) (.cells #[.int .i64 who, .bool dr, .int .i64 by_, .int .i64 slo, .int .i64 shi] 71)
    have z0 : (wk.alloc (.cells #[.int .i64 who, .bool dr, .int .i64 by_, .int .i64 slo, .int .i64 shi] 71)).cell? ⟨wk.heap.size, 0, none⟩ = some (.int .i64 who) := by rw [cell_of_row _ _ 0 _ 71 (0, 0) x0]; rfl
    replace d5 := Lib.hid d5
    replace x0 := Lib.hid x0
    clear c0 c1 c2 c3 c4
    generalize hwk1 : wk.alloc (.cells #[.int .i64 who, .bool dr, .int .i64 by_, .int .i64 slo, .int .i64 shi] 71) = wk1 at *
    replace hwk1 := Lib.hid hwk1
    go_upto_if 91 with fail
    go_cut [15] from 90 to 93 (fun x wc => ∃ kk : Nat, kk ≤ 2 ∧ x = .int .i64 kk ∧ wc = wk1)
    case first =>
      have ht : -2 ≤ who.tmod 3 ∧ who.tmod 3 ≤ 2 := by
        have h1 := Int.tmod_lt_of_pos who (show (0 : Int) < 3 by decide)
        have h2 := Int.lt_tmod_of_pos who (show (0 : Int) < 3 by decide)
        omega
      generalize who.tmod 3 = tm at *
      by_cases h0 : tm < 0
      · have hw : wrap64 (-tm) = -tm := by unfold wrap64; omega
        obtain ⟨kn, hkn⟩ : ∃ kn : Nat, -tm = kn := ⟨(-tm).toNat, by omega⟩
        go_wp2
        go_meet
        case rel => exact ⟨kn, by omega, by rw [← hkn], rfl⟩
      · obtain ⟨kn, rfl⟩ : ∃ kn : Nat, tm = kn := ⟨tm.toNat, by omega⟩
        go_wp2
        go_meet
        case rel => exact ⟨kn, by omega, rfl, rfl⟩
    obtain ⟨kk, hkk, rfl, rfl⟩ := hcut
    obtain ⟨w1, rfl⟩ : ∃ y : World, y = wc := ⟨_, rfl⟩
    have hHl : H < wk.heap.size := by omega
    have q1 := (d5.out.block H hHl).trans r1
    have q4 := Lib.hid ((d5.out.block (H + 1 + 1 + 1) (by omega)).trans r4)
    have hSt5 := Lib.hid (hSt.out.below d5.out)
    have hRt5 := Lib.hid (hRt.out.below d5.out)
    have hb5 := Lib.hid (hb.out.trans (d5.out.mono hb.out.size))
    have hsz5 : H + 4 ≤ w1.heap.size := Nat.le_trans hsz d5.out.size
    have hPl := heap_lt x0.out
    have z1 : w1.cell? ⟨wk.heap.size, 1, none⟩ = some (.bool dr) := by rw [cell_of_row _ _ 1 _ 71 (0, 0) x0.out]; rfl
    have z2 : w1.cell? ⟨wk.heap.size, 2, none⟩ = some (.int .i64 by_) := by rw [cell_of_row _ _ 2 _ 71 (0, 0) x0.out]; rfl
    have z3 : w1.cell? ⟨wk.heap.size, 3, none⟩ = some (.int .i64 slo) := by rw [cell_of_row _ _ 3 _ 71 (0, 0) x0.out]; rfl
    have z4 : w1.cell? ⟨wk.heap.size, 4, none⟩ = some (.int .i64 shi) := by rw [cell_of_row _ _ 4 _ 71 (0, 0) x0.out]; rfl
    have hSP := Lib.hid (hnew.out wk hsz wk.heap.size (Nat.le_refl _))
    clear r1 r4 hSt hRt hb hsz hwk1 d5 z0
    generalize wk.heap.size = P at *
    by_cases hk2 : kk = 2
    · subst hk2
      have y2 : w1.cell? ⟨H, 2, none⟩ = some (.pointer none) := by rw [cell_of_row _ _ 2 _ 61 (0, 0) q1]; rfl
      have q1' := Lib.hid q1
      have KA := ask_nil by_ slo shi w1
      have KD := fun X => drop_nil by_ X
      have KV := fun X => volts_nil X
      have KH := fun X => holders_nil X
      have KT := fun X => turns_nil X
      clear q1 hapt hnew hGv hRv
      cases dr with
      | true =>
        go_wp2_with (first
          | (go_at_call 24; (with_reducible refine (KA).mono ?_); rintro e w2 ⟨rfl, d2⟩; have t1 := (d2.cell (p := ⟨P, 1, none⟩) hPl).trans z1; have t2 := (d2.cell (p := ⟨P, 2, none⟩) hPl).trans z2)
          | (go_at_call 25; (with_reducible refine (KD _).mono ?_); rintro e w3 ⟨rfl, rfl⟩)
          | (go_at_call 26; (with_reducible refine (KV _).mono ?_); rintro e w3 ⟨rfl, rfl⟩)
          | (go_at_call 27; (with_reducible refine (KH _).mono ?_); rintro e w3 ⟨rfl, rfl⟩)
          | (go_at_call 28; (with_reducible refine (KT _).mono ?_); rintro e w3 ⟨rfl, rfl⟩))
        go_roundw
        case rel => exact ⟨i + 1, M, V, T, Bm, AA, CC, by omega, by go_num, hSt5.out.below d2, hRt5.out.below d2, (d2.block H (by omega)).trans q1'.out, (d2.block (H + 1 + 1 + 1) (by omega)).trans q4.out, Nat.le_trans hsz5 d2.size, hb5.out.trans (d2.mono hb5.out.size)⟩
        case measure => first | (simp [RowKit.intOf]; done) | (simp [RowKit.intOf]; omega)
      | false =>
        go_wp2_with (first
          | (go_at_call 24; (with_reducible refine (KA).mono ?_); rintro e w2 ⟨rfl, d2⟩; have t1 := (d2.cell (p := ⟨P, 1, none⟩) hPl).trans z1; have t2 := (d2.cell (p := ⟨P, 2, none⟩) hPl).trans z2)
          | (go_at_call 25; (with_reducible refine (KD _).mono ?_); rintro e w3 ⟨rfl, rfl⟩)
          | (go_at_call 26; (with_reducible refine (KV _).mono ?_); rintro e w3 ⟨rfl, rfl⟩)
          | (go_at_call 27; (with_reducible refine (KH _).mono ?_); rintro e w3 ⟨rfl, rfl⟩)
          | (go_at_call 28; (with_reducible refine (KT _).mono ?_); rintro e w3 ⟨rfl, rfl⟩))
        go_roundw
        case rel => exact ⟨i + 1, M, V, T, Bm, AA, CC, by omega, by go_num, hSt5.out.below d2, hRt5.out.below d2, (d2.block H (by omega)).trans q1'.out, (d2.block (H + 1 + 1 + 1) (by omega)).trans q4.out, Nat.le_trans hsz5 d2.size, hb5.out.trans (d2.mono hb5.out.size)⟩
        case measure => first | (simp [RowKit.intOf]; done) | (simp [RowKit.intOf]; omega)
    · have hK : Hid (Kp w H P ga gb who by_ slo shi dr w1) := Lib.hid ⟨q1, q4.out, x0.out, hsz5, hb5.out⟩
      have hk2' : ((kk : Int) == 2) = false := by simp; omega
      obtain ⟨i0, hi0⟩ : ∃ i0 : Bool, Hid ((kk = 0 ∧ i0 = false) ∨ (kk = 1 ∧ i0 = true)) := by
        by_cases h1 : kk = 1
        · exact ⟨true, Lib.hid (Or.inr ⟨h1, rfl⟩)⟩
        · exact ⟨false, Lib.hid (Or.inl ⟨by omega, rfl⟩)⟩
      have hGo : Hid (∀ i, G i < H ∧ w.heap.size ≤ G i) := Lib.hid fun i => by
        have h1 := hga.out
        have h2 := hgb.out
        have h3 := hwa.out
        have h4 := hGv.out
        cases i
        · rw [h4.1]; omega
        · rw [h4.2]; omega
      have hRo : Hid (∀ i, H < R i ∧ R i < H + 3 ∧ w.heap.size ≤ R i) := Lib.hid fun i => by
        have h1 := hga.out
        have h3 := hwa.out
        have h4 := hRv.out
        cases i
        · rw [h4.1]; omega
        · rw [h4.2]; omega
      have hMi : Hid (Rising (M i0) ∧ Whos (M i0)) := Lib.hid ⟨(hSt5.out i0).up, (hSt5.out i0).wh⟩
      clear q1 q4 x0 hsz5 hb5 z1 z2 z3 z4 hPl
      go_upto_region 17 with fail
      go_cut [16] from 94 to 97 (fun x wc => x = .pointer (some ⟨G i0, 0, none⟩) ∧ wc = w1)
      case first =>
        rcases hi0.out with ⟨rfl, rfl⟩ | ⟨rfl, rfl⟩
        · have y : w1.cell? ⟨H, 0, none⟩ = some (.pointer (some ⟨ga, 0, none⟩)) := by rw [cell_of_row _ _ 0 _ 61 (0, 0) hK.out.a]; rfl
          go_wp2
          go_meet
          case rel => exact ⟨by rw [hGv.out.1], rfl⟩
        · have y : w1.cell? ⟨H, 1, none⟩ = some (.pointer (some ⟨gb, 0, none⟩)) := by rw [cell_of_row _ _ 1 _ 61 (0, 0) hK.out.a]; rfl
          go_wp2
          go_meet
          case rel => exact ⟨by rw [hGv.out.2], rfl⟩
      obtain ⟨rfl, rfl⟩ := hcut
      obtain ⟨w2, rfl⟩ : ∃ y : World, y = wc := ⟨_, rfl⟩
      obtain ⟨qa, hqa⟩ : ∃ q, q = askd lo hi st (M i0) (V i0) (T i0) by_ (slo, shi) := ⟨_, rfl⟩
      have KA := ask_any (hSt5.out i0) by_ (slo, shi) hby.out
      rw [← hqa] at KA
      have hPl := heap_lt hK.out.c
      have y1 : w2.cell? ⟨P, 1, none⟩ = some (.bool dr) := by rw [cell_of_row _ _ 1 _ 71 (0, 0) hK.out.c]; rfl
      have y2 : w2.cell? ⟨P, 2, none⟩ = some (.int .i64 by_) := by rw [cell_of_row _ _ 2 _ 71 (0, 0) hK.out.c]; rfl
      have y3 : w2.cell? ⟨P, 3, none⟩ = some (.int .i64 slo) := by rw [cell_of_row _ _ 3 _ 71 (0, 0) hK.out.c]; rfl
      have y4 : w2.cell? ⟨P, 4, none⟩ = some (.int .i64 shi) := by rw [cell_of_row _ _ 4 _ 71 (0, 0) hK.out.c]; rfl
      replace hqa := Lib.hid hqa
      go_upto_region 19 with (go_at_call 24; (with_reducible refine (KA).mono ?_); rintro e w3 ⟨rfl, f3, b3, s3, -⟩)
      have hG1 := hGo.out i0
      have hK3 : Hid (Kp w H P ga gb who by_ slo shi dr w3) := Lib.hid (hK.out.fr f3 (by omega) (by omega) (hapt.out.sg P hSP.out i0) (fun b q => by rw [q]; exact hG1.2))
      have hSt3 := Lib.hid (hSt5.out.ask i0 f3 (hapt.out.gg i0) s3)
      have hRt3 := Lib.hid (hRt5.out.keep f3 (fun j => (hapt.out.gr i0 j).symm) (fun b hb => hapt.out.sg b hb i0))
      have hqu : Hid (Rising qa.m ∧ Whos qa.m) := Lib.hid ⟨s3.up, s3.wh⟩
      replace s3 := Lib.hid s3
      obtain ⟨qd, hqd⟩ : ∃ q, q = if dr then dropd lo hi st qa.m qa.v qa.t by_ else qa := ⟨_, rfl⟩
      replace hqd := Lib.hid hqd
      clear hK hSt5 hRt5 y1 y2 y3 y4 f3 KA hPl hG1
      have y1 : w3.cell? ⟨P, 1, none⟩ = some (.bool dr) := by rw [cell_of_row _ _ 1 _ 71 (0, 0) hK3.out.c]; rfl
      have y2 : w3.cell? ⟨P, 2, none⟩ = some (.int .i64 by_) := by rw [cell_of_row _ _ 2 _ 71 (0, 0) hK3.out.c]; rfl
      go_upto_if 105 with fail
      go_cut [17] from 104 to 109 (fun x wc => ∃ Bm' : Bool → Nat, x = .int .i64 qd.c ∧ Hid (StF wc lo hi st G Bm' (upd i0 qd.m M) (upd i0 qd.v V) (upd i0 qd.t T)) ∧ Hid (RtF S wc lo hi st R AA CC M V T) ∧ Hid (Kp w H P ga gb who by_ slo shi dr wc))
      case first =>
        cases dr with
        | true =>
          have KD := drop_any s3.out by_ hby.out
          have e1 : qd = dropd lo hi st qa.m qa.v qa.t by_ := hqd.out
          rw [← e1] at KD
          replace e1 := Lib.hid e1
          go_wp2_with (go_at_call 25; (with_reducible refine (KD).mono ?_); rintro e w4 ⟨rfl, f4, b4, s4, -⟩)
          go_meet
          case rel =>
            have hG1 := hGo.out i0
            have hS4 := hSt3.out.ask i0 f4 (hapt.out.gg i0) s4
            rw [upd_upd, upd_upd, upd_upd, upd_upd] at hS4
            exact ⟨_, rfl, Lib.hid hS4, Lib.hid (hRt3.out.keep f4 (fun j => (hapt.out.gr i0 j).symm) (fun b hb => hapt.out.sg b hb i0)), Lib.hid (hK3.out.fr f4 (by omega) (by omega) (hapt.out.sg P hSP.out i0) (fun b q => by rw [q]; exact hG1.2))⟩
        | false =>
          have e1 : qd = qa := hqd.out
          subst e1
          go_wp2
          go_meet
          case rel => exact ⟨_, rfl, hSt3, hRt3, hK3⟩
      obtain ⟨Bm', rfl, hSt4, hRt4, hK4⟩ := hcut
      obtain ⟨w4, rfl⟩ : ∃ y : World, y = wc := ⟨_, rfl⟩
      clear s3 hSt3 hRt3 hK3 y1 y2
      go_upto_region 24 with fail
      go_cut [18] from 130 to 133 (fun x wc => x = .pointer (some ⟨R i0, 0, none⟩) ∧ wc = w4)
      case first =>
        rcases hi0.out with ⟨rfl, rfl⟩ | ⟨rfl, rfl⟩
        · have y : w4.cell? ⟨H + 1 + 1 + 1, 0, none⟩ = some (.pointer (some ⟨H + 1, 0, none⟩)) := by rw [cell_of_row _ _ 0 _ 65 (0, 0) hK4.out.b]; rfl
          go_wp2
          go_meet
          case rel => exact ⟨by rw [hRv.out.1], rfl⟩
        · have y : w4.cell? ⟨H + 1 + 1 + 1, 1, none⟩ = some (.pointer (some ⟨H + 1 + 1, 0, none⟩)) := by rw [cell_of_row _ _ 1 _ 65 (0, 0) hK4.out.b]; rfl
          go_wp2
          go_meet
          case rel => exact ⟨by rw [hRv.out.2], rfl⟩
      obtain ⟨rfl, rfl⟩ := hcut
      obtain ⟨w4, rfl⟩ : ∃ y : World, y = wc := ⟨_, rfl⟩
      have hup0 : Hid (Rising (M i0) ∧ Whos (M i0) ∧ Rising qd.m ∧ Whos qd.m ∧ Rising qa.m ∧ Whos qa.m) := Lib.hid (by
        have h1 := hSt4.out i0
        rw [upd_at] at h1
        exact ⟨hMi.out.1, hMi.out.2, h1.up, h1.wh, hqu.out.1, hqu.out.2⟩)
      have KB := rask_any (hRt4.out i0) hup0.out.1 (whos_len hup0.out.1 hup0.out.2.1) (hnew.out w4 hK4.out.n) by_ slo shi
      rw [← hqa.out] at KB
      have y1 : w4.cell? ⟨P, 1, none⟩ = some (.bool dr) := by rw [cell_of_row _ _ 1 _ 71 (0, 0) hK4.out.c]; rfl
      have y2 : w4.cell? ⟨P, 2, none⟩ = some (.int .i64 by_) := by rw [cell_of_row _ _ 2 _ 71 (0, 0) hK4.out.c]; rfl
      have y3 : w4.cell? ⟨P, 3, none⟩ = some (.int .i64 slo) := by rw [cell_of_row _ _ 3 _ 71 (0, 0) hK4.out.c]; rfl
      have y4 : w4.cell? ⟨P, 4, none⟩ = some (.int .i64 shi) := by rw [cell_of_row _ _ 4 _ 71 (0, 0) hK4.out.c]; rfl
      go_upto_region 26 with (go_at_call 29; (with_reducible refine (KB).mono ?_); rintro e w5 ⟨rfl, f5, A5, c5, s5⟩)
      have hR1 := hRo.out i0
      have hK5 : Hid (Kp w H P ga gb who by_ slo shi dr w5) := Lib.hid (hK4.out.fr f5 (by omega) (by omega) (hapt.out.sr P hSP.out i0) (fun b q => by rw [q]; exact hR1.2.2))
      have hRt5 := Lib.hid (hRt4.out.ask i0 f5 (hapt.out.rr i0) s5)
      have hSt5 := Lib.hid (hSt4.out.keep f5 (fun j => hapt.out.gr j i0) (hRt4.out i0).r)
      replace s5 := Lib.hid s5
      have hn5 := Lib.hid (hnew.out w5 hK5.out.n)
      have x1 : w5.cell? ⟨P, 1, none⟩ = some (.bool dr) := by rw [cell_of_row _ _ 1 _ 71 (0, 0) hK5.out.c]; rfl
      have x2 : w5.cell? ⟨P, 2, none⟩ = some (.int .i64 by_) := by rw [cell_of_row _ _ 2 _ 71 (0, 0) hK5.out.c]; rfl
      clear y1 y2 y3 y4 KB f5 hK4 hRt4 hSt4 hR1
      go_upto_if 141 with fail
      go_cut [19] from 140 to 145 (fun x wc => ∃ (AA' : Bool → Option Addr) (CC' : Bool → Nat), x = .int .i64 qd.c ∧ Hid (StF wc lo hi st G Bm' (upd i0 qd.m M) (upd i0 qd.v V) (upd i0 qd.t T)) ∧ Hid (RtF S wc lo hi st R AA' CC' (upd i0 qd.m M) (upd i0 qd.v V) (upd i0 qd.t T)) ∧ Hid (Kp w H P ga gb who by_ slo shi dr wc))
      case first =>
        cases dr with
        | true =>
          have KD := rdrop_any s5.out (whos_len hup0.out.2.2.2.2.1 hup0.out.2.2.2.2.2) hn5.out by_
          have e1 : qd = dropd lo hi st qa.m qa.v qa.t by_ := hqd.out
          rw [← e1] at KD
          replace e1 := Lib.hid e1
          go_wp2_with (go_at_call 30; (with_reducible refine (KD).mono ?_); rintro e w6 ⟨rfl, f6, A6, c6, s6⟩)
          go_meet
          case rel =>
            have hR1 := hRo.out i0
            have hS6 := hRt5.out.ask i0 f6 (hapt.out.rr i0) s6
            rw [upd_upd, upd_upd, upd_upd, upd_upd, upd_upd] at hS6
            exact ⟨_, _, rfl, Lib.hid (hSt5.out.keep f6 (fun j => hapt.out.gr j i0) (hRt5.out i0).r), Lib.hid hS6, Lib.hid (hK5.out.fr f6 (by omega) (by omega) (hapt.out.sr P hSP.out i0) (fun b q => by rw [q]; exact hR1.2.2))⟩
        | false =>
          have e1 : qd = qa := hqd.out
          subst e1
          go_wp2
          go_meet
          case rel => exact ⟨_, _, rfl, hSt5, hRt5, hK5⟩
      obtain ⟨AA', CC', rfl, hSt6, hRt6, hK6⟩ := hcut
      obtain ⟨w6, rfl⟩ : ∃ y : World, y = wc := ⟨_, rfl⟩
      clear s5 hSt5 hRt5 hK5 x1 x2 hn5
      have hs0 := hSt6.out i0
      have hr0 := hRt6.out i0
      rw [upd_at, upd_at, upd_at] at hs0 hr0
      obtain ⟨n, hn⟩ : ∃ n, qd.m.length = n := ⟨_, rfl⟩
      have hrr := hr0.r
      rw [hn] at hrr
      replace hn := Lib.hid hn
      have hs0' : Hid (∀ X, Below w6.heap.size w6 X → St X (G i0) (Bm' i0) lo hi st qd.m qd.v qd.t) := Lib.hid fun X d => hs0.below d
      have hl0' : Hid (∀ X, Below w6.heap.size w6 X → Hlr S X (AA' i0) qd.m) := Lib.hid fun X d => hr0.l.below d
      have hrr' : Hid (∀ X, Below w6.heap.size w6 X → X.heap[R i0]? = some (.cells (rrow lo hi st (.slice (AA' i0) n (CC' i0)) qd.v qd.t) 68)) := Lib.hid fun X d => (d.block _ (heap_lt hrr)).trans hrr
      have hls : n ≤ 4096 := by rw [← hn.out]; exact whos_len hup0.out.2.2.1 hup0.out.2.2.2.1
      have KH := fun (X : World) (d : Below w6.heap.size w6 X) => holders_any (hs0'.out X d)
      have KS := fun (X : World) (d : Below w6.heap.size w6 X) (A : Option Addr) (c : Nat) (ha : Ints X A (qd.m.map (·.1))) => sameHolders_any qd.m n hn.out A (AA' i0) c (CC' i0) X ha (hl0'.out X d)
      replace KS := Lib.hid KS
      have n1 : (qd.c != qd.c) = false := bne_self_eq_false _
      have n2 : (qd.v != qd.v) = false := bne_self_eq_false _
      have n3 : (qd.t != qd.t) = false := bne_self_eq_false _
      clear hs0 hr0 hrr
      go_upto_region 29 with (go_at_call 27; (with_reducible refine (KH _ (Below.refl _ _)).mono ?_); rintro e w7 ⟨x, rfl, ho, hb7⟩; obtain ⟨Ah, ch, hx, hih, -⟩ := ho.ints; rw [List.length_map, hn.out] at hx; subst hx)
      have KV := fun q => (volts_any ((hs0'.out w7 hb7).below (below_drewN' (Below.refl _ w7) q)))
      have KT := fun q => (turns_any ((hs0'.out w7 hb7).below (below_drewN' (Below.refl _ w7) q)))
      have KZ := fun q => KS.out (w7.drewN q) (below_drewN' hb7 q) Ah ch (Sl.drawn hih ((Drawn.refl w7).drewN q))
      have c3 : w7.cell? ⟨R i0, 3, none⟩ = some (.slice (AA' i0) n (CC' i0)) := by rw [cell_of_row _ _ 3 _ 68 (0, 0) (hrr'.out w7 hb7)]; rfl
      have c4 : w7.cell? ⟨R i0, 4, none⟩ = some (.int .i64 qd.v) := by rw [cell_of_row _ _ 4 _ 68 (0, 0) (hrr'.out w7 hb7)]; rfl
      have c5 : w7.cell? ⟨R i0, 5, none⟩ = some (.int .i64 qd.t) := by rw [cell_of_row _ _ 5 _ 68 (0, 0) (hrr'.out w7 hb7)]; rfl
      have hO1 := Lib.hid fun q => ho.drawn ((Drawn.refl w7).drewN q)
      replace hb7 := Lib.hid hb7
      clear hih ho KH
      go_big_quiet ((first | (go_at_call 26; exact quiet_same (KV _)) | (go_at_call 28; exact quiet_same (KT _)) | (go_at_call 31; exact quiet_drawn (KZ _))))
      have hO8 := hO1.out nq
      have hb8 : Below w6.heap.size w6 (w7.drewN nq) := below_drewN' hb7.out nq
      clear KV KT KZ c3 c4 c5 hO1 n1 n2 n3 hb7
      generalize w7.drewN nq = w8 at *
      go_upto_region 32 with fail
      go_loopw [21] (fun v wr => ∃ (k : Nat) (rs : List (List Value)), k ≤ n ∧ v = .int .i64 k ∧ Hid (rs.length = n) ∧ Hid (Own wr w6.heap.size 3 1 rs (.slice Ah n ch)) ∧ Hid (Below w6.heap.size w6 wr)) (fun v _ => n - (RowKit.intOf v).toNat)
      case atStart => exact ⟨0, _, by omega, rfl, Lib.hid (by rw [List.length_map, List.length_map]; exact hn.out), Lib.hid hO8, Lib.hid hb8⟩
      case round =>
        clear hO8 hb8
        obtain ⟨k, rs, hkn, rfl, hrs, hO, hbw⟩ := hrel
        obtain ⟨w9, rfl⟩ : ∃ y : World, y = wr := ⟨_, rfl⟩
        by_cases hkl : k < n
        · have hkl' : (k : Int) < (n : Int) := by omega
          obtain ⟨g, u0, rfl, hq1, hq2, c0, f0, hgn, hset⟩ := hO.out.row1 hrs.out hkl
          have hgl := (hO.out.lt g rfl).1
          go_wp2
          go_roundw
          case rel => exact ⟨k + 1, _, by omega, by go_num, Lib.hid (by rw [List.length_set]; exact hrs.out), Lib.hid (hset _), Lib.hid (hbw.out.setCell hgl _)⟩
          case measure => first | (simp [RowKit.intOf]; done) | (simp [RowKit.intOf]; omega)
        · have hkl' : ¬ (k : Int) < (n : Int) := by omega
          clear hO hrs
          go_upto_region 35 with fail
          have KH := fun (X : World) (d : Below w6.heap.size w6 X) => holders_any (hs0'.out X d)
          have hX := fun (X : World) (d : Below w6.heap.size w6 X) => (show X.cell? ⟨R i0, 3, none⟩ = some (.slice (AA' i0) n (CC' i0)) by rw [cell_of_row _ _ 3 _ 68 (0, 0) (hrr'.out X d)]; rfl)
          have d0 := hbw.out
          have d1 := d0.trans ((Drawn.refl w9).drew.below _)
          go_cut [194] from 187 to 193 (fun x wc => x = .bool false ∧ Below w6.heap.size w6 wc)
          case first =>
            go_region_held3 (fun X => X.cell? ⟨R i0, 3, none⟩ = some (.slice (AA' i0) n (CC' i0)))
              (first | exact hX _ k3 | exact hX _ k2 | exact hX _ d1 | exact hX _ d0)
              (first
                | (go_at_call 27; (with_reducible refine (KH _ d1).mono ?_); rintro e w10 ⟨x, rfl, ho, hb10⟩; obtain ⟨Aq, cq, hx, hih, -⟩ := ho.ints; rw [List.length_map, hn.out] at hx; subst hx; have k2 : Below w6.heap.size w6 w10 := d1.trans (hb10.mono d1.size))
                | (go_at_call 31; (with_reducible refine (KS.out _ k2 _ _ hih).mono ?_); rintro e w11 ⟨rfl, hd11⟩; have k3 : Below w6.heap.size w6 w11 := hd11.after k2))
            all_goals go_wp2
            all_goals go_meet
            all_goals (case rel => exact ⟨rfl, k3⟩)
          obtain ⟨rfl, hcut⟩ := hcut
          have hK9 := hK6.out.below hcut
          have hSt9 := hSt6.out.below hcut
          have hRt9 := hRt6.out.below hcut
          clear KH hX d0 d1 hK6 hSt6 hRt6
          go_wp2
          go_roundw
          case rel => exact ⟨i + 1, _, _, _, _, _, _, by omega, by go_num, hSt9, hRt9, hK9.a, hK9.b, hK9.n, hK9.d⟩
          case measure => first | (simp [RowKit.intOf]; done) | (simp [RowKit.intOf]; omega)
theorem sets_walk (lo hi st : Int) (l : List Sp) (A : Option Addr) (c : Nat) (w : World) (h : Sps w A l) (hwf : ∀ s ∈ l, (Lit.int .i64 s.by_).wf = true) :
    Calls Try.prog 5 #[.agg #[.int .i64 lo, .int .i64 hi, .int .i64 st], .slice A l.length c] w fun e w' => e = .returned (.bool true) ∧ Below w.heap.size w w' := by
  by_cases hN : rn lo hi st = 0
  · exact sets_no lo hi st hN _ A c w
  · exact sets_yes lo hi st hN l A c w h hwf
end Go.Proofs.Ytbbjnhajmckjoaa
