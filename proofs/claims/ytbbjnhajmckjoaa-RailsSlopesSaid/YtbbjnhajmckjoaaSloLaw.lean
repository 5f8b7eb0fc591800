/- RailsSlopes, walked. -/
import Derived.Test.YtbbjnhajmckjoaaSlo3
import Derived.Test.YtbbjnhajmckjoaaWks
namespace Go.Proofs.Ytbbjnhajmckjoaa
open flt Ieee Go.RowKit Go.BigFrame

def anyBad (xs : List Nat) : Bool := xs.any fun x => !isFin (cls x)
theorem anyBad_take (xs : List Nat) {k : Nat} (hk : k < xs.length) : anyBad (xs.take (k + 1)) = (anyBad (xs.take k) || !isFin (cls xs[k])) := by
  unfold anyBad
  rw [List.take_succ_eq_append_getElem hk, List.any_append]
  simp
theorem atc_nan (t r u : Option Nat) : atc none t r u = none := by
  unfold atc badr
  rfl
theorem good_all {xs : List Nat} (h : anyBad xs = false) : ∀ x ∈ xs, rung x < double.infRung := by
  intro x hx
  unfold anyBad at h
  rw [List.any_eq_false] at h
  have := h x hx
  simp only [Bool.not_eq_true', Bool.not_eq_false] at this
  obtain ⟨y, hy, hl⟩ := fin_some this
  obtain ⟨rfl, -⟩ := cls_some hy
  exact hl
theorem abs_fin {x : Nat} (h : rung x < double.infRung) : rung (rung x) < double.infRung ∧ neg (rung x) = false := by
  have h1 : rung x < double.signWeight := Nat.lt_trans h (Format.infRung_lt double)
  obtain ⟨q1, q2⟩ := read_small h1
  exact ⟨by rw [q1]; exact h, q2⟩
theorem at_good {f t R x : Nat} (hf : rung f < double.infRung) (ht : rung t < double.infRung) (hR : rung R < double.infRung) (hx : rung x < double.infRung) (gR : neg R = false) (gx : neg x = false) (w : World) :
    Calls Try.prog 36 #[.float .f64 f, .float .f64 t, .float .f64 R, .float .f64 x] w fun e w' => e = .returned (.float .f64 (rmp f t (fmul R x))) ∧ nn (rmp f t (fmul R x)) ∧ Below w.heap.size w w' := by
  refine (at_any f t R x w).mono ?_
  rintro e w' ⟨z, rfl, hz, hb⟩
  rw [cls_nn (nn_fin hf), cls_nn (nn_fin ht), cls_nn (nn_fin hR), cls_nn (nn_fin hx), atc_rmp hf ht hR hx gR gx] at hz
  obtain ⟨e1, e2⟩ := cls_some hz
  rw [← e1]
  exact ⟨rfl, e2, hb⟩
theorem order_lt {x y : Nat} (hx : nn x) (hy : nn y) (h : key y ≤ key x) : (FloatKind.f64.format.order x y == some .lt) = false := by
  show (double.order x y == some .lt) = false
  rw [order_key hx hy]
  have : ¬ compare (key x) (key y) = .lt := by rw [Int.compare_eq_lt]; omega
  simpa using this
theorem order_gt {x y : Nat} (hx : nn x) (hy : nn y) (h : key x ≤ key y) : (FloatKind.f64.format.order x y == some .gt) = false := by
  show (double.order x y == some .gt) = false
  rw [order_key hx hy]
  have : ¬ compare (key x) (key y) = .gt := by rw [Int.compare_eq_gt]; omega
  simpa using this
theorem order_lt' {x y : Nat} (hx : nn x) (hy : nn y) (h : key x < key y) : (FloatKind.f64.format.order x y == some .lt) = true := by
  show (double.order x y == some .lt) = true
  rw [order_key hx hy, show compare (key x) (key y) = .lt by rw [Int.compare_eq_lt]; exact h]
  rfl
theorem order_gt' {x y : Nat} (hx : nn x) (hy : nn y) (h : key y < key x) : (FloatKind.f64.format.order x y == some .gt) = true := by
  show (double.order x y == some .gt) = true
  rw [order_key hx hy, show compare (key x) (key y) = .gt by rw [Int.compare_eq_gt]; exact h]
  rfl
theorem order_eq {x y : Nat} (hx : nn x) (hy : nn y) (h : key x = key y) : (FloatKind.f64.format.order x y != some .eq) = false := by
  show (double.order x y != some .eq) = false
  rw [order_key hx hy, show compare (key x) (key y) = .eq by rw [Int.compare_eq_eq]; exact h]
  rfl
/-- a share, as the program tells it -/
structure Sh (a : Nat) : Prop extends Shr a where
  no : ∀ n, n ≤ 4096 → lagno (cls a) n = false
theorem one_V : V 4607182418800017408 = U := by decide +kernel
theorem sh_half : Sh 4602678819172646912 := by
  have h : (4602678819172646912 : Nat) < double.signWeight := by rw [signWeight_eq]; decide
  obtain ⟨q1, q2⟩ := read_small h
  refine ⟨⟨by rw [q1, infRung_eq]; decide, q2, by rw [q1, ← one_V]; exact V_mono (by decide)⟩, fun n hn => ?_⟩
  unfold lagno
  rw [decide_eq_false (by omega), show gtc (cls 4602678819172646912) (some 0) = true by decide +kernel, show lec (cls 4602678819172646912) (some 4607182418800017408) = true by decide +kernel]
  rfl
theorem one_rung : rung 4607182418800017408 = 4607182418800017408 ∧ neg 4607182418800017408 = false := by
  have h : (4607182418800017408 : Nat) < double.signWeight := by rw [signWeight_eq]; decide
  exact read_small h
theorem sh_own {a : Nat} (hf : rung a < double.infRung) (h1 : (FloatKind.f64.format.order a 0 == some .gt) = true) (h2 : (FloatKind.f64.format.order a 4607182418800017408 == some .lt || FloatKind.f64.format.order a 4607182418800017408 == some .eq) = true) : Sh a := by
  have n1 : nn 4607182418800017408 := by unfold nn; decide
  have g1 : gtc (cls a) (some 0) = true := by unfold gtc; rw [← order_z]; exact h1
  have g2 : lec (cls a) (some 4607182418800017408) = true := by unfold lec; rw [← order_o]; exact h2
  change (double.order a 0 == some .gt) = true at h1
  change (double.order a 4607182418800017408 == some .lt || double.order a 4607182418800017408 == some .eq) = true at h2
  have k1 : 0 < key a := by
    have e : double.order a 0 = some .gt := by simpa using h1
    rw [order_key (nn_fin hf) nn_zero, key_zero] at e
    have : compare (key a) 0 = .gt := by simpa using e
    rw [Int.compare_eq_gt] at this
    exact this
  have k2 : key a ≤ 4607182418800017408 := by
    have e : double.order a 4607182418800017408 = some .lt ∨ double.order a 4607182418800017408 = some .eq := by simpa using h2
    rw [order_key (nn_fin hf) n1, key_pos one_rung.2, one_rung.1] at e
    rcases e with e | e
    · have : compare (key a) ((4607182418800017408 : Nat) : Int) = .lt := by simpa using e
      rw [Int.compare_eq_lt] at this
      omega
    · have : compare (key a) ((4607182418800017408 : Nat) : Int) = .eq := by simpa using e
      rw [Int.compare_eq_eq] at this
      omega
  have hn : neg a = false := by
    cases hq : neg a with
    | false => rfl
    | true =>
      unfold key at k1
      rw [hq] at k1
      simp only [if_true] at k1
      omega
  rw [key_pos hn] at k2
  refine ⟨⟨hf, hn, by rw [← one_V]; exact V_mono (by omega)⟩, fun n hn => ?_⟩
  unfold lagno
  rw [g1, g2, decide_eq_false (by omega)]
  rfl
def n1 : Nat := 16082354269340041216
theorem m1_rung : rung m1 < double.infRung ∧ rung m1 = m1 ∧ val m1 = (V m1 : Int) ∧ nn m1 := by
  have h : m1 < double.signWeight := by rw [signWeight_eq]; decide
  obtain ⟨q1, q2⟩ := read_small h
  have h1 : rung m1 < double.infRung := by rw [q1]; exact m_fin.1.1
  exact ⟨h1, q1, by unfold val; rw [q1, q2]; rfl, nn_fin h1⟩
theorem n1_word : n1 = double.word true m1 := by decide +kernel
theorem n1_rung : rung n1 < double.infRung ∧ val n1 = -(V m1 : Int) ∧ nn n1 := by
  obtain ⟨w1, w2, w3⟩ := val_word true m_fin.1.1
  rw [← n1_word] at w1 w2 w3
  have h1 : rung n1 < double.infRung := by rw [w1]; exact m_fin.1.1
  exact ⟨h1, by rw [w3]; rfl, nn_fin h1⟩
theorem neg_run (X : World) : (Op.unary UnOp.neg (.float .f64 m1)).run Try.prog X = .ok (.float .f64 n1) X := by kernel_rfl
theorem wb_of {v : Nat} (h1 : key n1 ≤ key v) (h2 : key v ≤ key m1) : Wb 1 v := by
  have v1 := val_le.2 h1
  have v2 := val_le.2 h2
  rw [n1_rung.2.1] at v1
  rw [m1_rung.2.2.1] at v2
  exact ⟨fin_between n1_rung.1 m1_rung.1 h1 h2, by omega, by omega⟩
theorem n1_le : key n1 ≤ key m1 := by
  apply val_le.1
  rw [n1_rung.2.1, m1_rung.2.2.1]
  omega
theorem clamp_any {x y z : Nat} (h : Lsr m1 x y) (k : Gtr n1 y z) : Tg (cls z) := by
  by_cases hx : cls x = none
  · exact Or.inl (k.none_ (h.none_ hx))
  · obtain ⟨q, hq⟩ := Option.ne_none_iff_exists'.1 hx
    obtain ⟨rfl, hn⟩ := cls_some hq
    have ny := h.n hn
    have ky := h.k hn
    have nz := k.n ny
    have kz := k.k ny
    have := n1_le
    exact Or.inr ⟨z, cls_nn nz, wb_of (by omega) (by omega)⟩
theorem clamp_fin {x y z : Nat} (hx : rung x < double.infRung) (h : Lsr m1 x y) (k : Gtr n1 y z) : Wb 1 z := by
  rcases clamp_any h k with q | ⟨u, hu, hw⟩
  · have := k.n (h.n (nn_fin hx))
    rw [cls_nn this] at q
    cases q
  · obtain ⟨rfl, -⟩ := cls_some hu
    exact hw
theorem lagl_len (sh : Option Nat) : ∀ (ts : List (Option Nat)) (v : Option Nat), (lagl sh v ts).length = ts.length
  | [], _ => rfl
  | t :: ts, v => by unfold lagl; rw [List.length_cons, List.length_cons, lagl_len sh ts]
theorem lag_good {s v : Nat} {ys : List Nat} (hS : Sh s) (hv : Wb 1 v) (hy : ∀ y ∈ ys, Tg (cls y)) (hl : ys.length ≤ 4096) (A : Option Addr) (c : Nat) (w : World) (h : Fls w A ys) :
    Calls Try.prog 40 #[.float .f64 v, .slice A ys.length c, .float .f64 s] w fun e w' => ∃ (zs : List Nat) (B : Option Addr) (d : Nat), e = .returned (.tuple #[.slice B zs.length d, .int .i64 0]) ∧ zs.length = ys.length ∧ (∀ z ∈ zs, Wb 2 z) ∧ Fls w' B zs ∧ Below w.heap.size w w' := by
  refine (lag_any v s ys A c w h).mono ?_
  rintro e w' ⟨x, zs, rfl, hz, hO, hb⟩
  rw [hS.no _ hl] at hz ⊢
  obtain ⟨B, d, rfl, hf, -⟩ := hO.fls
  rw [if_neg (by decide), cls_nn (nn_fin hS.f), cls_nn (nn_fin hv.f)] at hz
  have hlen : zs.length = ys.length := by
    have := congrArg List.length hz
    rw [List.length_map, lagl_len, List.length_map] at this
    exact this
  refine ⟨zs, B, d, rfl, hlen, fun z hzm => ?_, hf, hb⟩
  have hm : cls z ∈ lagl (some s) (some v) (ys.map cls) := by rw [← hz]; exact List.mem_map.2 ⟨z, hzm, rfl⟩
  obtain ⟨q, hq, hw⟩ := lag_all hS.toShr (ys.map cls) v ⟨hv.f, by have := hv.l; have := Int.natCast_nonneg (V m1); omega, by have := hv.h; have := Int.natCast_nonneg (V m1); omega⟩ (fun t ht => by
    obtain ⟨y, hym, rfl⟩ := List.mem_map.1 ht
    exact hy y hym) _ hm
  obtain ⟨rfl, -⟩ := cls_some hq
  exact hw
theorem lag_same {s v : Nat} (hS : Sh s) (hv : rung v < double.infRung) (A : Option Addr) (c : Nat) (w : World) (h : Fls w A [v, v]) :
    Calls Try.prog 40 #[.float .f64 v, .slice A 2 c, .float .f64 s] w fun e w' => ∃ (z1 z2 : Nat) (B : Option Addr) (d : Nat), e = .returned (.tuple #[.slice B 2 d, .int .i64 0]) ∧ (FloatKind.f64.format.order z1 v != some .eq) = false ∧ (FloatKind.f64.format.order z2 v != some .eq) = false ∧ Fls w' B [z1, z2] ∧ Below w.heap.size w w' := by
  refine (lag_any v s [v, v] A c w h).mono ?_
  rintro e w' ⟨x, zs, rfl, hz, hO, hb⟩
  rw [hS.no _ (by simp)] at hz ⊢
  obtain ⟨B, d, rfl, hf, -⟩ := hO.fls
  rw [if_neg (by decide), cls_nn (nn_fin hS.f)] at hz
  obtain ⟨z1, e1, f1, k1⟩ := lag_stay hS.toShr hv hv rfl
  obtain ⟨z2, e2, f2, k2⟩ := lag_stay hS.toShr f1 hv k1
  have hz' : zs.map cls = [some z1, some z2] := by
    rw [hz, List.map_cons, List.map_cons, List.map_nil, cls_nn (nn_fin hv)]
    unfold lagl
    rw [e1]
    unfold lagl
    rw [e2]
    rfl
  have hlen : zs.length = 2 := by
    have := congrArg List.length hz'
    rw [List.length_map] at this
    exact this
  match zs, hlen with
  | [y1, y2], _ =>
    simp only [List.map_cons, List.map_nil, List.cons.injEq, and_true] at hz'
    obtain ⟨rfl, -⟩ := cls_some hz'.1
    obtain ⟨rfl, -⟩ := cls_some hz'.2
    exact ⟨_, _, B, d, rfl, order_eq (nn_fin f1) (nn_fin hv) k1, order_eq (nn_fin f2) (nn_fin hv) k2, hf, hb⟩
theorem two_tests : floatBits .mul .f64 13835058055282163712 m1 = some (double.word true m2) ∧ floatBits .mul .f64 4611686018427387904 m1 = some m2 := by decide +kernel
theorem wb_tests {z : Nat} (h : Wb 2 z) : (FloatKind.f64.format.order z (double.word true m2) == some .gt || FloatKind.f64.format.order z (double.word true m2) == some .eq) = true ∧ (FloatKind.f64.format.order z m2 == some .lt || FloatKind.f64.format.order z m2 == some .eq) = true := by
  obtain ⟨w1, w2, w3⟩ := val_word true m_fin.1.2
  have f2 : rung (double.word true m2) < double.infRung := by rw [w1]; exact m_fin.1.2
  have g2 : rung m2 < double.infRung := by rw [two_m.1]; exact m_fin.1.2
  have v2 : val m2 = 2 * (V m1 : Int) := by unfold val; rw [two_m.1, two_m.2, m_V.1]; simp
  have v3 : val (double.word true m2) = -(2 * (V m1 : Int)) := by rw [w3, m_V.1]; simp
  have k1 : key (double.word true m2) ≤ key z := val_le.1 (by rw [v3]; exact h.l)
  have k2 : key z ≤ key m2 := val_le.1 (by rw [v2]; exact h.h)
  have nz := nn_fin h.f
  constructor
  · show (double.order z (double.word true m2) == some .gt || double.order z (double.word true m2) == some .eq) = true
    rw [order_key nz (nn_fin f2)]
    rcases Int.lt_or_eq_of_le k1 with q | q
    · rw [show compare (key z) (key (double.word true m2)) = .gt by rw [Int.compare_eq_gt]; exact q]; rfl
    · rw [show compare (key z) (key (double.word true m2)) = .eq by rw [Int.compare_eq_eq]; exact q.symm]; rfl
  · show (double.order z m2 == some .lt || double.order z m2 == some .eq) = true
    rw [order_key nz (nn_fin g2)]
    rcases Int.lt_or_eq_of_le k2 with q | q
    · rw [show compare (key z) (key m2) = .lt by rw [Int.compare_eq_lt]; exact q]; rfl
    · rw [show compare (key z) (key m2) = .eq by rw [Int.compare_eq_eq]; exact q]; rfl
theorem lit_fls {w : World} {g a b : Nat} {T : TypeId} (h : w.heap[g]? = some (.cells #[.float .f64 a, .float .f64 b] T)) : Fls w (some ⟨g, 0, none⟩) [a, b] :=
  lit_sl h rfl (fun r hr => by obtain ⟨n, _, rfl⟩ := List.mem_map.1 hr; rfl) (by simp)
theorem order_ne {x y : Nat} : (FloatKind.f64.format.order x y != some .eq) = true ↔ ord (cls x) (cls y) ≠ some .eq := by
  rw [← order_cls]
  simp
  rfl
set_option maxHeartbeats 16000000 in
set_option maxRecDepth 100000 in
theorem slopes_walk (f t r ti u sh : Nat) (ts : List Nat) (A : Option Addr) (c : Nat) (w : World) (h : Fls w A ts) :
    Calls Try.prog 10 #[.float .f64 f, .float .f64 t, .float .f64 r, .float .f64 ti, .float .f64 u, .slice A ts.length c, .float .f64 sh] w fun e w' => e = .returned (.bool true) ∧ Below w.heap.size w w' := by
  have KW := fun X => works_any X
  obtain ⟨FS, GS, hs, cs⟩ := veil (op := .sub) (Or.inr (Or.inl rfl)) 86
  have hwl : Hid (∀ X, Below w.heap.size w X → Fls X A ts) := Lib.hid fun X d => Sl.below' h d
  have hle := h.1
  rw [List.length_map] at hle
  clear h
  go_enter Try.func10, Try.ntmps10
  go_upto_region 3 with (go_at_call 32; (with_reducible refine (KW _).mono ?_); rintro e w1 ⟨rfl, b1⟩)
  replace b1 := Lib.hid b1
  go_upto_region 5 with fail
  have x1 := Lib.hid (heap_alloc_at w1 (.cells #[.float .f64 f, .float .f64 t, .float .f64 r, .float .f64 ti, .float .f64 u, .float .f64 sh] 86))
  have d1 := Lib.hid (b1.out.alloc b1.out.size (.cells #[.float .f64 f, .float .f64 t, .float .f64 r, .float .f64 ti, .float .f64 u, .float .f64 sh] 86))
  obtain ⟨B, hB⟩ : ∃ B, B = w1.heap.size := ⟨_, rfl⟩
  rw [← hB] at x1 ⊢
  generalize w1.alloc (.cells #[.float .f64 f, .float .f64 t, .float .f64 r, .float .f64 ti, .float .f64 u, .float .f64 sh] 86) = w2 at *
  clear b1 hB KW
  obtain ⟨xs, hxs⟩ : ∃ xs, xs = [f, t, r, ti, u, sh] := ⟨_, rfl⟩
  have hxl : Hid (xs.length = 6) := Lib.hid (by rw [hxs]; rfl)
  have hcell : Hid (∀ X : World, X.heap = w2.heap → ∀ k (hk : k < 6), X.cell? ⟨B, k, none⟩ = some (.float .f64 (xs[k]'(by rw [hxl.out]; exact hk)))) := Lib.hid (by
    subst hxs
    intro X hX k hk
    have hx2 : X.heap[B]? = some (.cells #[.float .f64 f, .float .f64 t, .float .f64 r, .float .f64 ti, .float .f64 u, .float .f64 sh] 86) := by rw [hX]; exact x1.out
    rw [cell_of_row _ _ k _ 86 (0, 0) hx2]
    match k, hk with
    | 0, _ => rfl
    | 1, _ => rfl
    | 2, _ => rfl
    | 3, _ => rfl
    | 4, _ => rfl
    | 5, _ => rfl)
  replace hxs := Lib.hid hxs
  go_loopw [15, 43] (fun s15 s43 wr => ∃ k : Nat, k ≤ 6 ∧ s43 = .int .i64 k ∧ s15 = .bool (anyBad (xs.take k)) ∧ Drawn w2 wr) (fun _ s43 _ => 6 - (RowKit.intOf s43).toNat)
  case atStart => exact ⟨0, by omega, rfl, rfl, Drawn.refl _⟩
  case round =>
    obtain ⟨k, hk, rfl, rfl, hd⟩ := hrel
    obtain ⟨wk, rfl⟩ : ∃ y : World, y = wr := ⟨_, rfl⟩
    by_cases hk6 : k = 6
    · subst hk6
      rw [List.take_of_length_le (by rw [hxl.out]; omega)]
      obtain ⟨bad, hbad⟩ : ∃ bad, bad = anyBad xs := ⟨_, rfl⟩
      rw [← hbad]
      have hbel : Hid (Below w.heap.size w wk) := Lib.hid (hd.after d1.out)
      replace hbad := Lib.hid hbad
      clear hcell x1 d1 hd
      cases bad with
      | true =>
        have tok := Lib.hid trivial
        have KN := fun X => nan_lit X
        have KA := fun X => at_any 9221120237041090561 t r ti X
        rw [cls_nan, atc_nan] at KA
        go_wp2_with (first
          | (go_at_call 42; (with_reducible refine (KN _).mono ?_); rintro e w3 ⟨rfl, rfl⟩)
          | (go_at_call 36; clear tok; (with_reducible refine (KA _).mono ?_); rintro e w4 ⟨z1, rfl, hz1, hb1⟩)
          | (go_at_call 36; (with_reducible refine (KA _).mono ?_); rintro e w5 ⟨z2, rfl, hz2, hb2⟩))
        go_ret
        exact ⟨ret_bool (order_ne.2 (by rw [hz1, ord_none]; simp)), (hbel.out.trans (hb1.mono hbel.out.size)).trans (hb2.mono (Nat.le_trans hbel.out.size hb1.size))⟩
      | false =>
        have hall := good_all hbad.out.symm
        rw [hxs.out] at hall
        have hf := hall f (by simp)
        have ht := hall t (by simp)
        have hr := hall r (by simp)
        have hti := hall ti (by simp)
        have hu := hall u (by simp)
        have hsh := hall sh (by simp)
        clear hall hbad hxs hxl hs cs
        have KAr := fun X => abs_any r X
        have KAt := fun X => abs_any ti X
        have KAu := fun X => abs_any u X
        obtain ⟨ar1, ar2⟩ := abs_fin hr
        obtain ⟨at1, at2⟩ := abs_fin hti
        obtain ⟨au1, au2⟩ := abs_fin hu
        have KMn := fun X => min_any (rung ti) (rung u) at1 X
        have KMx := fun X => max_any (rung ti) (rung u) at1 X
        generalize rung r = R at *
        generalize rung ti = T at *
        generalize rung u = UU at *
        go_upto_region 13 with (first
          | (go_at_call 43; (with_reducible refine (KAr _).mono ?_); rintro e w3 ⟨rfl, rfl⟩)
          | (go_at_call 43; (with_reducible refine (KAt _).mono ?_); rintro e w3 ⟨rfl, rfl⟩)
          | (go_at_call 43; (with_reducible refine (KAu _).mono ?_); rintro e w3 ⟨rfl, rfl⟩)
          | (go_at_call 44; (with_reducible refine (KMn _).mono ?_); rintro e w3 ⟨x1, rfl, rfl, hx1⟩))
        go_upto_region 14 with (first
          | (go_at_call 43; (with_reducible refine (KAr _).mono ?_); rintro e w3 ⟨rfl, rfl⟩)
          | (go_at_call 43; (with_reducible refine (KAt _).mono ?_); rintro e w3 ⟨rfl, rfl⟩)
          | (go_at_call 43; (with_reducible refine (KAu _).mono ?_); rintro e w3 ⟨rfl, rfl⟩)
          | (go_at_call 45; (with_reducible refine (KMx _).mono ?_); rintro e w3 ⟨x2, rfl, rfl, hx2⟩))
        have hx1e := hx1.e au1
        have hx2e := hx2.e au1
        have k1 := hx1.k (nn_fin au1)
        have k2 := hx2.k (nn_fin au1)
        have f1 : rung x1 < double.infRung := by rcases hx1e with rfl | rfl <;> assumption
        have f2 : rung x2 < double.infRung := by rcases hx2e with rfl | rfl <;> assumption
        have g1 : neg x1 = false := by rcases hx1e with rfl | rfl <;> assumption
        have g2 : neg x2 = false := by rcases hx2e with rfl | rfl <;> assumption
        have k12 : key x1 ≤ key x2 := by omega
        have z0f : rung 0 < double.infRung := by rw [infRung_eq]; decide
        have g0 : neg 0 = false := by decide
        clear hx1 hx2 hx1e hx2e k1 k2 KAr KAt KAu KMn KMx
        obtain ⟨hm1, hm2⟩ := fmul_le f1 f2 ar1 g1 g2 ar2 k12
        obtain ⟨-, nd1, hd1⟩ := far_nn ar1 f1 ar2 g1
        obtain ⟨-, nd2, hd2⟩ := far_nn ar1 f2 ar2 g2
        have hd0 : key (fmul R 0) = 0 := fmul_nought ar1
        have KA1 := fun X => at_good hf ht ar1 f1 ar2 g1 X
        have KA2 := fun X => at_good hf ht ar1 f2 ar2 g2 X
        have KA0 := fun X => at_good hf ht ar1 z0f ar2 g0 X
        have i1 := rmp_in (d := fmul R x1) hf ht hd1
        have i2 := rmp_in (d := fmul R x2) hf ht hd2
        have iu := fun q => rmp_up (d1 := fmul R x1) (d2 := fmul R x2) hf ht hd1 hm2 q
        have id := fun q => rmp_down (d1 := fmul R x1) (d2 := fmul R x2) hf ht hd1 hm2 q
        have i0 := rmp_start (d := fmul R 0) hf ht hd0
        generalize rmp f t (fmul R x1) = a at *
        generalize rmp f t (fmul R x2) = b at *
        generalize rmp f t (fmul R 0) = z at *
        have KL := fun X => min_any f t hf X
        have KH := fun X => max_any f t hf X
        replace hbel := hbel.out
        clear f1 f2 g1 g2 k12 hm1 hm2 nd1 nd2 hd1 hd2 hd0 z0f g0 ar1 ar2 at1 at2 au1 au2
        go_upto_region 15 with (go_at_call 36; (with_reducible refine (KA1 _).mono ?_); rintro e w4 ⟨rfl, na, b1⟩)
        go_upto_region 16 with (go_at_call 36; (with_reducible refine (KA2 _).mono ?_); rintro e w5 ⟨rfl, nb, b2⟩)
        go_upto_region 17 with (go_at_call 44; (with_reducible refine (KL _).mono ?_); rintro e w6 ⟨lo, rfl, rfl, hlo⟩)
        go_upto_region 18 with (go_at_call 45; (with_reducible refine (KH _).mono ?_); rintro e w6 ⟨hi, rfl, rfl, hhi⟩)
        have nf := nn_fin hf
        have nt := nn_fin ht
        have klo := hlo.k nt
        have khi := hhi.k nt
        have nlo := hlo.n nt
        have nhi := hhi.n nt
        have g6 := (hbel.trans (b1.mono hbel.size)).trans (b2.mono (Nat.le_trans hbel.size b1.size))
        go_cut [150] from 95 to 149 (fun x wc => x = .bool false ∧ Below w.heap.size w wc)
        case first =>
          have n1 := order_lt na nlo (by omega)
          have n2 := order_gt na nhi (by omega)
          have n3 := order_lt nb nlo (by omega)
          have n4 := order_gt nb nhi (by omega)
          have n5 := order_eq na na rfl
          have n6 := order_eq nb nb rfl
          have n7 : nn z → (FloatKind.f64.format.order z f != some .eq) = false := fun nz => order_eq nz nf i0
          replace n7 := Lib.hid n7
          replace g6 := Lib.hid g6
          rcases Int.lt_trichotomy (key f) (key t) with q | q | q
          · have n8 := order_gt' nt nf q
            have n9 := order_gt na nb (iu q)
            have n10 := order_lt nt nf (by omega)
            clear iu id i0 i1 i2 klo khi nlo nhi hlo hhi q hbel b1 b2 KA1 KA2 KL KH
            go_wp2_with (go_at_call 36; (with_reducible refine (KA0 _).mono ?_); rintro e w7 ⟨rfl, nz, b3⟩; have n11 := n7.out nz)
            go_meet
            case rel => exact ⟨rfl, g6.out.trans (b3.mono g6.out.size)⟩
          · have n8 := order_gt nt nf (by omega)
            have n10 := order_lt nt nf (by omega)
            clear iu id i0 i1 i2 klo khi nlo nhi hlo hhi q hbel b1 b2 KA1 KA2 KL KH
            go_wp2_with (go_at_call 36; (with_reducible refine (KA0 _).mono ?_); rintro e w7 ⟨rfl, nz, b3⟩; have n11 := n7.out nz)
            go_meet
            case rel => exact ⟨rfl, g6.out.trans (b3.mono g6.out.size)⟩
          · have n8 := order_gt nt nf (by omega)
            have n9 := order_lt na nb (id q)
            have n10 := order_lt' nt nf q
            clear iu id i0 i1 i2 klo khi nlo nhi hlo hhi q hbel b1 b2 KA1 KA2 KL KH
            go_wp2_with (go_at_call 36; (with_reducible refine (KA0 _).mono ?_); rintro e w7 ⟨rfl, nz, b3⟩; have n11 := n7.out nz)
            go_meet
            case rel => exact ⟨rfl, g6.out.trans (b3.mono g6.out.size)⟩
        obtain ⟨rfl, g7⟩ := hcut
        obtain ⟨w7, rfl⟩ : ∃ y : World, y = wc := ⟨_, rfl⟩
        clear iu id i0 i1 i2 klo khi nlo nhi hlo hhi hbel b1 b2 KA1 KA2 KA0 KL KH na nb nf nt g6
        go_upto_region 20 with fail
        go_cut [158] from 151 to 157 (fun x wc => ∃ q : Bool, x = .bool q ∧ Hid (q = false → Sh sh) ∧ wc = w7)
        case first =>
          have hx : Hid ((FloatKind.f64.format.order sh 0 == some .gt) = true → (FloatKind.f64.format.order sh 4607182418800017408 == some .lt || FloatKind.f64.format.order sh 4607182418800017408 == some .eq) = true → Sh sh) := Lib.hid (sh_own hsh)
          cases hG : (FloatKind.f64.format.order sh 0 == some .gt) with
          | false =>
            go_wp2
            go_meet
            case rel => exact ⟨_, rfl, Lib.hid (fun q => by cases q), rfl⟩
          | true =>
            cases hL : (FloatKind.f64.format.order sh 4607182418800017408 == some .lt || FloatKind.f64.format.order sh 4607182418800017408 == some .eq) with
            | false =>
              go_wp2
              go_meet
              case rel => exact ⟨_, rfl, Lib.hid (fun q => by cases q), rfl⟩
            | true =>
              have hq := Lib.hid (hx.out hG hL)
              go_wp2
              go_meet
              case rel => exact ⟨_, rfl, Lib.hid (fun _ => hq.out), rfl⟩
        obtain ⟨q, rfl, hq, rfl⟩ := hcut
        obtain ⟨w7, rfl⟩ : ∃ y : World, y = wc := ⟨_, rfl⟩
        go_upto_if 158 with fail
        go_cut [6] from 158 to 158 (fun x wc => ∃ s, x = .float .f64 s ∧ Sh s ∧ wc = w7)
        case first =>
          cases q with
          | true =>
            go_wp2
            go_meet
            case rel => exact ⟨_, rfl, sh_half, rfl⟩
          | false =>
            go_wp2
            go_meet
            case rel => exact ⟨_, rfl, (by first | exact hq.out rfl | exact hq.out trivial), rfl⟩
        obtain ⟨s, rfl, hS, rfl⟩ := hcut
        obtain ⟨w7, rfl⟩ : ∃ y : World, y = wc := ⟨_, rfl⟩
        have KX := fun X => ldexp_any X
        go_upto_region 23 with (go_at_call 46; (with_reducible refine (KX _).mono ?_); rintro e w8 ⟨rfl, rfl⟩)
        have m1f := m1_rung.1
        have n1f := n1_rung.1
        have hneg := fun X => neg_run X
        have KL := fun X => min_any m1 f m1f X
        have KG := fun (y : Nat) X => max_any n1 y n1f X
        go_upto_region 24 with (first
          | (go_at_call 44; (with_reducible refine (KL _).mono ?_); rintro e w9 ⟨lo2, rfl, rfl, hlo2⟩)
          | (go_at_call 45; (with_reducible refine (KG _ _).mono ?_); rintro e w9 ⟨v, rfl, rfl, hv2⟩))
        have hv : Wb 1 v := clamp_fin hf hlo2 hv2
        clear hlo2 hv2 KX KL
        replace hv := Lib.hid hv
        go_upto_region 26 with fail
        go_loopw [26, 27] (fun s26 s27 wr => ∃ (k : Nat) (ys : List Nat), k ≤ ts.length ∧ k ≤ 100 ∧ s27 = .int .i64 k ∧ Hid (ys.length = k ∧ ∀ y ∈ ys, Tg (cls y)) ∧ Hid (Own wr w9.heap.size 86 1 (ys.map flrow) s26) ∧ Hid (Below w9.heap.size w9 wr)) (fun _ s27 _ => ts.length - (RowKit.intOf s27).toNat)
        case atStart => exact ⟨0, [], by omega, by omega, rfl, Lib.hid ⟨rfl, by simp⟩, Lib.hid (Own.nil _ _ _ _), Lib.hid (Below.refl _ _)⟩
        case round =>
          obtain ⟨k, ys, hk1, hk2, rfl, hys, hO, hd⟩ := hrel
          obtain ⟨wk, rfl⟩ : ∃ y : World, y = wr := ⟨_, rfl⟩
          by_cases hend : k < ts.length ∧ k < 100
          case neg =>
            go_upto_region 26 with fail
            go_cut [173] from 166 to 172 (fun x wc => x = .bool false ∧ wc = wk)
            case first =>
              by_cases h1 : k < ts.length
              · have h2 : ¬ k < 100 := fun q => hend ⟨h1, q⟩
                have h1' : (k : Int) < (ts.length : Int) := by omega
                have h2' : ¬ (k : Int) < 100 := by omega
                clear hend h1 h2
                go_wp2
                go_meet
                case rel => exact ⟨rfl, rfl⟩
              · have h1' : ¬ (k : Int) < (ts.length : Int) := by omega
                clear hend h1
                go_wp2
                go_meet
                case rel => exact ⟨rfl, rfl⟩
            obtain ⟨rfl, rfl⟩ := hcut
            obtain ⟨wk, rfl⟩ : ∃ y : World, y = wc := ⟨_, rfl⟩
            have gk : Below w.heap.size w wk := g7.trans (hd.out.mono g7.size)
            obtain ⟨Ay, cy, hsy, hfy, -⟩ := hO.out.fls
            subst hsy
            have KLg := lag_good hS hv.out hys.out.2 (by rw [hys.out.1]; omega) Ay cy wk hfy
            rw [hys.out.1] at KLg ⊢
            replace gk := Lib.hid gk
            clear hend hd hO hfy hys KG hneg hwl
            go_upto_region 30 with (go_at_call 40; (with_reducible refine (KLg).mono ?_); rintro e wm ⟨zs, Az, cz, rfl, hzl, hzw, hfz, hbm⟩)
            have gm := Lib.hid (gk.out.trans (hbm.mono gk.out.size))
            have hx2 := heap_alloc_at wm (.cells #[.float .f64 v, .float .f64 v] 86)
            have hfv : Fls (wm.alloc (.cells #[.float .f64 v, .float .f64 v] 86)) (some ⟨wm.heap.size, 0, none⟩) [v, v] := lit_fls hx2
            have hb2 := below_al (Below.refl wm.heap.size wm) (.cells #[.float .f64 v, .float .f64 v] 86)
            have KLs := lag_same hS hv.out.f (some ⟨wm.heap.size, 0, none⟩) 2 _ hfv
            replace hzl := Lib.hid hzl
            replace hzw := Lib.hid hzw
            have hfz2 := Lib.hid (show Fls _ Az zs from Sl.below' hfz hb2)
            have gm2 := Lib.hid (gm.out.trans (hb2.mono gm.out.size))
            clear hfz hbm hx2 hfv hb2 KLg gk gm
            go_upto_region 31 with (go_at_call 40; (with_reducible refine (KLs).mono ?_); rintro e wn ⟨z1, z2, Bz, dz, rfl, n1, n2, hfs, hbn⟩)
            have hfz3 := Lib.hid (show Fls _ Az zs from Sl.below' hfz2.out hbn)
            have gn := Lib.hid (gm2.out.trans (hbn.mono gm2.out.size))
            obtain ⟨bs, os, rfl, -, c0⟩ := hfs.at_ (k := 0) (by simp)
            obtain ⟨bs', os', hee, -, c1⟩ := hfs.at_ (k := 1) (by simp)
            obtain ⟨rfl, rfl, -⟩ := Addr.mk.inj (Option.some.inj hee)
            replace c0 : wn.cell? ⟨bs, os, none⟩ = some (.float .f64 z1) := c0
            replace c1 : wn.cell? ⟨bs, os + 1, none⟩ = some (.float .f64 z2) := c1
            have n3 : (((k : Nat) : Int) != ((k : Nat) : Int)) = false := bne_self_eq_false _
            clear hfs hbn hfz2 gm2 KLs hee
            go_upto_region 34 with fail
            clear c0 c1 n1 n2 n3
            have KM1 := fun X => run_float_arith (P := Try.prog) X .mul 86 .f64 13835058055282163712 m1 (double.word true m2) two_tests.1
            have KM2 := fun X => run_float_arith (P := Try.prog) X .mul 86 .f64 4611686018427387904 m1 m2 two_tests.2
            obtain ⟨L2, hL2⟩ : ∃ L2, L2 = double.word true m2 := ⟨_, rfl⟩
            have hwt := fun (z : Nat) (h : Wb 2 z) => wb_tests h
            rw [← hL2] at KM1 hwt
            replace hwt := Lib.hid hwt
            replace hL2 := Lib.hid hL2
            go_loopw [32] (fun s32 wr => ∃ j : Nat, j ≤ k ∧ s32 = .int .i64 j ∧ Hid (Fls wr Az zs) ∧ Hid (Below w.heap.size w wr)) (fun s32 _ => k - (RowKit.intOf s32).toNat)
            case atStart => exact ⟨0, by omega, rfl, hfz3, gn⟩
            case round =>
              clear hfz3 gn
              obtain ⟨j, hj, rfl, hfz3, gn⟩ := hrel
              by_cases hjl : j = k
              · subst hjl
                go_wp2
                go_ret
                exact ⟨rfl, gn.out⟩
              have hjl' : j < k := by omega
              have hjl2 : (j : Int) < (k : Int) := by omega
              obtain ⟨b9, o9, rfl, -, c9⟩ := hfz3.out.at_ (k := j) (by rw [hzl.out]; exact hjl')
              have hzj := hwt.out _ (hzw.out _ (List.getElem_mem (by rw [hzl.out]; exact hjl' : j < zs.length)))
              generalize zs[j]'(by rw [hzl.out]; exact hjl') = zj at *
              obtain ⟨t1, t2⟩ := hzj
              go_wp2
              go_roundw
              case rel => exact ⟨j + 1, by omega, by go_num, hfz3, gn⟩
              case measure => simp [RowKit.intOf]; omega
          obtain ⟨hkl, hk3⟩ := hend
          have hkl' : (k : Int) < (ts.length : Int) := by omega
          have hk3' : (k : Int) < 100 := by omega
          obtain ⟨bt, ot, rfl, hbt, ct⟩ := (hwl.out wk (g7.trans (hd.out.mono g7.size))).at_ hkl
          generalize ts[k] = x at *
          have KL := fun X => min_any m1 x m1f X
          have hys1 := Lib.hid hys.out.1
          have hOw := hO.out
          have hlr : Hid ((ys.map flrow).length = k) := Lib.hid (by rw [List.length_map]; exact hys1.out)
          have hsz := hd.out.size
          go_upto_region 28 with fail
          go_wp2_with (first
            | (go_at_call 44; (with_reducible refine (KL _).mono ?_); rintro e w9 ⟨z1, rfl, rfl, hz1⟩)
            | (go_at_call 45; (with_reducible refine (KG _ _).mono ?_); rintro e w9 ⟨z2, rfl, rfl, hz2⟩)
            | (at_builtin; refine wpList_push_at elt87 rfl _ _ rfl rfl (hOw.alloc _) (flrow z2) w9.heap.size 86 rfl (heap_alloc_at _ _) rfl (by simp [flrow, Value.oneCell']) (by rw [hlr.out]; omega) (by rw [size_al]; omega) ?_; intro v' w15 ho' hb15 hs15 _ hgr _))
          go_roundw
          case rel => exact ⟨k + 1, ys ++ [z2], by omega, by omega, by go_num, Lib.hid ⟨by rw [List.length_append, hys.out.1]; rfl, fun y hy => by
            rcases List.mem_append.1 hy with q | q
            · exact hys.out.2 y q
            · rw [List.mem_singleton.1 q]; exact clamp_any hz1 hz2⟩, Lib.hid (by rw [List.map_append]; exact ho'), Lib.hid (hd.out.trans (((Below.refl _ _).alloc hsz _).trans hb15))⟩
          case measure => simp [RowKit.intOf]; omega
    have hk7 : k < 6 := by omega
    have hx := hcell.out wk hd.heap k hk7
    have hat := Lib.hid (anyBad_take xs (k := k) (by rw [hxl.out]; exact hk7))
    generalize xs[k]'(by rw [hxl.out]; exact hk7) = x at *
    generalize anyBad (xs.take k) = b at *
    have hd' := Lib.hid hd
    have hft : (ord (op2 .sub (cls x) (cls x)) (some 0) == some .eq) = isFin (cls x) := fin_test _ fun y e => by obtain ⟨rfl, hh⟩ := cls_some e; exact hh
    have hk8 : (k : Int) < 6 := by omega
    clear hd
    go_upto_region 7 with fail
    cases b with
    | true =>
      go_wp2
      go_roundw
      case rel => exact ⟨k + 1, by omega, by go_num, by rw [hat.out]; rfl, hd'.out⟩
      case measure => simp [RowKit.intOf]; omega
    | false =>
      have ht : ∀ W, (FloatKind.f64.format.order (FS x x W) 0 != some .eq) = !isFin (cls x) := fun W => by
        rw [← hft, ← cs x x W, ← order_z]; rfl
      go_wp2
      go_roundw
      case rel => exact ⟨k + 1, by omega, by go_num, by rw [hat.out]; rfl, hd'.out.drewN _⟩
      case measure => simp [RowKit.intOf]; omega
end Go.Proofs.Ytbbjnhajmckjoaa
