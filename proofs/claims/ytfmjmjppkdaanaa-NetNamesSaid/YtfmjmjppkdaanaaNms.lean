/- NetNames, walked. -/
import Derived.Test.YtfmjmjppkdaanaaPas
import Derived.Test.YtfmjmjppkdaanaaKeep
namespace Go.Proofs.Ytfmjmjppkdaanaa
open Go.RowKit Go.BigFrame flt Ieee

def unit : Part := ⟨1, one, []⟩
def urow : List Value := [.int .u8 1, .float .f64 4607182418800017408, .slice none 0 0]
theorem urow_prt (S : Nat → Prop) (w : World) : prt S w unit urow := ⟨none, 0, rfl, Sl.nil _ _ _ _, Nat.le_refl _⟩
theorem prts_units (S : Nat → Prop) (w : World) (k : Nat) : Prts S w (List.replicate k unit) (List.replicate k urow) := by
  refine ⟨by rw [List.length_replicate, List.length_replicate], fun i p r hp hr => ?_⟩
  have hi : i < k := by
    have := (List.getElem?_eq_some_iff.1 hp).1
    simpa using this
  rw [List.getElem?_replicate, if_pos hi] at hp hr
  cases hp
  cases hr
  exact urow_prt S w
theorem may_unit (i : Int) : mayp unit i = true := by
  have h : mayp unit i = mayp unit 0 := rfl
  rw [h]
  decide +kernel
theorem good_units {k : Nat} (h1 : 1 ≤ k) (h2 : k ≤ 256) : Good (List.replicate k unit) := by
  refine ⟨by rw [List.length_replicate]; exact h1, by rw [List.length_replicate]; exact h2, fun i hi => ?_⟩
  rw [List.getElem_replicate]
  exact may_unit i
theorem pn_units {w : World} {B k : Nat} {v : Value} (ho : Own w B 47 3 (List.replicate k urow) v) : ∃ A c, v = .slice A k c ∧ Pn w A (List.replicate k unit) := by
  obtain ⟨A, c, e, hp⟩ := pn_own (S := fun _ => True) ho (prts_units _ _ k)
  rw [List.length_replicate] at e
  exact ⟨A, c, e, hp⟩
theorem pn_cells {W : World} {g : Nat} {kd : Int} {x : Nat} (c0 : W.cell? ⟨g, 0, none⟩ = some (.int .u8 kd)) (c1 : W.cell? ⟨g, 1, none⟩ = some (.float .f64 x)) (c2 : W.cell? ⟨g, 2, none⟩ = some (.slice none 0 0)) (hlt : g < W.heap.size) : Pn W (some ⟨g, 0, none⟩) [⟨kd, x, []⟩] := by
  refine ⟨by (show 1 ≤ 9223372036854775807); decide, fun k hk => ?_⟩
  obtain rfl : k = 0 := by simpa using hk
  exact ⟨g, 0, none, 0, rfl, hlt, c0, c1, c2, ints_nil _, Nat.le_refl _⟩
def litone : Value := .float .f64 4607182418800017408
theorem za (A : Option Addr) (c : Nat) (W : World) (hp : Pn W A (List.replicate 256 unit)) : Calls Try.prog 25 #[.slice A 256 c, .float .f64 4607182418800017408] W fun e w' => ∃ r s, e = .returned (.tuple #[.complex .f64 r s, .int .i64 0]) ∧ Below W.heap.size W w' := by
  have q := z_good (List.replicate 256 unit) A c one W hp (good_units (by omega) (by omega)) rate_one
  rw [List.length_replicate] at q
  exact q.mono fun e w' ⟨r, s, h1, _, h2⟩ => ⟨r, s, h1, h2⟩
theorem zbad {l : List Part} {n : Nat} (hl : l.length = n) (hn : n = 0 ∨ 256 < n) (A : Option Addr) (c : Nat) (W : World) (hp : Pn W A l) : Calls Try.prog 25 #[.slice A n c, .float .f64 4607182418800017408] W fun e w' => e = .returned (.tuple #[.complex .f64 0 0, .int .i64 290]) ∧ Below W.heap.size W w' := by
  have hg : ¬ Good l := fun h => by have h1 := h.1; have h2 := h.2.1; omega
  have q := z_bad l A c one W hp (fun h => hg h.1)
  have e : err l (cls one) = 290 := if_neg hg
  rw [hl, e] at q
  exact q
theorem znil (W : World) : Calls Try.prog 25 #[.slice none 0 0, .float .f64 4607182418800017408] W fun e w' => e = .returned (.tuple #[.complex .f64 0 0, .int .i64 290]) ∧ Below W.heap.size W w' :=
  zbad (l := []) rfl (Or.inl rfl) none 0 W ⟨by simp, fun k hk => absurd hk (by simp)⟩
theorem sa (A : Option Addr) (c : Nat) (W : World) (hp : Pn W A [unit]) : Calls Try.prog 29 #[.slice A 1 c, .float .f64 4607182418800017408, .float .f64 4607182418800017408, .int .i64 4096] W fun e w' => ∃ v, e = .returned (.tuple #[v, .int .i64 0]) ∧ Below W.heap.size W w' := by
  have q := sweep_good [unit] A c one one 4096 W hp ⟨good_units (k := 1) (by omega) (by omega), rate_one, by decide +kernel, by decide +kernel, by omega, by omega⟩
  exact q.mono fun e w' ⟨v, rs, h1, _, _, h2⟩ => ⟨v, h1, h2⟩
theorem sb (A : Option Addr) (c : Nat) (W : World) (hp : Pn W A [unit]) : Calls Try.prog 29 #[.slice A 1 c, .float .f64 4607182418800017408, .float .f64 4607182418800017408, .int .i64 4097] W fun e w' => e = .returned (.tuple #[.slice none 0 0, .int .i64 1]) ∧ Below W.heap.size W w' := by
  have hno : ¬ SwOk [unit] (cls one) (cls one) 4097 := fun h => absurd h.2.2.2.2.2 (by omega)
  have q := sweep_bad [unit] A c one one 4097 W hp hno
  have hgu : Good [unit] := good_units (k := 1) (by omega) (by omega)
  have e : swerr [unit] (cls one) (cls one) 4097 = 1 := by
    unfold swerr
    rw [if_pos hgu, if_neg hno]
  rw [e] at q
  exact q
set_option maxHeartbeats 8000000 in
set_option maxRecDepth 100000 in
theorem names_walk (w : World) : Calls Try.prog 7 #[] w fun e w' => e = .returned (.bool true) ∧ Below w.heap.size w w' := by
  have hrep : ∀ k : Nat, List.replicate k urow ++ [urow] = List.replicate (k + 1) urow := fun k => (List.replicate_succ' ..).symm
  go_enter Try.func7, Try.ntmps7
  go_wp2
  go_loopw [1, 2] (fun s1 s2 wr => ∃ (k : Nat), k ≤ 256 ∧ s2 = .int .i64 k ∧ Own wr w.heap.size 47 3 (List.replicate k urow) s1 ∧ Below w.heap.size w wr) (fun _ v _ => 256 - (intOf v).toNat)
  case atStart => exact ⟨0, by omega, rfl, Own.nil _ _ _ _, Below.refl _ _⟩
  case round =>
    obtain ⟨k, hk, rfl, ho, hd⟩ := hrel
    obtain ⟨wi, rfl⟩ : ∃ x : World, x = wr := ⟨_, rfl⟩
    have hbs : Hid (w.heap.size ≤ wi.heap.size) := Lib.hid hd.size
    by_cases hk6 : k = 256
    · subst hk6
      have hlr : (List.replicate 256 urow).length = 256 := List.length_replicate
      obtain ⟨g, cap, rfl, hg1, hg2, hcap⟩ := ho.form (by rw [hlr]; decide)
      rw [hlr] at hcap ho ⊢
      have hce : ∀ f u, urow[f]? = some u → wi.cell? ⟨g, f, none⟩ = some u := fun f u hu => by
        have ho' := ho
        rw [← hlr] at ho'
        have q := (ho'.cell (k := 0) (by rw [hlr]; decide) (f := f) (u := u) (by rw [List.getElem_replicate]; exact hu)).1
        rw [Nat.zero_mul, Nat.zero_add] at q
        exact q
      have hC := Lib.hid (fun W (hW : Below wi.heap.size wi W) => (⟨(hW.cell hg2).trans (hce 0 _ rfl), (hW.cell hg2).trans (hce 1 _ rfl), (hW.cell hg2).trans (hce 2 _ rfl)⟩ : W.cell? ⟨g, 0, none⟩ = some (.int .u8 1) ∧ W.cell? ⟨g, 1, none⟩ = some (.float .f64 4607182418800017408) ∧ W.cell? ⟨g, 2, none⟩ = some (.slice none 0 0)))
      obtain ⟨A6, c6, e6, hp6⟩ := pn_units ho
      obtain ⟨rfl, _, rfl⟩ := Value.slice.inj e6
      clear e6 hce hlr
      have hc1 : 1 ≤ cap := by omega
      have hgl := Lib.hid hg2
      clear hg1 hg2
      go_upto_region 9 with (first
        | (go_at_call 25; (with_reducible refine (za _ _ _ hp6).mono ?_); rintro e w5 ⟨r, s, rfl, hb5⟩; obtain ⟨c0, c1, c2⟩ := hC.out _ hb5; replace ho := ho.below hb5; replace hb5 := Lib.hid hb5)
        | (at_builtin; refine wpList_push_keep el41 rfl _ _ rfl rfl (ho.alloc _) List.length_replicate urow w5.heap.size 47 rfl (heap_alloc_at _ _) rfl (by simp [urow, Value.oneCell']) (by decide) (by rw [size_al]; have := hb5.out.size; have := hbs.out; omega) ?_; intro v' w6 ho6 hb6 hs6 hk6; rw [hrep] at ho6; obtain ⟨A7, c7, rfl, hp7⟩ := pn_units ho6; have hal : Below w5.heap.size w5 (w5.alloc _) := below_al (Below.refl _ _) (.cells #[.int .u8 1, .float .f64 4607182418800017408, .slice none 0 0] 47); have hg5 : g < w5.heap.size := (by have := hgl.out; have := hb5.out.size; omega); have y0 := hk6 0 _ (by decide) ((hal.cell hg5).trans c0); have y1 := hk6 1 _ (by decide) ((hal.cell hg5).trans c1); have y2 := hk6 2 _ (by decide) ((hal.cell hg5).trans c2); replace hg5 := Lib.hid hg5; have hb6' := Lib.hid ((hd.trans ((hb5.out.mono hbs.out).trans (hal.mono (Nat.le_trans hbs.out hb5.out.size)))).trans hb6); have hs6' := Lib.hid hs6; clear hk6 hb6 hs6 ho6 hal)
        | (go_at_call 25; (with_reducible refine (zbad List.length_replicate (Or.inr (by decide)) _ _ _ hp7).mono ?_); rintro e w7 ⟨rfl, hb7⟩)
        | (go_at_call 25; (with_reducible refine (znil _).mono ?_); rintro e w8 ⟨rfl, hb8⟩))
      have hg6 : g < w6.heap.size := by have q := hs6'.out; rw [size_al] at q; have := hg5.out; omega
      have hb68 : Below w6.heap.size w6 w8 := hb7.trans (hb8.mono hb7.size)
      have x0 := (hb68.cell hg6).trans y0
      have x1 := (hb68.cell hg6).trans y1
      have x2 := (hb68.cell hg6).trans y2
      have hp1 : Pn w8 (some ⟨g, 0, none⟩) [unit] := pn_cells x0 x1 x2 (by have := hb68.size; omega)
      have hbw8 := hb6'.out.trans (hb68.mono hb6'.out.size)
      clear y0 y1 y2 c0 c1 c2 x0 x1 x2 hb7 hb8 hp7 hp6 ho hC
      go_wp2_with (first
        | (go_at_call 29; (with_reducible refine (sa _ _ _ hp1).mono ?_); rintro e w9 ⟨v9, rfl, hb9⟩)
        | (go_at_call 29; (with_reducible refine (sb _ _ _ (hp1.below hb9)).mono ?_); rintro e w10 ⟨rfl, hb10⟩))
      go_ret
      exact ⟨rfl, hbw8.trans ((hb9.trans (hb10.mono hb9.size)).mono hbw8.size)⟩
    have hlt : k < 256 := by omega
    go_wp2_with (at_builtin; refine wpList_push_at el41 rfl _ _ rfl rfl (ho.alloc _) urow wi.heap.size 47 rfl (heap_alloc_at _ _) rfl (by simp [urow, Value.oneCell']) (by rw [List.length_replicate]; omega) (by rw [size_al]; have := hbs.out; omega) ?_; intro v' w3 ho3 hb3 hs3 hn3 hg3 hat3)
    go_roundw
    case rel => exact ⟨k + 1, by omega, by go_num, by rw [← hrep]; exact ho3, hd.trans (((below_al (Below.refl _ _) _).mono hbs.out).trans hb3)⟩
    case measure => simp [intOf]; omega
end Go.Proofs.Ytfmjmjppkdaanaa
