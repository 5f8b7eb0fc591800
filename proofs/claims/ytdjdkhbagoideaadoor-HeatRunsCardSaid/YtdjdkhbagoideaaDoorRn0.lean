/- Heat: what a run tells: plain lists (the program's and the document's are one), and the states in memory. No program here. -/
import Derived.Test.YtdjdkhbagoideaaDoorLg
import Derived.Test.YtdjdkhbagoideaaDoorRf11
namespace Go.Proofs.YtdjdkhbagoideaaDoor
open Go.RowKit Go.BigFrame flt Ieee

/-- a power, held back -/
def pwc (mo : Int) (p : Nat) (lv : Int) : Option Nat := if 0 < mo then op2 .mul (cls p) (op2 .sub (some 4607182418800017408) (op2 .quo (cls (floatOfInt .f64 lv)) (cls (floatOfInt .f64 mo)))) else cls p
def runc (Z : Zn) (r c a : Option Nat) (secs : Nat) : List Nat → Option Nat → Hs → List Tl
  | [], _, _ => []
  | _ :: _, none, _ => []
  | p :: ws, some x, s => if near x && !s.sh then told Z s x secs :: runc Z r c a secs ws (flowc r c a (some x) (pwc Z.mo p (told Z s x secs).lv) (cls secs)) (nxt Z s x secs) else []
def rrunc (Z : Zn) (r c a : Option Nat) (secs : Nat) : List Nat → Option Nat → Hs → List Tl
  | [], _, _ => []
  | _ :: _, none, _ => []
  | p :: ws, some x, s => if near x && !s.sh then rtold Z s x secs :: rrunc Z r c a secs ws (flowc r c a (some x) (pwc Z.mo p (rtold Z s x secs).lv) (cls secs)) (rnxt Z s x secs) else []
theorem near_nn {x : Nat} (h : near x = true) : cls x = some x := cls_nn (near_bt h).nn
theorem runc_stop {Z : Zn} {r c a : Option Nat} {secs : Nat} (ws : List Nat) {h : Nat} {s : Hs} (hs : near h = false ∨ s.sh = true) : runc Z r c a secs ws (cls h) s = [] := by
  cases ws with
  | nil => rfl
  | cons p ws =>
    cases hc : cls h with
    | none => rfl
    | some x =>
      obtain ⟨rfl, _⟩ := cls_some hc
      unfold runc
      rw [if_neg]
      rcases hs with hs | hs
      · rw [hs]; simp
      · rw [hs]; simp
theorem rrunc_stop {Z : Zn} {r c a : Option Nat} {secs : Nat} (ws : List Nat) {h : Nat} {s : Hs} (hs : near h = false ∨ s.sh = true) : rrunc Z r c a secs ws (cls h) s = [] := by
  cases ws with
  | nil => rfl
  | cons p ws =>
    cases hc : cls h with
    | none => rfl
    | some x =>
      obtain ⟨rfl, _⟩ := cls_some hc
      unfold rrunc
      rw [if_neg]
      rcases hs with hs | hs
      · rw [hs]; simp
      · rw [hs]; simp
theorem runc_go {Z : Zn} {r c a : Option Nat} {secs : Nat} (p : Nat) (ws : List Nat) {h : Nat} {s : Hs} (h1 : near h = true) (h2 : s.sh = false) :
    runc Z r c a secs (p :: ws) (cls h) s = told Z s h secs :: runc Z r c a secs ws (flowc r c a (cls h) (pwc Z.mo p (told Z s h secs).lv) (cls secs)) (nxt Z s h secs) := by
  rw [near_nn h1]
  conv => lhs; unfold runc
  rw [if_pos (by rw [h1, h2]; rfl)]
theorem rrunc_go {Z : Zn} {r c a : Option Nat} {secs : Nat} (p : Nat) (ws : List Nat) {h : Nat} {s : Hs} (h1 : near h = true) (h2 : s.sh = false) :
    rrunc Z r c a secs (p :: ws) (cls h) s = rtold Z s h secs :: rrunc Z r c a secs ws (flowc r c a (cls h) (pwc Z.mo p (rtold Z s h secs).lv) (cls secs)) (rnxt Z s h secs) := by
  rw [near_nn h1]
  conv => lhs; unfold rrunc
  rw [if_pos (by rw [h1, h2]; rfl)]
theorem runc_same {Z : Zn} {r c a : Option Nat} {secs : Nat} (hZ : Zok Z) : ∀ (ws : List Nat) (h : Option Nat) (s q : Hs), Hok Z s → Hok Z q → Sim s q → rrunc Z r c a secs ws h q = runc Z r c a secs ws h s
  | [], _, _, _, _, _, _ => rfl
  | _ :: _, none, _, _, _, _, _ => rfl
  | p :: ws, some x, s, q, hs, hq, hS => by
    obtain ⟨h1, h2, _⟩ := sim_next hZ hs hq hS x secs
    unfold rrunc runc
    rw [hS.sh, h2, runc_same hZ ws _ _ _ (nxt_ok hZ hs x secs) (rnxt_ok hZ hq x secs) h1]
theorem runc_len {Z : Zn} {r c a : Option Nat} {secs : Nat} : ∀ (ws : List Nat) (h : Option Nat) (s : Hs), (runc Z r c a secs ws h s).length ≤ ws.length
  | [], _, _ => by simp [runc]
  | _ :: _, none, _ => by simp [runc]
  | p :: ws, some x, s => by
    unfold runc
    split
    · have := runc_len (Z := Z) (r := r) (c := c) (a := a) (secs := secs) ws (flowc r c a (some x) (pwc Z.mo p (told Z s x secs).lv) (cls secs)) (nxt Z s x secs)
      simp only [List.length_cons]; omega
    · simp
theorem runc_nn {Z : Zn} {r c a : Option Nat} {secs : Nat} (hZ : Zok Z) : ∀ (ws : List Nat) (h : Option Nat) (s : Hs), Hok Z s → ∀ t ∈ runc Z r c a secs ws h s, nn t.d
  | [], _, _, _, t, ht => by simp [runc] at ht
  | _ :: _, none, _, _, t, ht => by simp [runc] at ht
  | p :: ws, some x, s, hs, t, ht => by
    unfold runc at ht
    split at ht
    · rcases List.mem_cons.1 ht with rfl | ht
      · exact told_nn hZ hs x secs
      · exact runc_nn hZ ws _ _ (nxt_ok hZ hs x secs) t ht
    · simp at ht

theorem runc_few {Z : Zn} {r c a : Option Nat} {secs : Nat} (hZ : Zok Z) : ∀ (ws : List Nat) (h : Option Nat) (s : Hs), Hok Z s → ∀ t ∈ runc Z r c a secs ws h s, t.ev.length ≤ 8
  | [], _, _, _, t, ht => by simp [runc] at ht
  | _ :: _, none, _, _, t, ht => by simp [runc] at ht
  | p :: ws, some x, s, hs, t, ht => by
    unfold runc at ht
    split at ht
    · rcases List.mem_cons.1 ht with rfl | ht
      · exact told_few hZ hs x secs
      · exact runc_few hZ ws _ _ (nxt_ok hZ hs x secs) t ht
    · simp at ht

/-! ### the states in memory -/
def strow (t : Tl) (x : Value) : List Value := [.float .f64 t.d, .bool t.br, .int .i64 t.lv, .bool t.sh, x]
/-- v holds what was told (l), each with its list of turns (vs) in a block of its own; all begin at 'base' or behind -/
structure Rst (w : World) (base : Nat) (eo ei : TypeId) (l : List Tl) (v : Value) (vs : List Value) : Prop where
  o : Own w base eo 5 (List.zipWith strow l vs) v
  ll : vs.length = l.length
  r : ∀ (k : Nat) (x : Value) (t : Tl), vs[k]? = some x → l[k]? = some t → Own w base ei 2 (t.ev.map erow) x
  d : ∀ (k : Nat) (x : Value), vs[k]? = some x → ∀ g : Nat, x.ownBlock = some g → v.ownBlock ≠ some g
  dd : ∀ (k j : Nat) (x y : Value), vs[k]? = some x → vs[j]? = some y → k ≠ j → ∀ g : Nat, x.ownBlock = some g → y.ownBlock ≠ some g
theorem Rst.nil (w : World) (base : Nat) (eo ei : TypeId) : Rst w base eo ei [] (.slice none 0 0) [] := ⟨Own.nil _ _ _ _, rfl, by simp, by simp, by simp⟩
theorem Rst.keep {w w' : World} {base : Nat} {eo ei : TypeId} {l : List Tl} {v : Value} {vs : List Value} (h : Rst w base eo ei l v vs) (hk : ∀ g, base ≤ g → g < w.heap.size → w'.heap[g]? = w.heap[g]?) : Rst w' base eo ei l v vs :=
  ⟨h.o.keep fun g hg => hk g (h.o.lt g hg).1 (h.o.lt g hg).2, h.ll, fun k x t hx ht => (h.r k x t hx ht).keep fun g hg => hk g ((h.r k x t hx ht).lt g hg).1 ((h.r k x t hx ht).lt g hg).2, h.d, h.dd⟩
theorem Rst.below {w w' : World} {base : Nat} {eo ei : TypeId} {l : List Tl} {v : Value} {vs : List Value} (h : Rst w base eo ei l v vs) (d : Below w.heap.size w w') : Rst w' base eo ei l v vs :=
  h.keep fun g _ hl => d.block g hl
theorem Rst.mono {w : World} {base base' : Nat} {eo ei : TypeId} {l : List Tl} {v : Value} {vs : List Value} (h : Rst w base eo ei l v vs) (hb : base' ≤ base) : Rst w base' eo ei l v vs :=
  ⟨h.o.mono hb, h.ll, fun k x t hx ht => (h.r k x t hx ht).mono hb, h.d, h.dd⟩
theorem zip_snoc {l : List Tl} {vs : List Value} (h : vs.length = l.length) (t : Tl) (x : Value) : List.zipWith strow (l ++ [t]) (vs ++ [x]) = List.zipWith strow l vs ++ [strow t x] := by
  rw [List.zipWith_append h.symm]; rfl
theorem Rst.len {w : World} {base : Nat} {eo ei : TypeId} {l : List Tl} {v : Value} {vs : List Value} (h : Rst w base eo ei l v vs) : (List.zipWith strow l vs).length = l.length := by
  rw [List.length_zipWith, h.ll, Nat.min_self]
/-- one more -/
theorem Rst.push {w w1 w2 w3 : World} {base : Nat} {eo ei : TypeId} {l : List Tl} {v v' x : Value} {vs : List Value} {t : Tl} (h : Rst w base eo ei l v vs)
    (hk1 : ∀ g, base ≤ g → g < w.heap.size → w1.heap[g]? = w.heap[g]?) (hs1 : w.heap.size ≤ w1.heap.size) (hx : Own w1 w.heap.size ei 2 (t.ev.map erow) x) (hb : base ≤ w.heap.size) (hb2 : Below w1.heap.size w1 w2) (ho : Own w3 base eo 5 (List.zipWith strow l vs ++ [strow t x]) v') (hg : w2.grownBy w3 v.ownBlock)
    (hat : v'.ownBlock = v.ownBlock ∨ v'.ownBlock = some w2.heap.size) : Rst w3 base eo ei (l ++ [t]) v' (vs ++ [x]) := by
  have hs2 := hb2.size
  have hvl : ∀ g, v.ownBlock = some g → g < w.heap.size := fun g hg => (h.o.lt g hg).2
  have hxl : ∀ g, x.ownBlock = some g → w.heap.size ≤ g ∧ g < w1.heap.size := hx.lt
  have hkl : ∀ (k : Nat) (y : Value), vs[k]? = some y → ∀ g, y.ownBlock = some g → g < w.heap.size := fun k y hy g hgy => by
    have hk : k < l.length := by rw [← h.ll]; exact (List.getElem?_eq_some_iff.1 hy).1
    exact ((h.r k y _ hy (List.getElem?_eq_getElem hk)).lt g hgy).2
  have hcase : ∀ (k : Nat) (y : Value), (vs ++ [x])[k]? = some y → (k < vs.length ∧ vs[k]? = some y) ∨ (k = vs.length ∧ y = x) := by
    intro k y hy
    rcases Nat.lt_or_ge k vs.length with q | q
    · rw [List.getElem?_append_left q] at hy; exact Or.inl ⟨q, hy⟩
    · rw [List.getElem?_append_right q] at hy
      have : k - vs.length = 0 := by
        rcases Nat.eq_zero_or_pos (k - vs.length) with z | z
        · exact z
        · rw [List.getElem?_eq_none (by simp; omega)] at hy; cases hy
      rw [this] at hy
      exact Or.inr ⟨by omega, (Option.some.inj hy).symm⟩
  have keep : ∀ g : Nat, g < w1.heap.size → v.ownBlock ≠ some g → w3.heap[g]? = w1.heap[g]? := fun g hl hn => by
    rw [hg.block g (by omega) (fun e => hn e.symm), hb2.block g hl]
  refine ⟨by rw [zip_snoc h.ll]; exact ho, by rw [List.length_append, List.length_append, h.ll]; rfl, fun k y t' hy ht => ?_, fun k y hy g hgy e => ?_, fun k j y z hy hz hkj g hgy e => ?_⟩
  · rcases hcase k y hy with ⟨hk, hy⟩ | ⟨rfl, rfl⟩
    · rw [List.getElem?_append_left (by rw [← h.ll]; exact hk)] at ht
      exact ((h.r k y t' hy ht).keep fun g hgy => hk1 g ((h.r k y t' hy ht).lt g hgy).1 ((h.r k y t' hy ht).lt g hgy).2).keep fun g hgy => keep g (by have := hkl k y hy g hgy; omega) (h.d k y hy g hgy)
    · rw [h.ll, List.getElem?_append_right (Nat.le_refl _), Nat.sub_self] at ht
      obtain rfl : t = t' := Option.some.inj ht
      exact (hx.mono hb).keep fun g hgy => keep g (hxl g hgy).2 (fun e => by have := hvl g e; have := (hxl g hgy).1; omega)
  · rcases hcase k y hy with ⟨hk, hy⟩ | ⟨rfl, rfl⟩
    · rcases hat with q | q
      · rw [q] at e; exact h.d k y hy g hgy e
      · rw [q] at e; cases e; have := hkl k y hy _ hgy; omega
    · rcases hat with q | q
      · rw [q] at e; have := hvl g e; have := (hxl g hgy).1; omega
      · rw [q] at e; cases e; have := (hxl _ hgy).2; omega
  · rcases hcase k y hy with ⟨hk, hy'⟩ | ⟨hk, hy'⟩ <;> rcases hcase j z hz with ⟨hj, hz'⟩ | ⟨hj, hz'⟩
    · exact h.dd k j y z hy' hz' hkj g hgy e
    · have := hkl k y hy' g hgy; have := (hxl g (hz' ▸ e)).1; omega
    · have := hkl j z hz' g e; have := (hxl g (hy' ▸ hgy)).1; omega
    · exact hkj (hk.trans hj.symm)
end Go.Proofs.YtdjdkhbagoideaaDoor

/- Heat: the program's Run, refused; and what asks whether a power is far off: walked. -/
namespace Go.Proofs.YtdjdkhbagoideaaDoor
open Go.RowKit Go.BigFrame flt Ieee

def wrow (x : Nat) : List Value := [.float .f64 x]
/-- a slice of powers -/
def Ws (w : World) (A : Option Addr) (l : List Nat) : Prop := Sl (fun _ => True) w A 1 (l.map wrow)
theorem Ws.below {w w' : World} {A : Option Addr} {l : List Nat} (h : Ws w A l) (d : Below w.heap.size w w') : Ws w' A l := Sl.below' h d
theorem Ws.at_ {w : World} {A : Option Addr} {l : List Nat} (h : Ws w A l) {k : Nat} (hk : k < l.length) : ∃ b o, A = some ⟨b, o, none⟩ ∧ b < w.heap.size ∧ w.cell? ⟨b, o + k, none⟩ = some (.float .f64 l[k]) := by
  obtain ⟨b, o, e, _, hl, hc⟩ := Sl.at_ h (k := k) (by rw [List.length_map]; exact hk)
  refine ⟨b, o, e, hl, ?_⟩
  have := hc 0 (.float .f64 l[k]) (by rw [List.getElem_map]; rfl)
  rwa [Nat.mul_one, Nat.add_zero] at this
theorem Ws.le {w : World} {A : Option Addr} {l : List Nat} (h : Ws w A l) : l.length ≤ 9223372036854775807 := by
  have := Sl.le h
  rwa [List.length_map] at this
set_option maxHeartbeats 1000000 in
theorem odd_any (x : Nat) (w : World) : Calls Tryd.prog 47 #[.float .f64 x] w fun e w' => e = .returned (.bool (!near x)) ∧ w = w' := by
  have K := near_any x
  go_enter Tryd.func47, Tryd.ntmps47
  go_wp2_with (go_at_call 24; (with_reducible refine (K _).mono ?_); rintro e w1 ⟨rfl, rfl⟩)
  go_ret
  exact ⟨rfl, rfl⟩
set_option maxHeartbeats 1000000 in
theorem indexo_any (A : Option Addr) (c n : Nat) (xs : List Nat) (w : World) (h : Ws w A xs) (hn : xs.length = n) :
    Calls Tryd.prog 55 #[.slice A n c, .func (.func 47) #[] #[]] w fun e w' => ∃ r : Int, e = .returned (.int .i64 r) ∧ (0 ≤ r ↔ ∃ i, ∃ h : i < xs.length, near xs[i] = false) ∧ w = w' := by
  have hl := h.le
  have hc := Lib.hid fun (k : Nat) (hk : k < xs.length) => h.at_ hk
  rw [hn] at hl
  replace hn := Lib.hid hn
  clear h
  go_enter Tryd.func55, Tryd.ntmps55
  go_wp2
  go_loop [8] (fun s => ∃ k : Nat, k ≤ n ∧ s = .int .i64 k ∧ ∀ j (h : j < xs.length), j < k → near xs[j] = true) (fun s => n - (intOf s).toNat)
  case atStart => exact ⟨0, by omega, rfl, fun j _ h => absurd h (by omega)⟩
  case round =>
    obtain ⟨k, hk, rfl, hno⟩ := hrel
    replace hno := Lib.hid hno
    by_cases hkl : k = n
    · clear hc
      go_wp2
      go_ret
      refine ⟨-1, rfl, ⟨fun h => absurd h (by decide), fun ⟨i, hi, hp⟩ => ?_⟩, rfl⟩
      rw [hno.out i hi (by have := hn.out; omega)] at hp
      cases hp
    have hlt : k < n := by omega
    have hlx : k < xs.length := by rw [hn.out]; exact hlt
    obtain ⟨b, o, rfl, _, c0⟩ := hc.out k hlx
    have B := odd_any xs[k]
    have hyes : near xs[k] = true → Hid (∀ j (h : j < xs.length), j < k + 1 → near xs[j] = true) := fun e => Lib.hid (fun j h hj => by
      by_cases q : j = k
      · subst q; exact e
      · exact hno.out j h (by omega))
    have hbad : near xs[k] = false → Hid (∃ i, ∃ h : i < xs.length, near xs[i] = false) := fun e => Lib.hid ⟨k, hlx, e⟩
    clear hc
    generalize xs[k] = x at *
    cases hp : near x
    · have hb := hbad hp
      rw [hp] at B
      clear hbad hyes hp
      go_wp2_with (go_at_call 47; (with_reducible refine (B _).mono ?_); rintro e w1 ⟨rfl, rfl⟩)
      go_ret
      exact ⟨_, rfl, ⟨fun _ => hb.out, fun _ => by omega⟩, rfl⟩
    · have hy := hyes hp
      rw [hp] at B
      clear hbad hyes hp
      go_wp2_with (go_at_call 47; (with_reducible refine (B _).mono ?_); rintro e w1 ⟨rfl, rfl⟩)
      go_round
      case rel => exact ⟨k + 1, by omega, by go_num, hy.out⟩
      case measure => simp [intOf]; omega
set_option maxHeartbeats 1000000 in
theorem odds_any (A : Option Addr) (c n : Nat) (xs : List Nat) (w : World) (h : Ws w A xs) (hn : xs.length = n) :
    Calls Tryd.prog 48 #[.slice A n c, .func (.func 47) #[] #[]] w fun e w' => e = .returned (.bool (!xs.all near)) ∧ w = w' := by
  have K := indexo_any A c n xs w h hn
  have e1 : Hid (∀ r : Int, (0 ≤ r ↔ ∃ i, ∃ h : i < xs.length, near xs[i] = false) → decide (0 ≤ r) = !xs.all near) := Lib.hid (fun r hr => by
    by_cases q : 0 ≤ r
    · obtain ⟨i, hi, hp⟩ := hr.mp q
      rw [decide_eq_true q]
      symm
      rw [Bool.not_eq_true', List.all_eq_false]
      exact ⟨xs[i], List.getElem_mem hi, by rw [hp]; decide⟩
    · rw [decide_eq_false q]
      symm
      rw [Bool.not_eq_false', List.all_eq_true]
      intro x hx
      obtain ⟨i, hi, rfl⟩ := List.getElem_of_mem hx
      cases hp : near xs[i]
      · exact absurd (hr.mpr ⟨i, hi, hp⟩) q
      · rfl)
  clear h
  generalize (!xs.all near) = b at *
  go_enter Tryd.func48, Tryd.ntmps48
  go_wp2_with (go_at_call 55; (with_reducible refine K.mono ?_); rintro e w1 ⟨r, rfl, hr, rfl⟩; replace hr := Lib.hid hr)
  go_ret
  exact ⟨ret_bool (by rw [← e1.out r hr.out]), rfl⟩

/-- what a run's code is -/
def argE (h s : Nat) (ws : List Nat) : Bool := near h && (seconds s && (decide (ws.length ≤ 4096) && ws.all near))
def runE (z l o : Bool) : Int := if z && l then (if o then 0 else 1) else 270
set_option maxHeartbeats 4000000 in
set_option maxRecDepth 100000 in
theorem run_no (Z : Zn) (A A1 : Option Addr) (c c1 n m : Nat) (r k a h s : Nat) (ws : List Nat) (W : World) (hT : Tps W A Z.tr) (hn : Z.tr.length = n) (hw : Ws W A1 ws) (hm : ws.length = m) (hE : runE (okZ Z) (okL r k a) (argE h s ws) ≠ 0) :
    Calls Tryd.prog 40 #[.agg (zarr Z (.slice A n c)), .agg #[.float .f64 r, .float .f64 k, .float .f64 a], .float .f64 h, .float .f64 s, .slice A1 m c1] W fun e w' => e = .returned (.tuple #[.slice none 0 0, .int .i64 (runE (okZ Z) (okL r k a) (argE h s ws))]) ∧ Below W.heap.size W w' := by
  have KN1 := fun (X : World) (q : Below W.heap.size W X) (ho : okZ Z = false) => new_no Z A c n X (hT.below q) hn ho
  have KN2 := fun (X : World) (q : Below W.heap.size W X) (ho : okZ Z = true) => new_yes Z A c n X (hT.below q) hn ho
  have KL := fun (X : World) => may_any r k a X
  have KH := near_any h
  have KO := fun (X : World) (q : Below W.heap.size W X) => odds_any A1 c1 m ws X (hw.below q) hm
  have hml := hw.le
  rw [hm] at hml
  have hb0 := below_al (below_al (Below.refl W.heap.size W) (.cells (zarr Z (.slice A n c)) 34)) (.cells #[.float .f64 r, .float .f64 k, .float .f64 a] 42)
  have hx0 : ((W.alloc (.cells (zarr Z (.slice A n c)) 34)).alloc (.cells #[.float .f64 r, .float .f64 k, .float .f64 a] 42)).heap[W.heap.size]? = some (.cells (zarr Z (.slice A n c)) 34) :=
    (Below.heap_alloc _ _ _ (by rw [size_al]; omega)).trans (heap_alloc_at W _)
  have hy0 : ((W.alloc (.cells (zarr Z (.slice A n c)) 34)).alloc (.cells #[.float .f64 r, .float .f64 k, .float .f64 a] 42)).heap[W.heap.size + 1]? = some (.cells #[.float .f64 r, .float .f64 k, .float .f64 a] 42) := by
    have := heap_alloc_at (W.alloc (.cells (zarr Z (.slice A n c)) 34)) (.cells #[.float .f64 r, .float .f64 k, .float .f64 a] 42)
    rwa [size_al] at this
  obtain ⟨b1, h1⟩ : ∃ b, (FloatKind.f64.format.order s 0 == some .gt) = b := ⟨_, rfl⟩
  obtain ⟨b2, h2⟩ : ∃ b, (FloatKind.f64.format.order s 4696837146684686336 == some .lt || FloatKind.f64.format.order s 4696837146684686336 == some .eq) = b := ⟨_, rfl⟩
  have e : Hid (seconds s = (b1 && b2)) := Lib.hid (by rw [← h1, ← h2]; rfl)
  unfold argE at hE ⊢
  rw [e.out, hm] at hE ⊢
  clear e hT hw
  replace hm := Lib.hid hm
  replace hn := Lib.hid hn
  generalize hlk : okL r k a = ol at *
  generalize hnh : near h = nh at *
  generalize hal : ws.all near = al at *
  unfold zarr at KN1 KN2 hb0 hx0 hy0 ⊢
  obtain ⟨zal, tg, kp, ki, cap, mo, tr⟩ := Z
  simp only at *
  clear hlk hnh hal
  cases ho : okZ ⟨zal, tg, kp, ki, cap, mo, tr⟩ with
  | false =>
    have KN := fun (X : World) (q : Below W.heap.size W X) => KN1 X q ho
    clear KN1 KN2 hE ho
    go_enter Tryd.func40, Tryd.ntmps40
    go_wp2_with (first
      | (refine wpList_load_row rfl 34 _ rfl W.heap.size rfl 34 _ (0, 0) _ hx0 Tryd.underlying34 rfl (by kernel_rfl) ?_)
      | (go_at_call 6; (with_reducible refine (KN _ hb0).mono ?_); rintro e w1 ⟨rfl, hb1⟩))
    go_ret2
    exact ⟨rfl, hb0.trans (hb1.mono hb0.size)⟩
  | true =>
    have KN := fun (X : World) (q : Below W.heap.size W X) => KN2 X q ho
    rw [ho] at hE
    clear KN1 KN2 ho
    cases ol with
    | false =>
      clear hE
      go_enter Tryd.func40, Tryd.ntmps40
      go_wp2_with (first
        | (refine wpList_load_row rfl 34 _ rfl W.heap.size rfl 34 _ (0, 0) _ hx0 Tryd.underlying34 rfl (by kernel_rfl) ?_)
        | (go_at_call 6; (with_reducible refine (KN _ hb0).mono ?_); rintro e w1 ⟨gw, v, vo, rfl, hW1, hb1⟩; have hy1 := (hb1.block _ (heap_lt hy0)).trans hy0; have h01 := hb0.trans (hb1.mono hb0.size))
        | (refine wpList_load_row rfl 42 _ rfl (W.heap.size + 1) rfl 42 _ (0, 0) _ hy1 Tryd.underlying42 rfl (by kernel_rfl) ?_)
        | (go_at_call 31; (with_reducible refine (KL _).mono ?_); rintro e w2 ⟨rfl, hb2⟩))
      go_ret2
      exact ⟨rfl, h01.trans (hb2.mono h01.size)⟩
    | true =>
      have hE : Hid ((nh && (b1 && b2 && (decide (m ≤ 4096) && al))) = false) := Lib.hid (by
        cases q : (nh && (b1 && b2 && (decide (m ≤ 4096) && al)))
        · rfl
        · rw [q] at hE; exact absurd rfl hE)
      rw [hE.out]
      simp only [Bool.and_self, runE, if_true, Bool.false_eq_true, if_false]
      cases nh with
      | false =>
        clear hE
        go_enter Tryd.func40, Tryd.ntmps40
        go_wp2_with (first
          | (refine wpList_load_row rfl 34 _ rfl W.heap.size rfl 34 _ (0, 0) _ hx0 Tryd.underlying34 rfl (by kernel_rfl) ?_)
          | (go_at_call 6; (with_reducible refine (KN _ hb0).mono ?_); rintro e w1 ⟨gw, v, vo, rfl, hW1, hb1⟩; have hy1 := (hb1.block _ (heap_lt hy0)).trans hy0; have h01 := hb0.trans (hb1.mono hb0.size))
          | (refine wpList_load_row rfl 42 _ rfl (W.heap.size + 1) rfl 42 _ (0, 0) _ hy1 Tryd.underlying42 rfl (by kernel_rfl) ?_)
          | (go_at_call 31; (with_reducible refine (KL _).mono ?_); rintro e w2 ⟨rfl, hb2⟩)
          | (go_at_call 24; (with_reducible refine (KH _).mono ?_); rintro e wq ⟨rfl, rfl⟩))
        go_ret2
        exact ⟨rfl, h01.trans (hb2.mono h01.size)⟩
      | true =>
        cases b1 with
        | false =>
          clear hE
          go_enter Tryd.func40, Tryd.ntmps40
          go_wp2_with (first
            | (refine wpList_load_row rfl 34 _ rfl W.heap.size rfl 34 _ (0, 0) _ hx0 Tryd.underlying34 rfl (by kernel_rfl) ?_)
            | (go_at_call 6; (with_reducible refine (KN _ hb0).mono ?_); rintro e w1 ⟨gw, v, vo, rfl, hW1, hb1⟩; have hy1 := (hb1.block _ (heap_lt hy0)).trans hy0; have h01 := hb0.trans (hb1.mono hb0.size))
            | (refine wpList_load_row rfl 42 _ rfl (W.heap.size + 1) rfl 42 _ (0, 0) _ hy1 Tryd.underlying42 rfl (by kernel_rfl) ?_)
            | (go_at_call 31; (with_reducible refine (KL _).mono ?_); rintro e w2 ⟨rfl, hb2⟩)
            | (go_at_call 24; (with_reducible refine (KH _).mono ?_); rintro e wq ⟨rfl, rfl⟩))
          go_ret2
          exact ⟨rfl, h01.trans (hb2.mono h01.size)⟩
        | true =>
          cases b2 with
          | false =>
            clear hE
            go_enter Tryd.func40, Tryd.ntmps40
            go_wp2_with (first
              | (refine wpList_load_row rfl 34 _ rfl W.heap.size rfl 34 _ (0, 0) _ hx0 Tryd.underlying34 rfl (by kernel_rfl) ?_)
              | (go_at_call 6; (with_reducible refine (KN _ hb0).mono ?_); rintro e w1 ⟨gw, v, vo, rfl, hW1, hb1⟩; have hy1 := (hb1.block _ (heap_lt hy0)).trans hy0; have h01 := hb0.trans (hb1.mono hb0.size))
              | (refine wpList_load_row rfl 42 _ rfl (W.heap.size + 1) rfl 42 _ (0, 0) _ hy1 Tryd.underlying42 rfl (by kernel_rfl) ?_)
              | (go_at_call 31; (with_reducible refine (KL _).mono ?_); rintro e w2 ⟨rfl, hb2⟩)
              | (go_at_call 24; (with_reducible refine (KH _).mono ?_); rintro e wq ⟨rfl, rfl⟩))
            go_ret2
            exact ⟨rfl, h01.trans (hb2.mono h01.size)⟩
          | true =>
            by_cases hbig : 4096 < m
            · have hbig' : (4096 : Int) < (m : Int) := by omega
              clear hE hbig
              go_enter Tryd.func40, Tryd.ntmps40
              go_wp2_with (first
                | (refine wpList_load_row rfl 34 _ rfl W.heap.size rfl 34 _ (0, 0) _ hx0 Tryd.underlying34 rfl (by kernel_rfl) ?_)
                | (go_at_call 6; (with_reducible refine (KN _ hb0).mono ?_); rintro e w1 ⟨gw, v, vo, rfl, hW1, hb1⟩; have hy1 := (hb1.block _ (heap_lt hy0)).trans hy0; have h01 := hb0.trans (hb1.mono hb0.size))
                | (refine wpList_load_row rfl 42 _ rfl (W.heap.size + 1) rfl 42 _ (0, 0) _ hy1 Tryd.underlying42 rfl (by kernel_rfl) ?_)
                | (go_at_call 31; (with_reducible refine (KL _).mono ?_); rintro e w2 ⟨rfl, hb2⟩)
                | (go_at_call 24; (with_reducible refine (KH _).mono ?_); rintro e wq ⟨rfl, rfl⟩))
              go_ret2
              exact ⟨rfl, h01.trans (hb2.mono h01.size)⟩
            · have hbig' : ¬ (4096 : Int) < (m : Int) := by omega
              have hal : al = false := by
                have := hE.out
                rw [decide_eq_true (show m ≤ 4096 by omega)] at this
                simpa using this
              subst hal
              clear hE hbig
              go_enter Tryd.func40, Tryd.ntmps40
              go_wp2_with (first
                | (refine wpList_load_row rfl 34 _ rfl W.heap.size rfl 34 _ (0, 0) _ hx0 Tryd.underlying34 rfl (by kernel_rfl) ?_)
                | (go_at_call 6; (with_reducible refine (KN _ hb0).mono ?_); rintro e w1 ⟨gw, v, vo, rfl, hW1, hb1⟩; have hy1 := (hb1.block _ (heap_lt hy0)).trans hy0; have h01 := hb0.trans (hb1.mono hb0.size))
                | (refine wpList_load_row rfl 42 _ rfl (W.heap.size + 1) rfl 42 _ (0, 0) _ hy1 Tryd.underlying42 rfl (by kernel_rfl) ?_)
                | (go_at_call 31; (with_reducible refine (KL _).mono ?_); rintro e w2 ⟨rfl, hb2⟩; have h02 := h01.trans (hb2.mono h01.size))
                | (go_at_call 24; (with_reducible refine (KH _).mono ?_); rintro e wq ⟨rfl, rfl⟩)
                | (go_at_call 48; (with_reducible refine (KO _ h02).mono ?_); rintro e wq ⟨rfl, rfl⟩))
              go_ret2
              exact ⟨rfl, h02⟩
end Go.Proofs.YtdjdkhbagoideaaDoor

/- Heat: rows of five cells, written; five boxes. No program here. -/
namespace Go.Proofs.YtdjdkhbagoideaaDoor
open Go.RowKit Go.BigFrame flt Ieee

theorem boxes5 (W : World) (a b c d e : Obj) :
    ((((((W.alloc a).alloc b).alloc c).alloc d).alloc e).heap[W.heap.size]? = some a ∧ (((((W.alloc a).alloc b).alloc c).alloc d).alloc e).heap[W.heap.size + 1]? = some b ∧
    (((((W.alloc a).alloc b).alloc c).alloc d).alloc e).heap[W.heap.size + 1 + 1]? = some c ∧ (((((W.alloc a).alloc b).alloc c).alloc d).alloc e).heap[W.heap.size + 1 + 1 + 1]? = some d ∧
    (((((W.alloc a).alloc b).alloc c).alloc d).alloc e).heap[W.heap.size + 1 + 1 + 1 + 1]? = some e ∧ (((((W.alloc a).alloc b).alloc c).alloc d).alloc e).heap.size = W.heap.size + 5 ∧ Below W.heap.size W (((((W.alloc a).alloc b).alloc c).alloc d).alloc e)) := by
  have key : ∀ (X : World) (o : Obj) (i : Nat) (x : Obj), X.heap[i]? = some x → (X.alloc o).heap[i]? = some x := fun X o i x h => (Below.heap_alloc X o i (heap_lt h)).trans h
  have h1 := heap_alloc_at W a
  have h2 := heap_alloc_at (W.alloc a) b
  have h3 := heap_alloc_at ((W.alloc a).alloc b) c
  have h4 := heap_alloc_at (((W.alloc a).alloc b).alloc c) d
  have h5 := heap_alloc_at ((((W.alloc a).alloc b).alloc c).alloc d) e
  simp only [size_al] at h2 h3 h4 h5
  refine ⟨key _ _ _ _ (key _ _ _ _ (key _ _ _ _ (key _ _ _ _ h1))), key _ _ _ _ (key _ _ _ _ (key _ _ _ _ h2)), key _ _ _ _ (key _ _ _ _ h3), key _ _ _ _ h4, h5, by simp only [size_al], ?_⟩
  exact below_al (below_al (below_al (below_al (below_al (Below.refl _ _) _) _) _) _) _
theorem own_free5 {w : World} {B : Nat} {T : TypeId} {rows : List (List Value)} {g n c : Nat} (hl : rows.length = n) (h : Own w B T 5 rows (.slice (some ⟨g, 0, none⟩) n c)) {k : Nat} (hk : k < n) :
    ∃ a0 a1 a2 a3 a4, w.cell? ⟨g, k * 5, none⟩ = some a0 ∧ w.cell? ⟨g, k * 5 + 1, none⟩ = some a1 ∧ w.cell? ⟨g, k * 5 + 2, none⟩ = some a2 ∧ w.cell? ⟨g, k * 5 + 3, none⟩ = some a3 ∧ w.cell? ⟨g, k * 5 + 4, none⟩ = some a4 ∧
      w.frozen? ⟨g, k * 5, none⟩ = false ∧ w.frozen? ⟨g, k * 5 + 1, none⟩ = false ∧ w.frozen? ⟨g, k * 5 + 2, none⟩ = false ∧ w.frozen? ⟨g, k * 5 + 3, none⟩ = false ∧ w.frozen? ⟨g, k * 5 + 4, none⟩ = false := by
  have hkr : k < rows.length := by omega
  have hlen := h.2 _ (List.getElem_mem hkr)
  obtain ⟨a0, a1, a2, a3, a4, e⟩ : ∃ a0 a1 a2 a3 a4, rows[k] = [a0, a1, a2, a3, a4] := by
    generalize rows[k] = r at hlen
    match r, hlen with
    | [x, y, z, u, v], _ => exact ⟨x, y, z, u, v, rfl⟩
  have hg : rows[k]? = some [a0, a1, a2, a3, a4] := by rw [List.getElem?_eq_getElem hkr, e]
  have q0 := h.cells hl hk hg (f := 0) rfl
  have q1 := h.cells hl hk hg (f := 1) rfl
  have q2 := h.cells hl hk hg (f := 2) rfl
  have q3 := h.cells hl hk hg (f := 3) rfl
  have q4 := h.cells hl hk hg (f := 4) rfl
  exact ⟨a0, a1, a2, a3, a4, q0.1, q1.1, q2.1, q3.1, q4.1, q0.2, q1.2, q2.2, q3.2, q4.2⟩
theorem own_free2 {w : World} {B : Nat} {T : TypeId} {rows : List (List Value)} {g n c : Nat} (hl : rows.length = n) (h : Own w B T 2 rows (.slice (some ⟨g, 0, none⟩) n c)) {k : Nat} (hk : k < n) :
    ∃ a0 a1, w.cell? ⟨g, k * 2, none⟩ = some a0 ∧ w.cell? ⟨g, k * 2 + 1, none⟩ = some a1 ∧ w.frozen? ⟨g, k * 2, none⟩ = false ∧ w.frozen? ⟨g, k * 2 + 1, none⟩ = false := by
  have hkr : k < rows.length := by omega
  have hlen := h.2 _ (List.getElem_mem hkr)
  obtain ⟨a0, a1, e⟩ : ∃ a0 a1, rows[k] = [a0, a1] := by
    generalize rows[k] = r at hlen
    match r, hlen with
    | [x, y], _ => exact ⟨x, y, rfl⟩
  have hg : rows[k]? = some [a0, a1] := by rw [List.getElem?_eq_getElem hkr, e]
  have q0 := h.cells hl hk hg (f := 0) rfl
  have q1 := h.cells hl hk hg (f := 1) rfl
  exact ⟨a0, a1, q0.1, q1.1, q0.2, q1.2⟩
theorem own_five {w : World} {B : Nat} {T : TypeId} {rows : List (List Value)} {g n c : Nat} (hl : rows.length = n) (h : Own w B T 5 rows (.slice (some ⟨g, 0, none⟩) n c)) {k : Nat} (hk : k < n) (x y z u v : Value) :
    ∃ rows' : List (List Value), rows'.length = n ∧ (∀ j, j ≠ k → rows'[j]? = rows[j]?) ∧ Own (((((w.setCell ⟨g, k * 5, none⟩ x).setCell ⟨g, k * 5 + 1, none⟩ y).setCell ⟨g, k * 5 + 2, none⟩ z).setCell ⟨g, k * 5 + 3, none⟩ u).setCell ⟨g, k * 5 + 4, none⟩ v) B T 5 rows' (.slice (some ⟨g, 0, none⟩) n c) := by
  subst hl
  have key : ∀ (X : World) (rs : List (List Value)) (hr : rs.length = rows.length) (f : Nat) (hf : f < 5) (t : Value), Own X B T 5 rs (.slice (some ⟨g, 0, none⟩) rows.length c) → ∃ rs' : List (List Value), rs'.length = rows.length ∧ (∀ j, j ≠ k → rs'[j]? = rs[j]?) ∧ Own (X.setCell ⟨g, k * 5 + f, none⟩ t) B T 5 rs' (.slice (some ⟨g, 0, none⟩) rows.length c) := by
    intro X rs hr f hf t hX
    rw [← hr] at hX
    have h1 := hX.set (show k < rs.length by omega) (f := f) hf t
    have e1 : (rs.set k (rs[k].set f t)).length = rs.length := List.length_set
    have e2 : ∀ j, j ≠ k → (rs.set k (rs[k].set f t))[j]? = rs[j]? := fun j hj => List.getElem?_set_ne (fun e => hj e.symm)
    have h2 : ∀ N, rs.length = N → Own (X.setCell ⟨g, k * 5 + f, none⟩ t) B T 5 (rs.set k (rs[k].set f t)) (.slice (some ⟨g, 0, none⟩) N c) := fun N e => e ▸ h1
    exact ⟨_, e1.trans hr, e2, h2 _ hr⟩
  obtain ⟨r1, l1, e1, h1⟩ := key w rows rfl 0 (by decide) x h
  obtain ⟨r2, l2, e2, h2⟩ := key _ r1 l1 1 (by decide) y h1
  obtain ⟨r3, l3, e3, h3⟩ := key _ r2 l2 2 (by decide) z h2
  obtain ⟨r4, l4, e4, h4⟩ := key _ r3 l3 3 (by decide) u h3
  obtain ⟨r5, l5, e5, h5⟩ := key _ r4 l4 4 (by decide) v h4
  exact ⟨r5, l5, fun j hj => by rw [e5 j hj, e4 j hj, e3 j hj, e2 j hj, e1 j hj], h5⟩
/-- what a slice of states holds at a row -/
theorem zip_at {L : List Tl} {vs : List Value} (hl : vs.length = L.length) {j : Nat} (hj : j < L.length) : ∃ x, vs[j]? = some x ∧ (List.zipWith strow L vs)[j]? = some (strow L[j] x) := by
  have hjv : j < vs.length := by omega
  refine ⟨vs[j], List.getElem?_eq_getElem hjv, ?_⟩
  rw [List.getElem?_zipWith, List.getElem?_eq_getElem hj, List.getElem?_eq_getElem hjv]
/-- a state in memory -/
theorem state_at {w : World} {B N i : Nat} {T E : TypeId} {L : List Tl} {ta : List Value} {rows : List (List Value)} {A : Option Addr} {c : Nat} {t : Tl} (hl : rows.length = N) (hO : Own w B T 5 rows (.slice A N c))
    (hr : rows[i]? = (List.zipWith strow L ta)[i]?) (hta : ta.length = L.length) (hLN : L.length = N) (ht : L[i]? = some t) (hown : ∀ x, ta[i]? = some x → Own w B E 2 (t.ev.map erow) x) (hi : i < N) :
    ∃ g A3 c3, A = some ⟨g, 0, none⟩ ∧ B ≤ g ∧ g < w.heap.size ∧ ta[i]? = some (.slice A3 t.ev.length c3) ∧ Own w B E 2 (t.ev.map erow) (.slice A3 t.ev.length c3) ∧ Sl (fun _ => True) w A3 2 (t.ev.map erow) ∧
      w.cell? ⟨g, i * 5, none⟩ = some (.float .f64 t.d) ∧ w.cell? ⟨g, i * 5 + 1, none⟩ = some (.bool t.br) ∧ w.cell? ⟨g, i * 5 + 2, none⟩ = some (.int .i64 t.lv) ∧ w.cell? ⟨g, i * 5 + 3, none⟩ = some (.bool t.sh) ∧ w.cell? ⟨g, i * 5 + 4, none⟩ = some (.slice A3 t.ev.length c3) := by
  obtain ⟨g, c', hA, h1, h2⟩ := own_form0 hO (by omega)
  simp only [Value.slice.injEq] at hA
  obtain ⟨rfl, -, rfl⟩ := hA
  have hit : i < ta.length := by omega
  have hx := List.getElem?_eq_getElem hit
  have ho := hown _ hx
  obtain ⟨A3, c3, e3, hS⟩ := ho.sl
  rw [List.length_map] at e3
  rw [e3] at ho hx
  have hz : (List.zipWith strow L ta)[i]? = some (strow t (.slice A3 t.ev.length c3)) := by
    rw [List.getElem?_zipWith, ht, hx]
  rw [hz] at hr
  refine ⟨g, A3, c3, rfl, h1, h2, hx, ho, hS.mono (fun _ _ => trivial), ?_, ?_, ?_, ?_, ?_⟩
  · exact (hO.cells hl hi hr (f := 0) rfl).1
  · exact (hO.cells hl hi hr (f := 1) rfl).1
  · exact (hO.cells hl hi hr (f := 2) rfl).1
  · exact (hO.cells hl hi hr (f := 3) rfl).1
  · exact (hO.cells hl hi hr (f := 4) rfl).1
/-- the powers' struct -/
def parr (r k a h s ow : Nat) (pv : Value) (mi : Int) : Array Value := #[.float .f64 r, .float .f64 k, .float .f64 a, .float .f64 h, .float .f64 s, .float .f64 ow, pv, .int .i64 mi]
end Go.Proofs.YtdjdkhbagoideaaDoor
