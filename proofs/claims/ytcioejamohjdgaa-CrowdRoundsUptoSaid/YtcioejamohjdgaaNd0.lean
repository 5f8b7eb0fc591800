/- Crowd: needs in memory; may, asked of the program and of the document: walked. -/
import Derived.Test.YtcioejamohjdgaaRd0
import Derived.Test.YtcioejamohjdgaaMem4
import Derived.Test.YtcioejamohjdgaaMem5
import Derived.Test.YtcioejamohjdgaaProg
import Derived.WalkKit
import Derived.WalkLawsBesides
import Derived.WalkSpells
import Derived.Lib.Hide
import Derived.Handy
import Derived.Deep.QuietTactic
import Derived.BigQuiet
import Derived.Deep.Cut
import Derived.Deep.CutBlock
import Derived.Laws.Externs
import Derived.Laws.EntriesVeiled
import Derived.Laws.ResultCell
import Derived.Deep.RegionHeld3
import Derived.Deep.MidRow
namespace Go.Proofs.Ytcioejamohjdgaa
open Go.RowKit Go.BigFrame

def irow (x : Int) : List Value := [.int .i64 x]
def urow (x : Int) : List Value := [.int .u8 x]
def nrow (x : Nat) : List Value := [.int .i64 x]
/-- a slice of ints -/
def Ints (w : World) (A : Option Addr) (l : List Int) : Prop := Sl (fun _ => True) w A 1 (l.map irow)
theorem Ints.below {w w' : World} {A : Option Addr} {l : List Int} (h : Ints w A l) (d : Below w.heap.size w w') : Ints w' A l := Sl.below' h d
theorem Ints.le {w : World} {A : Option Addr} {l : List Int} (h : Ints w A l) : l.length ≤ 9223372036854775807 := by
  have := Sl.le h
  rwa [List.length_map] at this
theorem Ints.at_ {w : World} {A : Option Addr} {l : List Int} (h : Ints w A l) {k : Nat} (hk : k < l.length) : ∃ b o, A = some ⟨b, o, none⟩ ∧ b < w.heap.size ∧ w.cell? ⟨b, o + k, none⟩ = some (.int .i64 l[k]) := by
  obtain ⟨b, o, e, _, hl, hc⟩ := Sl.at_ h (k := k) (by rw [List.length_map]; exact hk)
  refine ⟨b, o, e, hl, ?_⟩
  have := hc 0 (.int .i64 l[k]) (by rw [List.getElem_map]; rfl)
  rwa [Nat.mul_one, Nat.add_zero] at this
/-- a slice of slices of ints -/
def Nds (w : World) (A : Option Addr) (nd : List (List Int)) : Prop :=
  nd.length ≤ 9223372036854775807 ∧ ∀ k (_ : k < nd.length), ∃ b o Ak ck, A = some ⟨b, o, none⟩ ∧ b < w.heap.size ∧ w.cell? ⟨b, o + k, none⟩ = some (.slice Ak nd[k].length ck) ∧ Ints w Ak nd[k] ∧ (Ak = none → ck = 0)
theorem Nds.below {w w' : World} {A : Option Addr} {nd : List (List Int)} (h : Nds w A nd) (d : Below w.heap.size w w') : Nds w' A nd :=
  ⟨h.1, fun k hk => by
    obtain ⟨b, o, Ak, ck, e, hb, hc, hp, hz⟩ := h.2 k hk
    exact ⟨b, o, Ak, ck, e, Nat.lt_of_lt_of_le hb d.size, (d.cell (p := ⟨b, o + k, none⟩) hb).trans hc, hp.below d, hz⟩⟩
def okU (n : Nat) (u : Int) : Bool := decide (0 ≤ u) && decide (u < (n : Int))
def okR (n : Nat) (l : List Int) : Bool := l.all (okU n)
theorem mayN_eq (nd : List (List Int)) : mayN nd = (decide (nd.length ≤ 4096) && nd.all (okR nd.length)) := rfl
theorem may_bad {nd : List (List Int)} {k m : Nat} (hk : k < nd.length) (hm : m < nd[k].length) (hb : okU nd.length nd[k][m] = false) : mayN nd = false := by
  rw [mayN_eq, Bool.and_eq_false_iff]
  right
  rw [List.all_eq_false]
  refine ⟨nd[k], List.getElem_mem hk, ?_⟩
  unfold okR
  rw [Bool.not_eq_true, List.all_eq_false]
  exact ⟨_, List.getElem_mem hm, by rw [hb]; decide⟩
theorem all_of {α : Type} {p : α → Bool} {l : List α} (h : ∀ j (hj : j < l.length), p l[j] = true) : l.all p = true := by
  rw [List.all_eq_true]
  intro x hx
  obtain ⟨j, hj, rfl⟩ := List.getElem_of_mem hx
  exact h j hj
theorem may_rng {nd : List (List Int)} (h : mayN nd = true) : nd.length ≤ 4096 ∧ ∀ l ∈ nd, Rng nd.length l := by
  rw [mayN_eq, Bool.and_eq_true, decide_eq_true_eq, List.all_eq_true] at h
  refine ⟨h.1, fun l hl u hu => ?_⟩
  have := h.2 l hl
  unfold okR okU at this
  rw [List.all_eq_true] at this
  have := this u hu
  simpa using this
set_option maxHeartbeats 2000000 in
theorem may_any (nd : List (List Int)) (A : Option Addr) (c n : Nat) (w : World) (h : Nds w A nd) (hn : nd.length = n) :
    Calls Try.prog 37 #[.slice A n c] w fun e w' => e = .returned (.bool (mayN nd)) ∧ w = w' := by
  obtain ⟨B, hB⟩ : ∃ B, mayN nd = B := ⟨_, rfl⟩
  rw [hB]
  have hfail := Lib.hid fun (k m : Nat) (hk : k < nd.length) (hm : m < nd[k].length) (hb : okU n nd[k][m] = false) => (show B = false from hB ▸ may_bad hk hm (by rw [hn]; exact hb))
  have hgood : Hid (n ≤ 4096 → (∀ j (hj : j < nd.length), okR n nd[j] = true) → B = true) := Lib.hid fun h1 h2 => by
    rw [← hB, mayN_eq, hn, decide_eq_true h1, Bool.true_and]; exact all_of h2
  have hbig : Hid (4096 < n → B = false) := Lib.hid fun h1 => by rw [← hB, mayN_eq, hn, decide_eq_false (by omega)]; rfl
  have hle := h.1
  rw [hn] at hle
  have hcd := Lib.hid h.2
  replace hn := Lib.hid hn
  clear hB h
  by_cases h96 : 4096 < n
  · have hb := hbig.out h96
    subst hb
    have h96' : (4096 : Int) < (n : Int) := by omega
    clear hfail hgood hbig h96
    go_enter Try.func37, Try.ntmps37
    go_wp2
    go_ret
    exact ⟨rfl, rfl⟩
  · have h96' : ¬ (4096 : Int) < (n : Int) := by omega
    clear hbig
    go_enter Try.func37, Try.ntmps37
    go_upto_region 4 with fail
    go_loop [12] (fun s12 => ∃ k : Nat, k ≤ n ∧ s12 = .int .i64 k ∧ ∀ j (hj : j < nd.length), j < k → okR n nd[j] = true) (fun s12 => n - (intOf s12).toNat)
    case atStart => exact ⟨0, by omega, rfl, fun j _ h => absurd h (by omega)⟩
    case round =>
      obtain ⟨k, hk, rfl, hno⟩ := hrel
      replace hno := Lib.hid hno
      by_cases hkn : k = n
      · have hb := hgood.out (by omega) (fun j hj => hno.out j hj (by have := hn.out; omega))
        subst hb
        clear hfail hgood hcd hno
        go_wp2
        go_ret
        exact ⟨rfl, rfl⟩
      · have hlt : k < n := by omega
        have hkl : k < nd.length := by rw [hn.out]; exact hlt
        obtain ⟨b, o, Ak, ck, rfl, -, cc, hI, -⟩ := hcd.out k hkl
        have hF : Hid (∀ m (hm : m < nd[k].length), okU n nd[k][m] = false → B = false) := Lib.hid fun m hm hb => hfail.out k m hkl hm hb
        have hG : Hid ((∀ m (hm : m < nd[k].length), okU n nd[k][m] = true) → ∀ j (hj : j < nd.length), j < k + 1 → okR n nd[j] = true) := Lib.hid fun h1 j hj hj2 => by
          by_cases q : j = k
          · subst q; exact all_of h1
          · exact hno.out j hj (by omega)
        clear hfail hno hcd
        generalize nd[k] = l at *
        obtain ⟨q, hq⟩ : ∃ q, l.length = q := ⟨_, rfl⟩
        have hil := hI.le
        rw [hq] at hil cc
        replace hq := Lib.hid hq
        have hid := Lib.hid fun (m : Nat) (hm : m < l.length) => hI.at_ hm
        clear hI
        go_upto_region 7 with fail
        go_loop [18] (fun s18 => ∃ m : Nat, m ≤ q ∧ s18 = .int .i64 m ∧ ∀ j (hj : j < l.length), j < m → okU n l[j] = true) (fun s18 => q - (intOf s18).toNat)
        case atStart => exact ⟨0, by omega, rfl, fun j _ h => absurd h (by omega)⟩
        case round =>
          obtain ⟨m, hm, rfl, hno⟩ := hrel
          replace hno := Lib.hid hno
          by_cases hmq : m = q
          · have hg := Lib.hid (hG.out (fun j hj => hno.out j hj (by have := hq.out; omega)))
            clear hF hG hno hid
            subst hmq
            go_wp2
            go_round
            case rel => exact ⟨k + 1, by omega, by go_num, hg.out⟩
            case measure => first | (simp [intOf]; done) | (simp [intOf]; omega)
          · have hmlt : m < q := by omega
            have hml : m < l.length := by rw [hq.out]; exact hmlt
            obtain ⟨b2, o2, rfl, -, c2⟩ := hid.out m hml
            have hf := hF.out m hml
            have hy : okU n l[m] = true → Hid (∀ j (hj : j < l.length), j < m + 1 → okU n l[j] = true) := fun e => Lib.hid fun j hj hj2 => by
              by_cases q : j = m
              · subst q; exact e
              · exact hno.out j hj (by omega)
            clear hF hG hno hid
            generalize l[m] = u at *
            unfold okU at hf hy
            by_cases hu0 : u < 0
            · have hb := hf (by rw [decide_eq_false (by omega)]; rfl)
              subst hb
              clear hf hy
              go_wp2
              go_ret
              exact ⟨rfl, rfl⟩
            · by_cases hun : u < (n : Int)
              · have hun' : ¬ (n : Int) ≤ u := by omega
                have hg := hy (by rw [decide_eq_true (by omega), decide_eq_true hun]; rfl)
                clear hf hy
                go_wp2
                go_round
                case rel => exact ⟨m + 1, by omega, by go_num, hg.out⟩
                case measure => first | (simp [intOf]; done) | (simp [intOf]; omega)
              · have hun' : (n : Int) ≤ u := by omega
                have hb := hf (by rw [decide_eq_false hun]; simp)
                subst hb
                clear hf hy
                go_wp2
                go_ret
                exact ⟨rfl, rfl⟩
end Go.Proofs.Ytcioejamohjdgaa
