/- Sensor: slices.Sorted of small numbers; the program's Median: walked. -/
import Derived.Test.YtgpapbpkcggolaaDoorSrt9
namespace Go.Proofs.YtgpapbpkcggolaaDoor
open Go.RowKit Go.BigFrame

theorem sort_any {w0 w : World} {g n c : Nat} {d : Array Int} (h : Ar w0 w 35 g n c d) (hn : n ≤ 4096) :
    Calls Tryd.prog 33 #[.slice (some ⟨g, 0, none⟩) n c] w fun e w' => ∃ d' : Array Int, e = .returned (.tuple #[]) ∧ Sort.PermIn 0 n d d' ∧ Sort.SortedIn Sort.ltInt 0 n d' ∧ Ar w0 w' 35 g n c d' := by
  have hB := fun W => Tryd.bits_Len n W (by omega) (by omega)
  rw [Int.toNat_natCast] at hB
  have hk : Lib.bitLen n = Sort.bitsLen n := bitLen_eq n (by omega)
  have hk13 : Sort.bitsLen n ≤ 100 := by
    have h2 : Sort.bitsLen n ≤ 13 := (Sort.bitsLen_le_iff n 13).2 (by omega)
    omega
  rw [hk] at hB
  generalize Sort.bitsLen n = k at *
  have K := pdq_all (w0 := w0) (g := g) (n := n) (c := c) hn (n + 1) w 0 n k d (by omega) (by omega) (by omega) hk13 h (Or.inl rfl)
  clear hk h
  go_enter Tryd.func33, Tryd.ntmps33
  go_wp2_with (first
    | (go_at_call 37; refine (hB _).mono ?_; rintro e w' ⟨rfl, rfl⟩)
    | (go_at_call 36; (refine K.mono ?_); rintro e w1 ⟨d', rfl, hP, hS, hA⟩; replace hA := Lib.hid hA; replace hP := Lib.hid hP; replace hS := Lib.hid hS))
  go_end0
  exact ⟨d', rfl, hP.out, hS.out, hA.out⟩
/-- a slice of small numbers -/
def I8s (w : World) (A : Option Addr) (l : List Int) : Prop := Sl (fun _ => True) w A 1 (l.map brow)
theorem I8s.below {w w' : World} {A : Option Addr} {l : List Int} (h : I8s w A l) (d : Below w.heap.size w w') : I8s w' A l := Sl.below' h d
theorem I8s.drawn {w w' : World} {A : Option Addr} {l : List Int} (h : I8s w A l) (d : Drawn w w') : I8s w' A l := h.below (d.below _)
theorem I8s.le {w : World} {A : Option Addr} {l : List Int} (h : I8s w A l) : l.length ≤ 9223372036854775807 := by
  have := Sl.le h; rwa [List.length_map] at this
theorem I8s.at_ {w : World} {A : Option Addr} {l : List Int} (h : I8s w A l) {k : Nat} (hk : k < l.length) : ∃ b o, A = some ⟨b, o, none⟩ ∧ b < w.heap.size ∧ w.cell? ⟨b, o + k, none⟩ = some (.int .i8 l[k]) := by
  obtain ⟨b, o, e, _, hb, hc⟩ := Sl.at_ h (k := k) (by rw [List.length_map]; exact hk)
  refine ⟨b, o, e, hb, ?_⟩
  have := hc 0 (.int .i8 l[k]) (by rw [List.getElem_map]; rfl)
  rwa [Nat.mul_one, Nat.add_zero] at this
theorem brow_flat (l : List Int) : (l.map brow).flatten = l.map fun x => Value.int .i8 x := by
  induction l with
  | nil => rfl
  | cons x l ih => simp [brow, ih]
/-- the numbers in order -/
def srt (l : List Int) : List Int := l.mergeSort (fun x y => !Sort.ltInt y x)
theorem srt_of {n : Nat} {zs : List Int} {d' : Array Int} (hn : zs.length = n) (hP : Sort.PermIn 0 n zs.toArray d') (hS : Sort.SortedIn Sort.ltInt 0 n d') : d'.toList = srt zs := by
  subst hn
  have := Sort.sorted_unique_holds (lt := Sort.ltInt) Sort.swo_ltInt (fun x y h1 h2 => by simp [Sort.ltInt] at h1 h2; omega) zs.toArray d' (by simpa using hP) (by simpa using hS)
  simpa [srt] using this
set_option maxRecDepth 100000 in
theorem coll_any (Bs b off c : Nat) (zs : List Int) (hl : zs.length ≤ 4096) (w : World) (hBs : Bs < w.heap.size) (hb : b < w.heap.size) (hBc : w.cell? ⟨Bs, 0, none⟩ = some (.slice (some ⟨b, off, none⟩) zs.length c))
    (hc : ∀ j, j < zs.length → w.cell? ⟨b, off + j, none⟩ = some (.int .i8 (zs.getD j 0))) :
    Calls Tryd.prog 32 #[.func (.func 34) #[] #[.pointer (some ⟨Bs, 0, none⟩)]] w fun e w' => ∃ v : Value, e = .returned v ∧ w'.ownsRow w.heap.size 35 1 v zs.length (zs.map fun x => Value.int .i8 x) ∧ Below w.heap.size w w' := by
  have K := callsIn_wide.1 (apseq_in 2 (Nat.le_refl _) Bs b off c zs hl w hBs hb hBc hc)
  clear hBc hc
  go_enter Tryd.func32, Tryd.ntmps32
  go_wp2_with (go_at_call 35; (with_reducible refine K.mono ?_); rintro e w1 ⟨v, rfl, hr, hb1⟩)
  go_ret
  exact ⟨v, rfl, hr, hb1⟩
theorem own_of_row {w : World} {base n : Nat} {v : Value} {zs : List Int} (h : w.ownsRow base 35 1 v zs.length (zs.map fun x => Value.int .i8 x)) (hn : zs.length = n) (h0 : 0 < n) :
    ∃ g cap, v = .slice (some ⟨g, 0, none⟩) n cap ∧ base ≤ g ∧ Own w g 35 1 (zs.map brow) (.slice (some ⟨g, 0, none⟩) n cap) := by
  subst hn
  obtain ⟨hl1, h2⟩ := h
  rcases h2 with ⟨_, h3⟩ | ⟨g, cap, cur, rfl, hgb, h3, h4, h5, h6, h7⟩
  · omega
  · refine ⟨g, cap, rfl, hgb, ⟨by rw [brow_flat]; simp, .inr ⟨g, cap, cur, by rw [List.length_map], Nat.le_refl _, h3, by rw [List.length_map]; exact h4, h5, h6, by rw [brow_flat, List.length_map]; exact h7⟩⟩, fun r hr => ?_⟩
    obtain ⟨q, _, rfl⟩ := List.mem_map.1 hr
    rfl
set_option maxRecDepth 100000 in
theorem sorted_any (Bs b off c n : Nat) (zs : List Int) (hn : zs.length = n) (hl0 : 0 < n) (hl : n ≤ 4096) (w : World) (hBs : Bs < w.heap.size) (hb : b < w.heap.size) (hBc : w.cell? ⟨Bs, 0, none⟩ = some (.slice (some ⟨b, off, none⟩) n c))
    (hc : ∀ j, j < zs.length → w.cell? ⟨b, off + j, none⟩ = some (.int .i8 (zs.getD j 0))) :
    Calls Tryd.prog 29 #[.func (.func 34) #[] #[.pointer (some ⟨Bs, 0, none⟩)]] w fun e w' => ∃ (g cap : Nat) (d : Array Int), e = .returned (.slice (some ⟨g, 0, none⟩) n cap) ∧ d.toList = srt zs ∧ Ar w w' 35 g n cap d ∧ Below w.heap.size w w' := by
  have K := coll_any Bs b off c zs (by omega) w hBs hb (by rw [hn]; exact hBc) hc
  clear hBc hc
  replace hn := Lib.hid hn
  go_enter Tryd.func29, Tryd.ntmps29
  go_upto_region 2 with (go_at_call 32; (with_reducible refine K.mono ?_); rintro e w1 ⟨v, rfl, hr, hb1⟩)
  obtain ⟨g, cap, rfl, hgb, ho⟩ := own_of_row hr hn.out hl0
  have hA : Ar w w1 35 g n cap zs.toArray := ⟨by simpa using hn.out, by simpa using ho, Fr.of hb1⟩
  have S := sort_any hA hl
  clear hA hr K ho
  go_wp2_with (go_at_call 33; (with_reducible refine S.mono ?_); rintro e w2 ⟨d', rfl, hP, hS, hA⟩; replace hA := Lib.hid hA; replace hP := Lib.hid hP; replace hS := Lib.hid hS)
  go_ret
  exact ⟨g, cap, d', rfl, srt_of hn.out hP.out hS.out, hA.out, hA.out.f.below (Nat.le_refl _) (fun b e => by rw [e]; exact hgb)⟩
/-- the program's median -/
def med (l : List Int) : Int × Int := if l.length = 0 ∨ 4096 < l.length then (0, 1) else ((srt l).getD ((l.length - 1) / 2) 0, 0)
set_option maxRecDepth 100000 in
set_option maxHeartbeats 1000000 in
theorem med_any (zs : List Int) (A : Option Addr) (c n : Nat) (w : World) (h : I8s w A zs) (hn : zs.length = n) :
    Calls Tryd.prog 25 #[.slice A n c] w fun e w' => e = .returned (.tuple #[.int .i8 (med zs).1, .int .i64 (med zs).2]) ∧ Below w.heap.size w w' := by
  have hle := h.le
  by_cases h0 : n = 0
  · have e : med zs = (0, 1) := by unfold med; rw [if_pos (by omega)]
    rw [e]
    replace hn := Lib.hid hn
    subst h0
    clear h e
    go_enter Tryd.func25, Tryd.ntmps25
    go_wp2
    go_ret2
    exact ⟨rfl, Below.refl _ _⟩
  · by_cases h4 : 4096 < n
    · have e : med zs = (0, 1) := by unfold med; rw [if_pos (by omega)]
      rw [e]
      have g0 : ((n : Int) == 0) = false := by simp; omega
      have g1 : (4096 : Int) < (n : Int) := by omega
      replace hn := Lib.hid hn
      clear h e
      go_enter Tryd.func25, Tryd.ntmps25
      go_wp2
      go_ret2
      exact ⟨rfl, Below.refl _ _⟩
    · have e : med zs = ((srt zs).getD ((n - 1) / 2) 0, 0) := by unfold med; rw [if_neg (by omega), hn]
      rw [e]
      obtain ⟨b, off, rfl, hb, _⟩ := h.at_ (k := 0) (by omega)
      have g0 : ((n : Int) == 0) = false := by simp; omega
      have g1 : ¬ (4096 : Int) < (n : Int) := by omega
      obtain ⟨k, hk⟩ : ∃ k : Nat, k = (n - 1) / 2 := ⟨_, rfl⟩
      have ek : ((n : Int) - 1).tdiv 2 = (k : Int) := by rw [Int.tdiv_eq_ediv_of_nonneg (by omega)]; omega
      have hkn : k < n := by omega
      rw [← hk]
      have hV := fun m => callsIn_wide.1 (vals8_any (.slice (some ⟨b, off, none⟩) n c) w m ⟨_, _, _, rfl⟩)
      have hS := sorted_any w.heap.size b off c n zs hn (by omega) (by omega) (w.alloc (.cells #[.slice (some ⟨b, off, none⟩) n c] 47)) (by rw [size_al]; omega) (by rw [size_al]; omega) (cell_of_row _ _ 0 _ 47 (0, 0) (heap_alloc_at _ _))
        (fun j hj => by
          obtain ⟨b', o', e', hb', hc'⟩ := h.at_ hj
          cases e'
          rw [World.cell?_of_block (a := ⟨b, off + j, none⟩) (Below.heap_alloc w _ b hb), hc', List.getD_eq_getElem?_getD, List.getElem?_eq_getElem hj]; rfl)
      replace hn := Lib.hid hn
      replace hk := Lib.hid hk
      clear h e
      go_enter Tryd.func25, Tryd.ntmps25
      go_upto_region 4 with (first
        | (go_at_call 30; (refine (hV 2).mono ?_); rintro e w1 ⟨rfl, rfl⟩)
        | (go_at_call 29; (refine hS.mono ?_); rintro e w2 ⟨g, cap, d, rfl, hd, hA, hb2⟩))
      have c1 := (hA.cell hkn).1
      have hv : d[k]! = (srt zs).getD k 0 := by
        rw [← hd, getElem!_pos d k (by rw [hA.sz]; exact hkn), List.getD_eq_getElem?_getD, Array.getElem?_toList, Array.getElem?_eq_getElem (by rw [hA.sz]; exact hkn)]
        rfl
      rw [hv] at c1
      generalize hmm : (srt zs).getD k 0 = mm at *
      replace hmm := Lib.hid hmm
      replace hb2 := Lib.hid hb2
      clear hA hv hV hS hd
      go_wp2
      go_ret2
      exact ⟨by rw [hmm.out]; rfl, (below_al (Below.refl _ _) _).trans (hb2.out.mono (by rw [size_al]; omega))⟩
end Go.Proofs.YtgpapbpkcggolaaDoor
