/- Crowd: the program's begun, walked. -/
import Derived.Test.YtcioejamohjdgaaBg0
import Derived.Deep.RegionLaw
namespace Go.Proofs.Ytcioejamohjdgaa
open Go.RowKit Go.BigFrame

/-- append, under a name of its own: so that a walk takes its run as it is given -/
@[irreducible] def appG (ts : Array TypeId) (t : TypeId) (xs : Array Value) : Sem Value := Builtin.append_ ts t xs
@[local go_sem ↓ high] theorem appG_hook (ts : Array TypeId) (t : TypeId) (xs : Array Value) : Builtin.append_ ts t xs = appG ts t xs := by unfold appG; rfl
def tot (nd : List (List Int)) : Nat := (nd.map List.length).sum
theorem ups_len (i u : Nat) : ∀ (l : List Int) (ab : List (List Nat)), ((ups ab i l).getD u []).length ≤ (ab.getD u []).length + l.length
  | [], ab => by simp [ups]
  | x :: l, ab => by
    have h := ups_len i u l (up i ab x)
    have e : ((up i ab x).getD u []).length ≤ (ab.getD u []).length + 1 := by
      unfold up
      rw [getD_set]
      split
      · rename_i hh
        rw [← hh.1, List.length_append]; simp
      · omega
    show ((ups (up i ab x) i l).getD u []).length ≤ _
    simp only [List.length_cons]
    omega
theorem abv_len (nd : List (List Int)) (u : Nat) : ∀ j, j ≤ nd.length → ((abv nd j).getD u []).length ≤ tot (nd.take j)
  | 0, _ => by
    simp only [abv, List.getD_eq_getElem?_getD, List.getElem?_replicate]
    split <;> simp
  | j + 1, hj => by
    have h := abv_len nd u j (by omega)
    have h2 := ups_len j u (nd.getD j []) (abv nd j)
    have hjl : j < nd.length := by omega
    have e : nd.getD j [] = nd[j] := by simp [List.getD_eq_getElem?_getD, hjl]
    have e2 : tot (nd.take (j + 1)) = tot (nd.take j) + nd[j].length := by
      unfold tot
      rw [← List.take_append_getElem hjl, List.map_append, List.sum_append]; simp
    rw [e] at h2
    show ((ups (abv nd j) j (nd.getD j [])).getD u []).length ≤ _
    rw [e]
    omega
theorem sum_take_le : ∀ (l : List Nat) (j : Nat), (l.take j).sum ≤ l.sum
  | [], j => by simp
  | x :: l, 0 => by simp
  | x :: l, j + 1 => by
    have := sum_take_le l j
    simp only [List.take_succ_cons, List.sum_cons]
    omega
theorem tot_take (nd : List (List Int)) (j : Nat) : tot (nd.take j) ≤ tot nd := by
  unfold tot
  rw [List.map_take]
  exact sum_take_le _ _
theorem tot_mem {nd : List (List Int)} {k : Nat} (hk : k < nd.length) : nd[k].length ≤ tot nd := by
  have h := tot_take nd (k + 1)
  have e2 : tot (nd.take (k + 1)) = tot (nd.take k) + nd[k].length := by
    unfold tot
    rw [← List.take_append_getElem hk, List.map_append, List.sum_append]; simp
  omega
theorem mix_set {α : Type} {a b : List α} {k : Nat} (h1 : k < a.length) (h2 : k < b.length) : (b.take k ++ a.drop k).set k b[k] = b.take (k + 1) ++ a.drop (k + 1) := by
  have e : (b.take k).length = k := by rw [List.length_take]; omega
  rw [List.drop_eq_getElem_cons h1, List.set_append_right _ _ (by omega), e, Nat.sub_self, List.set_cons_zero, ← List.take_append_getElem h2, List.append_assoc]
  rfl
def lens (nd : List (List Int)) : List Int := nd.map fun l => (l.length : Int)
theorem lens_lks (nd : List (List Int)) : lens nd = lks nd (List.replicate nd.length 0) := by
  refine lks_ext (by simp [lens]) fun k hk => ?_
  unfold lens lkOf
  rw [List.getD_eq_getElem?_getD, List.getElem?_map, List.getElem?_eq_getElem hk, List.getD_eq_getElem?_getD, List.getElem?_eq_getElem hk]
  simp only [Option.map_some, Option.getD_some]
  congr 1
  symm
  rw [List.countP_eq_length]
  intro u _
  have e : (List.replicate nd.length (0 : Int)).getD u.toNat 0 = 0 := by
    rw [List.getD_eq_getElem?_getD, List.getElem?_replicate]
    split <;> rfl
  rw [e]; rfl
set_option maxHeartbeats 8000000 in
set_option maxRecDepth 100000 in
theorem begun_any (nd : List (List Int)) (A : Option Addr) (c n : Nat) (w : World) (h : Nds w A nd) (hn : nd.length = n) (h96 : n ≤ 4096) (hr : ∀ l ∈ nd, Rng n l) (ht : tot nd ≤ 1048576) :
    Calls Try.prog 38 #[.slice A n c] w fun e w' => ∃ ps pl pa xs, e = .returned (.pointer (some ⟨w.heap.size + 3, 0, none⟩)) ∧ Bd w' w.heap.size ps pl pa n xs (List.replicate n 0) (lens nd) (abv nd n) ∧ Below w.heap.size w w' := by
  have m1 := fun W => made_of (n := n) (z := .int .u8 0) (s := 1) (bytes := 1) Try.underlying35 (by kernel_rfl) (by omega) (by omega) W
  have m2 := fun W => made_of (n := n) (z := .int .i64 0) (s := 1) (bytes := 8) Try.underlying23 (by kernel_rfl) (by omega) (by omega) W
  have m3 := fun W => made_of (n := n) (z := .slice none 0 0) (s := 1) (bytes := 24) Try.underlying22 (by kernel_rfl) (by omega) (by omega) W
  have hcd := Lib.hid h.2
  have hnle : n ≤ 9223372036854775807 := by omega
  replace hn := Lib.hid hn
  clear h
  go_enter Try.func38, Try.ntmps38
  go_upto_region 1 with fail
  go_cut [3] from 8 to 19 (fun s3 wc => ∃ ps pl pa, s3 = .pointer (some ⟨w.heap.size + 3, 0, none⟩) ∧ wc.heap[w.heap.size + 3]? = some (.cells #[.slice (some ⟨ps, 0, none⟩) n n, .slice (some ⟨pl, 0, none⟩) n n, .slice (some ⟨pa, 0, none⟩) n n] 67) ∧
    (wc.heap[ps]? = some (.cells (mkr (.int .u8 0) 1 n) 5) ∧ wc.heap[pl]? = some (.cells (mkr (.int .i64 0) 1 n) 3) ∧ wc.heap[pa]? = some (.cells (mkr (.slice none 0 0) 1 n) 23)) ∧ Below w.heap.size w wc ∧
    (w.heap.size ≤ ps ∧ ps < w.heap.size + 3 ∧ w.heap.size ≤ pl ∧ pl < w.heap.size + 3 ∧ w.heap.size ≤ pa ∧ pa < w.heap.size + 3 ∧ ps ≠ pl ∧ ps ≠ pa ∧ pl ≠ pa))
  case first =>
    go_region_law (fail)
    all_goals go_wp2
    all_goals go_meet
    all_goals simp only [show ∀ Y : World, Y.drew.heap = Y.heap from fun _ => rfl]
    all_goals (case rel =>
      refine ⟨_, _, _, trivial, heap_alloc_at' _ _ _ (by simp only [size_al]), ?_, ?_, ?_⟩
      all_goals first
        | exact (below_al (below_al (below_al (below_al (Below.refl _ _) _) _) _) _).drew
        | exact below_al (below_al (below_al (below_al (Below.refl _ _) _) _) _) _
        | (refine ⟨?_, ?_, ?_⟩ <;> (repeat first | (refine heap_alloc_at' _ _ _ ?_; simp only [size_al]; done) | refine heap_alloc ?_); done)
        | ((try simp only [size_al]); omega))
  clear m1 m2 m3
  obtain ⟨ps, pl, pa, rfl, q1, ⟨q2, q3, q4⟩, hb1, hlo⟩ := hcut
  obtain ⟨w1, rfl⟩ : ∃ x : World, x = wc := ⟨_, rfl⟩
  have hB1 := Bd.made (by unfold maxLen; omega) q1 q2 q3 q4 hlo
  replace hlo := Lib.hid hlo
  have hll : Hid ((lens nd).length = n) := Lib.hid (by unfold lens; rw [List.length_map]; exact hn.out)
  have hzl : Hid ((List.replicate n (0 : Int)).length = n) := Lib.hid List.length_replicate
  have hab0 : Hid (abv nd 0 = List.replicate n []) := Lib.hid (by show List.replicate nd.length [] = _; rw [hn.out])
  clear q1 q2 q3 q4
  go_upto_region 3 with fail
  go_loopw [21] (fun s21 wr => ∃ (k : Nat) (xs : List Value), k ≤ n ∧ s21 = .int .i64 k ∧ Bd wr w.heap.size ps pl pa n xs (List.replicate n 0) ((lens nd).take k ++ (List.replicate n 0).drop k) (abv nd k) ∧ Below w.heap.size w wr) (fun s21 _ => n - (intOf s21).toNat)
  case atStart => exact ⟨0, _, by omega, rfl, by rw [List.take_zero, List.drop_zero, List.nil_append, hab0.out]; exact hB1, hb1⟩
  case round =>
    clear hB1 hb1 hab0
    obtain ⟨k, xs, hk, rfl, hB, hb⟩ := hrel
    obtain ⟨wk, rfl⟩ : ∃ x : World, x = wr := ⟨_, rfl⟩
    by_cases hkn : k = n
    · subst hkn
      rw [List.take_of_length_le (by rw [hll.out]; exact Nat.le_refl _), List.drop_of_length_le (by rw [hzl.out]; exact Nat.le_refl _), List.append_nil] at hB
      clear hcd
      replace hB := Lib.hid hB
      go_wp2
      go_ret
      exact ⟨_, _, _, _, rfl, hB.out, hb⟩
    · have hlt : k < n := by omega
      have hkl : k < nd.length := by rw [hn.out]; exact hlt
      obtain ⟨b, o, Ak, ck, rfl, hbs, cw, hIw, -⟩ := hcd.out k hkl
      have cc := (hb.cell (p := ⟨b, o + k, none⟩) hbs).trans cw
      clear cw
      have hrk := Lib.hid (hr _ (List.getElem_mem hkl))
      have hq20 := tot_mem hkl
      have hmix := mix_set (a := List.replicate n (0 : Int)) (b := lens nd) (k := k) (by rw [hzl.out]; exact hlt) (by rw [hll.out]; exact hlt)
      have hgk : (lens nd)[k]'(by rw [hll.out]; exact hlt) = (nd[k].length : Int) := by simp [lens]
      rw [hgk] at hmix
      have hgd : nd.getD k [] = nd[k] := by simp [List.getD_eq_getElem?_getD, hkl]
      have habk : Hid (abv nd (k + 1) = ups (abv nd k) k nd[k]) := Lib.hid (by show ups (abv nd k) k (nd.getD k []) = _; rw [hgd])
      have hlenk := Lib.hid fun u => (Nat.le_trans (abv_len nd u k (by omega)) (tot_take nd k))
      clear hgk hgd
      have hIx := Lib.hid fun (X : World) (q : Below w.heap.size w X) => hIw.below q
      generalize nd[k] = l at *
      obtain ⟨q, hq⟩ : ∃ q, l.length = q := ⟨_, rfl⟩
      have hil := hIw.le
      rw [hq] at cc hil hmix hq20
      replace hq := Lib.hid hq
      replace hmix := Lib.hid hmix
      obtain ⟨y0, y1, y2⟩ := hB.c0
      have hkm : k < ((lens nd).take k ++ (List.replicate n (0 : Int)).drop k).length := by rw [hB.nl]; exact hlt
      obtain ⟨c1, f1⟩ := hB.l.cell1 (val := fun x => .int .i64 x) (fun _ => rfl) hB.nl hkm
      generalize ((lens nd).take k ++ (List.replicate n (0 : Int)).drop k)[k] = old at *
      have hS := hB.setl hlt (q : Int)
      rw [hmix.out] at hS
      have hbS := Lib.hid (hb.setCell (p := ⟨pl, k, none⟩) (by have := hlo.out; show w.heap.size ≤ pl; omega) (.int .i64 q))
      replace hS := Lib.hid hS
      clear hB hb hIw hkm hcd
      go_upto_region 7 with fail
      clear y0 y1 y2 c1 f1 cc
      generalize wk.setCell ⟨pl, k, none⟩ (.int .i64 q) = w2 at *
      go_loopw [36] (fun s36 wr => ∃ (m : Nat) (xs : List Value), m ≤ q ∧ s36 = .int .i64 m ∧ Bd wr w.heap.size ps pl pa n xs (List.replicate n 0) ((lens nd).take (k + 1) ++ (List.replicate n 0).drop (k + 1)) (ups (abv nd k) k (l.take m)) ∧ Below w.heap.size w wr) (fun s36 _ => q - (intOf s36).toNat)
      case atStart => exact ⟨0, xs, by omega, rfl, by rw [List.take_zero]; exact hS.out, hbS.out⟩
      case round =>
        clear hS hbS
        obtain ⟨m, xs, hm, rfl, hB, hb⟩ := hrel
        obtain ⟨wk, rfl⟩ : ∃ x : World, x = wr := ⟨_, rfl⟩
        by_cases hmq : m = q
        · have etk : l.take q = l := List.take_of_length_le (by rw [hq.out]; exact Nat.le_refl _)
          rw [hmq, etk, ← habk.out] at hB
          clear etk
          subst hmq
          clear hIx hrk hlenk habk hmix
          have hB' := Lib.hid hB
          clear hB
          go_wp2
          go_roundw
          case rel => exact ⟨k + 1, xs, by omega, by go_num, hB'.out, hb⟩
          case measure => first | (simp [intOf]; done) | (simp [intOf]; omega)
        · have hmlt : m < q := by omega
          have hml : m < l.length := by rw [hq.out]; exact hmlt
          obtain ⟨b2, o2, rfl, -, cu⟩ := (hIx.out wk hb).at_ hml
          obtain ⟨hu0, hun⟩ := hrk.out _ (List.getElem_mem hml)
          have hsn : ups (abv nd k) k (l.take (m + 1)) = up k (ups (abv nd k) k (l.take m)) l[m] := by
            unfold ups
            rw [← List.take_append_getElem hml, List.foldl_append]; rfl
          generalize l[m] = u at *
          obtain ⟨v, rfl⟩ := Int.eq_ofNat_of_zero_le hu0
          have hvn : v < n := by omega
          have hlab := ups_len k v (l.take m) (abv nd k)
          have hl2 := hlenk.out v
          have hl3 : (l.take m).length ≤ m := by rw [List.length_take]; omega
          obtain ⟨ab, habe⟩ : ∃ ab, ups (abv nd k) k (l.take m) = ab := ⟨_, rfl⟩
          rw [habe] at hB hsn hlab
          unfold up at hsn
          rw [Int.toNat_natCast] at hsn
          have hva : v < ab.length := by rw [hB.nb]; exact hvn
          have hvx : v < xs.length := by rw [hB.na]; exact hvn
          have hgd : ab.getD v [] = ab[v] := by simp [List.getD_eq_getElem?_getD, hva]
          rw [hgd] at hsn hlab
          have htv := List.getElem?_eq_getElem hva
          have hxv := List.getElem?_eq_getElem hvx
          have hown := hB.r v _ _ hxv htv
          obtain ⟨ca, -⟩ := hB.a.cell1 (row := fun x => [x]) (val := fun x => x) (fun _ => rfl) hB.na hvx
          generalize ab[v] = t at *
          generalize xs[v] = x at *
          obtain ⟨A0, d0, hxe, -⟩ := hown.sl
          rw [List.length_map] at hxe
          subst hxe
          obtain ⟨T, hT⟩ : ∃ T, t.length = T := ⟨_, rfl⟩
          have hP4 := heap_lt hB.hb
          have r1 : Below wk.heap.size wk (wk.alloc (.cells #[.int .i64 k] 3)).drew := (below_al (Below.refl wk.heap.size wk) _).drew
          obtain ⟨v', w3, hrun, ho3, hb3, _, hg3, hat3⟩ := run_push_at (P := Try.prog) el23 23 ((hown.alloc (.cells #[.int .i64 k] 3)).drawn (Drawn.refl _).drew) [.int .i64 k] wk.heap.size 3 (heap_alloc_at wk _) rfl (by simp [Value.oneCell']) (by rw [List.length_map]; omega) (Nat.le_trans hP4 r1.size)
          obtain ⟨g3, cap3, hv', -, -, -⟩ := ho3.form (by rw [List.length_append]; simp)
          have hl4 : (t.map nrow ++ [[Value.int .i64 k]]).length = T + 1 := by rw [List.length_append, List.length_map, hT]; rfl
          rw [hl4] at hv'
          subst hv'
          have e3 : t.map nrow ++ [[Value.int .i64 k]] = (t ++ [k]).map nrow := by rw [List.map_append]; rfl
          rw [e3] at ho3
          have hBn := Lib.hid (hB.push hvn hxv htv r1 hb3 hg3 hat3 ho3)
          rw [hT] at hrun ca
          rw [appG_hook] at hrun
          obtain ⟨-, -, y2⟩ := hB.c0
          obtain ⟨l1, l2, l3, l4, l5, l6, l7, l8, l9⟩ := hlo.out
          have lowb : ∀ b, b < w.heap.size + 4 → w3.heap[b]? = wk.heap[b]? := fun b hb => (hb3.block b hb).trans (r1.block b (by omega))
          have y2l : (wk.alloc (.cells #[.int .i64 k] 3)).cell? ⟨w.heap.size + 3, 2, none⟩ = some (.slice (some ⟨pa, 0, none⟩) n n) := (World.cell?_of_block (a := ⟨w.heap.size + 3, 2, none⟩) (Below.heap_alloc _ _ _ hP4)).trans y2
          have y23 : w3.cell? ⟨w.heap.size + 3, 2, none⟩ = some (.slice (some ⟨pa, 0, none⟩) n n) := (World.cell?_of_block (a := ⟨w.heap.size + 3, 2, none⟩) (lowb (w.heap.size + 3) (by omega))).trans y2
          have cal : (wk.alloc (.cells #[.int .i64 k] 3)).cell? ⟨pa, v, none⟩ = some (.slice A0 T d0) := (World.cell?_of_block (a := ⟨pa, v, none⟩) (Below.heap_alloc _ _ _ (show pa < wk.heap.size by omega))).trans ca
          have ca3 : w3.cell? ⟨pa, v, none⟩ = some (.slice A0 T d0) := (World.cell?_of_block (a := ⟨pa, v, none⟩) (lowb pa (by omega))).trans ca
          have fa3 : w3.frozen? ⟨pa, v, none⟩ = false := by
            have h1 := hBn.out.a
            have := (hB.a.cell1 (row := fun x => [x]) (val := fun x => x) (fun _ => rfl) hB.na hvx).2
            unfold World.frozen? at this ⊢
            simp only at this ⊢
            rw [lowb pa (by omega)]
            exact this
          have hbn := Lib.hid (((hb.trans (r1.mono hb.size)).trans (hb3.mono (by omega))).setCell (p := ⟨pa, v, none⟩) (by show w.heap.size ≤ pa; omega) (.slice (some ⟨g3, 0, none⟩) (T + 1) cap3))
          have hsn' : Hid (ups (abv nd k) k (l.take (m + 1)) = ab.set v (t ++ [k])) := Lib.hid hsn
          have hv1 : (v : Int) < (n : Int) := by omega
          clear hB hb hown ho3 hb3 hg3 hat3 r1 lowb hsn habe hlab hl2 hl3 hgd htv hxv hva hvx hT e3 hl4 l1 l2 l3 l4 l5 l6 l7 l8 l9 hlo hIx hrk hlenk habk hmix hll hzl
          go_upto_region 9 with fail
          go_region
          go_wp2
          go_roundw
          case rel => exact ⟨m + 1, _, by omega, by go_num, by rw [hsn'.out]; exact hBn.out, hbn.out⟩
          case measure => first | (simp [intOf]; done) | (simp [intOf]; omega)
end Go.Proofs.Ytcioejamohjdgaa
