/- Crowd: lent, walked. -/
import Derived.Test.YtcioejamohjdgaaLn0
namespace Go.Proofs.Ytcioejamohjdgaa
open Go.RowKit Go.BigFrame

set_option maxHeartbeats 4000000 in
set_option maxRecDepth 100000 in
theorem lent_any (nd : List (List Int)) (A : Option Addr) (c n : Nat) (w : World) (h : Nds w A nd) (hn : nd.length = n) (hnb : n ≤ 1048576) (hlb : ∀ l ∈ nd, l.length ≤ 1048576) :
    Calls Try.prog 10 #[.slice A n c] w fun e w' => ∃ gx cx zs, e = .returned (.slice (some ⟨gx, 0, none⟩) n cx) ∧ n + 1 ≤ cx ∧ Lj w' w.heap.size (lnt nd ++ [([986], 1)]) (.slice (some ⟨gx, 0, none⟩) (n + 1) cx) zs ∧ Below w.heap.size w w' := by
  have hnd := Lib.hid fun (X : World) (q : Below w.heap.size w X) => h.below q
  replace hn := Lib.hid hn
  clear h
  go_enter Try.func10, Try.ntmps10
  go_upto_region 3 with fail
  go_loopw [4, 3] (fun s4 s3 wr => ∃ (k : Nat) (v : Value) (zs : List Value), v = s3 ∧ k ≤ n ∧ s4 = .int .i64 k ∧ Lj wr w.heap.size (lnt (nd.take k)) v zs ∧ Below w.heap.size w wr) (fun s4 _ _ => n - (intOf s4).toNat)
  case atStart => exact ⟨0, _, [], rfl, by omega, rfl, by rw [List.take_zero]; exact Lj.nil _ _, Below.refl _ _⟩
  case round =>
    obtain ⟨k, v, zs, rfl, hk, rfl, hL, hb⟩ := hrel
    obtain ⟨wk, rfl⟩ : ∃ x : World, x = wr := ⟨_, rfl⟩
    have hzl : zs.length = k := by rw [hL.l]; unfold lnt; rw [List.length_map, List.length_take, hn.out]; omega
    have hzl' : Hid ((zs.map fun x => [x]).length = k) := Lib.hid (by rw [List.length_map]; exact hzl)
    by_cases hkn : k = n
    · have hkn2 := hkn.symm
      subst hkn2
      have ho := hL.o
      have hsz := Lib.hid hb.size
      have hL' := Lib.hid hL
      have hb' := Lib.hid hb
      have hnt : Hid (nd.take n = nd) := Lib.hid (List.take_of_length_le (by rw [hn.out]; exact Nat.le_refl _))
      have hO0 := Lib.hid (Own.lit (w := wk) (base := wk.heap.size) (e := 3) (size := 1) (xs := [[.int .i64 986]]) #[.int .i64 986] 1 rfl rfl (by simp) (Nat.le_refl _) (by decide))
      clear hL hb hzl hnd hkn
      have hgA : Hid (((wk.alloc (.cells #[.int .i64 986] 3)).alloc (.cells #[.slice (some ⟨wk.heap.size, 0, none⟩) 1 1] 23)).heap[wk.heap.size + 1]? = some (.cells #[.slice (some ⟨wk.heap.size, 0, none⟩) 1 1] 23)) := Lib.hid (heap_alloc_at' _ _ _ (by rw [size_al]))
      have hoA : Hid (Own ((wk.alloc (.cells #[.int .i64 986] 3)).alloc (.cells #[.slice (some ⟨wk.heap.size, 0, none⟩) 1 1] 23)) w.heap.size 23 1 (zs.map fun x => [x]) v) := Lib.hid ((ho.alloc _).alloc _)
      have hbA : Hid (w.heap.size ≤ ((wk.alloc (.cells #[.int .i64 986] 3)).alloc (.cells #[.slice (some ⟨wk.heap.size, 0, none⟩) 1 1] 23)).heap.size) := Lib.hid (by have := hsz.out; rw [size_al, size_al]; omega)
      have hbyA : Hid (((zs.map fun x => [x]).length + 1) * 24 ≤ 140737488355328) := Lib.hid (by rw [hzl'.out]; omega)
      clear ho
      go_wp2_with (at_builtin; (refine wpList_push_at el22 rfl _ _ rfl rfl hoA.out [.slice (some ⟨wk.heap.size, 0, none⟩) 1 1] (wk.heap.size + 1) 23 rfl hgA.out rfl (by simp [Value.oneCell']) hbyA.out hbA.out ?_); intro v2 w2 ho2 hb2 hs2 _ hg2 hat2; obtain ⟨gx, cx, rfl, hcx, hcx'⟩ := own_end2 ho2 hzl'.out; replace hg2 := Lib.hid hg2; replace hat2 := Lib.hid hat2; replace ho2 := Lib.hid ho2; replace hb2 := Lib.hid hb2; replace hs2 := Lib.hid hs2)
      go_ret
      have hp := Lj.push (m := 1) (l := [986]) hL'.out (below_al (Below.refl wk.heap.size wk) _) hO0.out hsz.out (below_al (Below.refl _ _) _) ho2.out hg2.out hat2.out
      rw [hnt.out] at hp
      exact ⟨_, _, _, rfl, hcx, hp, ((below_al (below_al hb'.out _) _).trans hb2.out)⟩
    · have hlt : k < n := by omega
      have hkd : k < nd.length := by rw [hn.out]; exact hlt
      obtain ⟨bb, oo, Ak, ck, rfl, hbb, cc, hI, hz⟩ := (hnd.out wk hb).2 k hkd
      have hlk := Lib.hid (hlb _ (List.getElem_mem hkd))
      have hsn := lnt_snoc nd hkd
      generalize hl : nd[k] = l at *
      have hll : Hid ((l.map irow).length = l.length) := Lib.hid (List.length_map _)
      obtain ⟨lk, hlk2⟩ : ∃ x, l.length = x := ⟨_, rfl⟩
      rw [hlk2] at cc hll hlk
      have hl2 : Hid (l.length = lk) := Lib.hid hlk2
      have cc2 : (wk.alloc (.cells #[] 3)).cell? ⟨bb, oo + k, none⟩ = some (.slice Ak lk ck) := (World.cell?_of_block (a := ⟨bb, oo + k, none⟩) (Below.heap_alloc _ _ _ hbb)).trans cc
      have hsz := Lib.hid hb.size
      have ho := Lib.hid hL.o
      clear hl hnd hlk2
      go_upto_region 7 with (first
        | (at_builtin; refine wpList_app_any el23 rfl _ _ rfl rfl (Own.lit (w := wk) (base := wk.heap.size) (e := 3) (size := 1) (xs := []) #[] 0 rfl rfl (by simp) (Nat.le_refl _) (by decide)) Ak ck lk hll.out.symm rfl hz (Sl.alloc hI _) (one_ints l) (by rw [hll.out]; have := hlk.out; simp; omega) (by rw [size_al]; omega) ?_; intro v1 w1 ho1 hb1 hs1 _ _; rw [List.nil_append] at ho1)
        | (at_builtin; refine wpList_push el23 rfl _ _ rfl rfl (ho1.alloc _) [.int .i64 987] w1.heap.size 3 rfl (heap_alloc_at _ _) rfl (by simp [Value.oneCell']) (by rw [hll.out]; have := hlk.out; omega) (by rw [size_al]; rw [size_al] at hs1; omega) ?_; intro v2 w2 ho2 hb2 hs2 _ _))
      obtain ⟨g2, c2, hv2, hc2, -⟩ := own_end ho2
      rw [hll.out] at hv2 hc2
      subst hv2
      have hc2' : (lk : Int) ≤ (c2 : Int) := by omega
      have hbk : Below wk.heap.size wk w2 := ((below_al (Below.refl wk.heap.size wk) _).trans hb1).trans ((below_al (Below.refl w1.heap.size w1) _).mono (by rw [size_al] at hs1; omega) |>.trans hb2)
      have hO2 : Hid (Own w2 wk.heap.size 3 1 ((l ++ [987]).map irow) (.slice (some ⟨g2, 0, none⟩) (l ++ [987]).length c2)) := Lib.hid (by
        rw [List.map_append, List.length_append, hl2.out]
        exact ho2)
      have hbk' := Lib.hid hbk
      have ho' := ho.out.below hbk
      have hs3 := Lib.hid hbk.size
      have hL' := Lib.hid hL
      have hb' := Lib.hid hb
      have hsn' := Lib.hid hsn
      clear ho1 hb1 hs1 ho2 hb2 hs2 hbk hL hb hsn hI cc
      go_upto_region 4 with (at_builtin; refine wpList_push_at el22 rfl _ _ rfl rfl (ho'.alloc _) [.slice (some ⟨g2, 0, none⟩) lk c2] w2.heap.size 23 rfl (heap_alloc_at _ _) rfl (by simp [Value.oneCell']) (by rw [hzl'.out]; omega) (by rw [size_al]; have := hsz.out; have := hs3.out; omega) ?_; intro v3 w3 ho3 hb3 hs4 _ hg3 hat3)
      have hp := Lib.hid (Lj.push (m := lk) hL'.out hbk'.out hO2.out hsz.out (below_al (Below.refl w2.heap.size w2) _) ho3 hg3 hat3)
      have hbf := Lib.hid (hb'.out.trans ((hbk'.out.mono hsz.out).trans (((below_al (Below.refl w2.heap.size w2) _).mono (Nat.le_trans hsz.out hs3.out)).trans hb3)))
      clear ho3 hb3 hs4 hg3 hat3 ho'
      go_wp2
      go_roundw
      case rel => exact ⟨k + 1, _, _, rfl, by omega, by go_num, by rw [← hsn'.out, hl2.out]; exact hp.out, hbf.out⟩
      case measure => first | (simp [intOf]; done) | (simp [intOf]; omega)
end Go.Proofs.Ytcioejamohjdgaa
