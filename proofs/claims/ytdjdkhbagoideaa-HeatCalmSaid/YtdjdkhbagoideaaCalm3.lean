/- Heat: HeatCalm: the loop over what was turned, walked by itself. -/
import Derived.Test.YtdjdkhbagoideaaCalm1
namespace Go.Proofs.Ytdjdkhbagoideaa
open Go.RowKit Go.BigFrame flt Ieee

set_option maxHeartbeats 16000000 in
set_option maxRecDepth 100000 in
theorem calm_l2 {Z : Zn} {W wq : World} {V : Value} {B g G P n ne d3 td : Nat} {v vo : Value} {A3 : Option Addr} {s s' : Hs} {tb ts : Bool} {tl : Int} {te : List (Nat × Bool)}
    (hne : te.length = ne) (hnm : ne ≤ 9223372036854775807) (hn1 : 1 ≤ n ∧ n ≤ 8)
    (hput : Hid (putb s.on te = s'.on)) (hnx : Hid (∀ (k : Nat) (hk : k < te.length), te[k].1 < n ∧ (putb s.on (te.take k))[te[k].1]? = some (!te[k].2))) (hasc : Hid (∀ (k : Nat) (hk : k + 1 < te.length), (te[k]'(by omega)).1 < te[k + 1].1))
    (hplen : Hid (∀ k : Nat, (putb s.on (te.take k)).length = n))
    (hC0 : Cal W wq Z V B g v vo s' G (putb s.on (te.take 0)) n) (hQ : Tq wq G P A3 ne d3 td tb tl ts te)
    {q0 q1 q2 q3 q4 q5 q6 q8 q9 q11 q13 q14 q15 q16 q17 q18 q19 q20 q21 q22 q23 q24 q25 q26 q27 q28 q29 q30 q31 q32 q33 q34 q35 q36 q37 q38 q39 q40 q41 q42 q43 q44 q45 q46 q47 q48 q49 q50 q51 q52 q53 q54 q55 q56 q57 q58 q59 q60 q61 q62 q63 q64 q65 q66 q67 q68 q69 q70 q71 q72 q73 q74 q75 q76 q77 q78 q79 q80 q81 q82 q83 q84 q85 q86 q87 q88 q89 q90 q91 q92 q93 q94 q95 q96 q97 q98 q99 q100 q101 q102 q103 q104 q105 q106 q107 q108 q109 q110 q111 q112 q113 q114 q115 q116 q117 q118 q119 q120 q121 q122 q123 q124 q125 q126 q127 q128 q129 q130 q131 q132 q133 q134 q135 q136 q137 q138 q139 q140 q141 q142 q143 q144 q145 q146 q147 q148 q149 q150 q151 q152 q153 q154 q155 q156 q157 q158 q159 q160 q161 q162 q163 q164 q165 q166 q167 q168 q169 q170 q171 q172 q173 q174 q175 q176 q177 q178 q179 q180 q181 q182 q183 q184 q185 q186 q187 q188 q189 q190 q191 q192 q193 q194 q195 q196 q197 q198 q199 q200 q201 q202 q203 q204 q205 q206 q207 q208 q209 q210 q211 q212 q213 q214 q215 q216 q217 q218 q219 q220 q221 q222 q223 q224 q225 q226 q227 q228 q229 q230 q231 q232 q233 q234 q235 q236 q237 q238 q239 q240 q241 q242 q243 q244 q245 q246 q247 q248 q249 q250 q251 q252 q253 q254 q255 q256 q257 q258 q259 q260 q261 q262 q263 q264 q265 q266 q267 q268 q269 q270 q271 q272 q273 q274 q275 q276 q277 q278 q279 q280 q281 q282 q283 q284 q285 q286 q287 q288 q289 q290 q291 q292 q293 q294 q295 q296 q297 q298 q299 q300 q301 q302 q303 q304 q305 q306 q307 q308 q309 q310 q311 : Value} {K : Exit → Act → World → Prop}
    (hK : Hid (∀ (wz : World), Cal W wz Z V B g v vo s' G s'.on n → Tq wz G P A3 ne d3 td tb tl ts te → ∀ (y4 y13 y122 y123 y124 y125 y126 y127 y128 y129 y130 y131 y132 y133 y134 y135 y136 y137 y138 y139 y140 y141 y142 y143 y144 y145 y146 y147 y148 y149 y150 y151 y152 y153 y154 y155 y156 y157 y158 y159 y160 y161 y162 y163 y164 y165 y166 y167 y168 y169 y170 y171 y172 y173 y174 y175 : Value), K (.exit 2) ⟨#[q0, q1, q2, q3, y4, q5, q6, .slice (some ⟨G, 0, none⟩) n n, q8, q9, .pointer (some ⟨P, 0, none⟩), q11, .int .i64 ne, y13, q14, q15, q16, q17, q18, q19, q20, q21, q22, q23, q24, q25, q26, q27, q28, q29, q30, q31, q32, q33, q34, q35, q36, q37, q38, q39, q40, q41, q42, q43, q44, q45, q46, q47, q48, q49, q50, q51, q52, q53, q54, q55, q56, q57, q58, q59, q60, q61, q62, q63, q64, q65, q66, q67, q68, q69, q70, q71, q72, q73, q74, q75, q76, q77, q78, q79, q80, q81, q82, q83, q84, q85, q86, q87, q88, q89, q90, q91, q92, q93, q94, q95, q96, q97, q98, q99, q100, q101, q102, q103, q104, q105, q106, q107, q108, q109, q110, q111, q112, q113, q114, q115, q116, q117, q118, q119, q120, q121, y122, y123, y124, y125, y126, y127, y128, y129, y130, y131, y132, y133, y134, y135, y136, y137, y138, y139, y140, y141, y142, y143, y144, y145, y146, y147, y148, y149, y150, y151, y152, y153, y154, y155, y156, y157, y158, y159, y160, y161, y162, y163, y164, y165, y166, y167, y168, y169, y170, y171, y172, y173, y174, y175, q176, q177, q178, q179, q180, q181, q182, q183, q184, q185, q186, q187, q188, q189, q190, q191, q192, q193, q194, q195, q196, q197, q198, q199, q200, q201, q202, q203, q204, q205, q206, q207, q208, q209, q210, q211, q212, q213, q214, q215, q216, q217, q218, q219, q220, q221, q222, q223, q224, q225, q226, q227, q228, q229, q230, q231, q232, q233, q234, q235, q236, q237, q238, q239, q240, q241, q242, q243, q244, q245, q246, q247, q248, q249, q250, q251, q252, q253, q254, q255, q256, q257, q258, q259, q260, q261, q262, q263, q264, q265, q266, q267, q268, q269, q270, q271, q272, q273, q274, q275, q276, q277, q278, q279, q280, q281, q282, q283, q284, q285, q286, q287, q288, q289, q290, q291, q292, q293, q294, q295, q296, q297, q298, q299, q300, q301, q302, q303, q304, q305, q306, q307, q308, q309, q310, q311], []⟩ wz)) :
    Code.wp Try.prog (lp 2) K ⟨#[q0, q1, q2, q3, q4, q5, q6, .slice (some ⟨G, 0, none⟩) n n, q8, q9, .pointer (some ⟨P, 0, none⟩), q11, .int .i64 0, q13, q14, q15, q16, q17, q18, q19, q20, q21, q22, q23, q24, q25, q26, q27, q28, q29, q30, q31, q32, q33, q34, q35, q36, q37, q38, q39, q40, q41, q42, q43, q44, q45, q46, q47, q48, q49, q50, q51, q52, q53, q54, q55, q56, q57, q58, q59, q60, q61, q62, q63, q64, q65, q66, q67, q68, q69, q70, q71, q72, q73, q74, q75, q76, q77, q78, q79, q80, q81, q82, q83, q84, q85, q86, q87, q88, q89, q90, q91, q92, q93, q94, q95, q96, q97, q98, q99, q100, q101, q102, q103, q104, q105, q106, q107, q108, q109, q110, q111, q112, q113, q114, q115, q116, q117, q118, q119, q120, q121, q122, q123, q124, q125, q126, q127, q128, q129, q130, q131, q132, q133, q134, q135, q136, q137, q138, q139, q140, q141, q142, q143, q144, q145, q146, q147, q148, q149, q150, q151, q152, q153, q154, q155, q156, q157, q158, q159, q160, q161, q162, q163, q164, q165, q166, q167, q168, q169, q170, q171, q172, q173, q174, q175, q176, q177, q178, q179, q180, q181, q182, q183, q184, q185, q186, q187, q188, q189, q190, q191, q192, q193, q194, q195, q196, q197, q198, q199, q200, q201, q202, q203, q204, q205, q206, q207, q208, q209, q210, q211, q212, q213, q214, q215, q216, q217, q218, q219, q220, q221, q222, q223, q224, q225, q226, q227, q228, q229, q230, q231, q232, q233, q234, q235, q236, q237, q238, q239, q240, q241, q242, q243, q244, q245, q246, q247, q248, q249, q250, q251, q252, q253, q254, q255, q256, q257, q258, q259, q260, q261, q262, q263, q264, q265, q266, q267, q268, q269, q270, q271, q272, q273, q274, q275, q276, q277, q278, q279, q280, q281, q282, q283, q284, q285, q286, q287, q288, q289, q290, q291, q292, q293, q294, q295, q296, q297, q298, q299, q300, q301, q302, q303, q304, q305, q306, q307, q308, q309, q310, q311], []⟩ wq := by
  conv => arg 2; whnf
  dsimp only
  go_loopw [12] (fun s12 wr => ∃ k : Nat, k ≤ ne ∧ s12 = .int .i64 k ∧ Cal W wr Z V B g v vo s' G (putb s.on (te.take k)) n ∧ Tq wr G P A3 ne d3 td tb tl ts te) (fun s12 _ => ne - (intOf s12).toNat)
  case atStart => exact ⟨0, by omega, rfl, hC0, hQ⟩
  case round =>
    clear hC0 hQ
    obtain ⟨k, hkn, rfl, hC, hQ⟩ := hrel
    obtain ⟨wz, rfl⟩ : ∃ x : World, x = wr := ⟨_, rfl⟩
    obtain ⟨x0, x1, x2, x3, x4, -⟩ := rows37 hQ.r
    by_cases hend : k = ne
    · subst hend
      have eT : te.take k = te := by rw [← hne]; exact List.take_length
      rw [eT, hput.out] at hC
      have hfin := Lib.hid (hK.out wz hC hQ)
      clear hK hnx hasc hput hplen eT hC hQ
      go_wp2
      exact hfin.out _ _ _ _ _ _ _ _ _ _ _ _ _ _ _ _ _ _ _ _ _ _ _ _ _ _ _ _ _ _ _ _ _ _ _ _ _ _ _ _ _ _ _ _ _ _ _ _ _ _ _ _ _ _ _ _
    · have hlt : k < ne := by omega
      have hlt' : (k : Int) < (ne : Int) := by omega
      have hkt : k < te.length := by omega
      obtain ⟨b1, rfl, hGb, hcells⟩ := hQ.rows hne hlt
      obtain ⟨a1, a2⟩ := hcells k hkt
      obtain ⟨n1, n2⟩ := hnx.out k hkt
      have hprev : ∀ j, k = j + 1 → ∃ tj : Nat, tj < te[k].1 ∧ wz.cell? ⟨b1, j * 2, none⟩ = some (.int .i64 tj) := fun j e => by
        subst e
        exact ⟨_, hasc.out j hkt, (hcells j (by omega)).1⟩
      have htk1 : putb s.on (te.take (k + 1)) = (putb s.on (te.take k)).set te[k].1 te[k].2 := putb_take hkt
      have hlen := hplen.out k
      have hlast := fun (X : World) (d : Below wz.heap.size wz X) => (hC.below d).put hlen n1 te[k].2
      have hcel := hC.cell hlen n1
      have hcv : (putb s.on (te.take k))[te[k].1]'(by omega) = !te[k].2 := by
        rw [List.getElem?_eq_getElem (by omega)] at n2
        exact Option.some.inj n2
      rw [hcv] at hcel
      have hQa := fun (X : World) (d : Below wz.heap.size wz X) => hQ.below d
      replace hQa := Lib.hid hQa
      replace hlast := Lib.hid hlast
      replace htk1 := Lib.hid htk1
      have hGz := hC.lt.2.2
      clear hcv hcells hend n2 hK hput hnx hasc hC hQ hlen
      generalize te[k].1 = tk at *
      generalize te[k].2 = tv at *
      clear hkt
      go_upto_region 19 with (refine wpList_store_row rfl 65 _ _ rfl wz.heap.size #[.int .i64 tk, .bool tv] rfl rfl 65 _ (heap_alloc_at _ _) (by kernel_rfl) (by kernel_rfl) (by kernel_rfl) ?_)
      rw [setRow_alloc _ _ _ _ _ rfl]
      simp only [Act.put]
      have hxt := heap_alloc_at wz (.cells #[.int .i64 tk, .bool tv] 65)
      have hbt := below_al (Below.refl wz.heap.size wz) (.cells #[.int .i64 tk, .bool tv] 65)
      generalize wz.alloc (.cells #[.int .i64 tk, .bool tv] 65) = wt at *
      have b0 : wt.cell? ⟨wz.heap.size, 0, none⟩ = some (.int .i64 tk) := by rw [cell_of_row _ _ 0 _ 65 (0, 0) hxt]; rfl
      have b1' : wt.cell? ⟨wz.heap.size, 1, none⟩ = some (.bool tv) := by rw [cell_of_row _ _ 1 _ 65 (0, 0) hxt]; rfl
      go_cut [169] from 134 to 169 (fun v wc => v = .bool false ∧ Drawn wt wc)
      case first =>
        have gc : wt.cell? ⟨G, tk, none⟩ = some (.bool !tv) := (World.cell?_of_block (a := ⟨G, tk, none⟩) (hbt.block _ hGz)).trans hcel
        have y4 : wt.cell? ⟨P, 4, none⟩ = some (.slice (some ⟨b1, 0, none⟩) ne d3) := (World.cell?_of_block (a := ⟨P, 4, none⟩) (hbt.block _ (cell_lt x4))).trans x4
        have htn : (tk : Int) < (n : Int) := by omega
        cases k with
        | zero =>
          clear hprev hlast hQa htk1 hcel x0 x1 x2 x3 x4 a1 a2 hxt hbt
          go_wp2
          have m1 : ¬ (tk : Int) < 0 := by omega
          have m2 : ¬ (n : Int) ≤ (tk : Int) := by omega
          have m3 : ((!tv) == tv) = false := by cases tv <;> rfl
          have m4 : ¬ (0 : Int) < ((0 : Nat) : Int) := by omega
          go_big_quiet (fail)
          go_wp2
          go_meet
          case rel => exact ⟨rfl, (Drawn.refl _).drewN _⟩
        | succ j =>
          obtain ⟨tj, hj1, hj2⟩ := hprev j rfl
          have yj : wt.cell? ⟨b1, j * 2, none⟩ = some (.int .i64 tj) := (World.cell?_of_block (a := ⟨b1, j * 2, none⟩) (hbt.block _ (cell_lt hj2))).trans hj2
          have hw : IntKind.i64.wrap (((j + 1 : Nat) : Int) - 1) = (j : Int) := by rw [IntKind.wrap_i64]; omega
          have hj3 : j < ne := by omega
          clear hprev hlast hQa htk1 hcel x0 x1 x2 x3 x4 a1 a2 hxt hbt hj2
          have hk0 : (0 : Int) < ((j + 1 : Nat) : Int) := by omega
          generalize j + 1 = k at *
          have hk0h := Lib.hid hk0
          have hwh := Lib.hid hw
          clear hk0 hw
          go_wp2
          have m1 : ¬ (tk : Int) < 0 := by omega
          have m2 : ¬ (n : Int) ≤ (tk : Int) := by omega
          have m3 : ((!tv) == tv) = false := by cases tv <;> rfl
          have m4 : ¬ (tk : Int) ≤ (tj : Int) := by omega
          have m5 : (0 : Int) < (k : Int) := hk0h.out
          have m6 : 0 < k := by omega
          have hw := hwh.out
          go_big_quiet (fail)
          go_wp2
          go_meet
          case rel => exact ⟨rfl, (Drawn.refl _).drewN _⟩
      obtain ⟨rfl, hd⟩ := hcut
      obtain ⟨wy, rfl⟩ : ∃ x : World, x = wc := ⟨_, rfl⟩
      obtain ⟨u0, c1', f1', -, hC'⟩ := hlast.out wy (hd.after hbt)
      have hQ' := (hQa.out wy (hd.after hbt)).set (k := tk) (.bool tv)
      have z0 : wy.cell? ⟨wz.heap.size, 0, none⟩ = some (.int .i64 tk) := (hd.cell _).trans b0
      have z1 : wy.cell? ⟨wz.heap.size, 1, none⟩ = some (.bool tv) := (hd.cell _).trans b1'
      have htn : (tk : Int) < (n : Int) := by omega
      replace hQ' := Lib.hid hQ'
      replace hC' := Lib.hid hC'
      clear hprev hlast hQa hcel x0 x1 x2 x3 x4 a1 a2 hxt hbt b0 b1' hd
      go_wp2
      go_roundw
      case rel => exact ⟨k + 1, by omega, by go_num, by rw [htk1.out]; exact hC'.out, hQ'.out⟩
      case measure => first | (simp [intOf]; done) | (simp [intOf]; omega)
end Go.Proofs.Ytdjdkhbagoideaa
