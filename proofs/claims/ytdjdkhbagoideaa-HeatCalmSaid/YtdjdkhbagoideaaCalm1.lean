/- Heat: HeatCalm: its inner loops, walked each by itself. -/
import Derived.Test.YtdjdkhbagoideaaCalm
namespace Go.Proofs.Ytdjdkhbagoideaa
open Go.RowKit Go.BigFrame flt Ieee

def findBlock (n : Nat) : Code → Option Code
  | .block k c => if k = n then some c else findBlock n c
  | .seq a b => match findBlock n a with
    | some c => some c
    | none => findBlock n b
  | .cond _ a b => match findBlock n a with
    | some c => some c
    | none => findBlock n b
  | .loop c => findBlock n c
  | .scope c => findBlock n c
  | _ => none
noncomputable def lp (n : Nat) : Code := (Try.f5.body.bind (findBlock n)).getD .skip
set_option maxHeartbeats 16000000 in
set_option maxRecDepth 100000 in
theorem calm_l3 {Z : Zn} {W wx0 : World} {A : Option Addr} {c B g G P n k d3 td : Nat} {v vo : Value} {A3 : Option Addr} {s' sd : Hs} {tb ts : Bool} {tl : Int} {te : List (Nat × Bool)} (hZ : Zok Z)
    (hcz : Hid (∀ (k : Nat) (hk : k < Z.tr.length) (X : World), Below W.heap.size W X → ∃ b o, A = some ⟨b, o, none⟩ ∧ b < X.heap.size ∧ X.cell? ⟨b, o + k * 3, none⟩ = some (.float .f64 Z.tr[k].a) ∧ X.cell? ⟨b, o + k * 3 + 1, none⟩ = some (.float .f64 Z.tr[k].b) ∧ X.cell? ⟨b, o + k * 3 + 2, none⟩ = some (.int .u8 Z.tr[k].k)))
    (hn : Hid (Z.tr.length = n)) (hn1 : 1 ≤ n ∧ n ≤ 8) (hlon : s'.on.length = n)
    (hos : Hid (s' = sd → ∀ (k : Nat) (q : k < Z.tr.length) (q' : k < sd.on.length), (sd.on[k] = true → lt sd.h (fsub Z.tr[k].a Z.tr[k].b) = false) ∧ (sd.on[k] = false → ge sd.h Z.tr[k].a = false)))
    (t7 : Hid (tb = false → s' = sd ∧ td = sd.h ∧ ts = sd.sh))
    (hC : Cal W wx0 Z (.slice A n c) B g v vo s' G s'.on n) (hQ : Tq wx0 G P A3 k d3 td tb tl ts te)
    {q0 q1 q3 q4 q6 q8 q9 q11 q12 q13 q18 q19 q20 q21 q22 q23 q24 q25 q26 q27 q28 q29 q30 q31 q32 q33 q34 q35 q36 q37 q38 q39 q40 q41 q42 q43 q44 q45 q46 q47 q48 q49 q50 q51 q52 q53 q54 q55 q56 q57 q58 q59 q60 q61 q62 q63 q64 q65 q66 q67 q68 q69 q70 q71 q72 q73 q74 q75 q76 q77 q78 q79 q80 q81 q82 q83 q84 q85 q86 q87 q88 q89 q90 q91 q92 q93 q94 q95 q96 q97 q98 q99 q100 q101 q102 q103 q104 q105 q106 q107 q108 q109 q110 q111 q112 q113 q114 q115 q116 q117 q118 q119 q120 q121 q122 q123 q124 q125 q126 q127 q128 q129 q130 q131 q132 q133 q134 q135 q136 q137 q138 q139 q140 q141 q142 q143 q144 q145 q146 q147 q148 q149 q150 q151 q152 q153 q154 q155 q156 q157 q158 q159 q160 q161 q162 q163 q164 q165 q166 q167 q168 q169 q170 q171 q172 q173 q174 q175 q176 q177 q178 q179 q180 q181 q182 q183 q184 q185 q186 q187 q188 q189 q190 q191 q192 q193 q194 q195 q196 q197 q198 q199 q200 q201 q202 q203 q204 q205 q206 q207 q208 q209 q210 q211 q212 q213 q214 q215 q216 q217 q218 q219 q220 q221 q222 q223 q224 q225 q226 q227 q228 q229 q230 q231 q232 q233 q234 q235 q236 q237 q238 q239 q240 q241 q242 q243 q244 q245 q246 q247 q248 q249 q250 q251 q252 q253 q254 q255 q256 q257 q258 q259 q260 q261 q262 q263 q264 q265 q266 q267 q268 q269 q270 q271 q272 q273 q274 q275 q276 q277 q278 q279 q280 q281 q282 q283 q284 q285 q286 q287 q288 q289 q290 q291 q292 q293 q294 q295 q296 q297 q298 q299 q300 q301 q302 q303 q304 q305 q306 q307 q308 q309 q310 q311 : Value} {K : Exit → Act → World → Prop}
    (hK : Hid (∀ (j : Nat) (wx : World), j ≤ n → (tb = true → j = 0) → ¬ (tb = false ∧ j < n) → Cal W wx Z (.slice A n c) B g v vo s' G s'.on n → Tq wx G P A3 k d3 td tb tl ts te → ∀ (y4 y18 y19 y176 y177 y178 y179 y180 y181 y182 y183 y184 y185 y186 y187 y188 y189 y190 y191 y192 y193 y194 y195 y196 y197 y198 y199 y200 y201 y202 y203 y204 y205 y206 y207 y208 y209 y210 y211 y212 y213 y214 y215 y216 y217 y218 y219 y220 y221 y222 y223 y224 y225 y226 y227 y228 y229 y230 y231 y232 y233 y234 y235 y236 y237 y238 y239 y240 y241 y242 y243 y244 y245 y246 y247 y248 y249 y250 y251 y252 y253 y254 y255 y256 y257 y258 y259 y260 y261 y262 y263 y264 y265 y266 : Value), K (.exit 4) ⟨#[q0, q1, .pointer (some ⟨W.heap.size, 0, none⟩), q3, y4, .pointer (some ⟨g, 0, none⟩), q6, .slice (some ⟨G, 0, none⟩) n n, q8, q9, .pointer (some ⟨P, 0, none⟩), q11, q12, q13, .bool (anyk 2 (Z.tr.take j) (s'.on.take j)), .bool (anyk 3 (Z.tr.take j) (s'.on.take j)), .bool (anyk 1 (Z.tr.take j) (s'.on.take j)), .int .i64 j, y18, y19, q20, q21, q22, q23, q24, q25, q26, q27, q28, q29, q30, q31, q32, q33, q34, q35, q36, q37, q38, q39, q40, q41, q42, q43, q44, q45, q46, q47, q48, q49, q50, q51, q52, q53, q54, q55, q56, q57, q58, q59, q60, q61, q62, q63, q64, q65, q66, q67, q68, q69, q70, q71, q72, q73, q74, q75, q76, q77, q78, q79, q80, q81, q82, q83, q84, q85, q86, q87, q88, q89, q90, q91, q92, q93, q94, q95, q96, q97, q98, q99, q100, q101, q102, q103, q104, q105, q106, q107, q108, q109, q110, q111, q112, q113, q114, q115, q116, q117, q118, q119, q120, q121, q122, q123, q124, q125, q126, q127, q128, q129, q130, q131, q132, q133, q134, q135, q136, q137, q138, q139, q140, q141, q142, q143, q144, q145, q146, q147, q148, q149, q150, q151, q152, q153, q154, q155, q156, q157, q158, q159, q160, q161, q162, q163, q164, q165, q166, q167, q168, q169, q170, q171, q172, q173, q174, q175, y176, y177, y178, y179, y180, y181, y182, y183, y184, y185, y186, y187, y188, y189, y190, y191, y192, y193, y194, y195, y196, y197, y198, y199, y200, y201, y202, y203, y204, y205, y206, y207, y208, y209, y210, y211, y212, y213, y214, y215, y216, y217, y218, y219, y220, y221, y222, y223, y224, y225, y226, y227, y228, y229, y230, y231, y232, y233, y234, y235, y236, y237, y238, y239, y240, y241, y242, y243, y244, y245, y246, y247, y248, y249, y250, y251, y252, y253, y254, y255, y256, y257, y258, y259, y260, y261, y262, y263, y264, y265, y266, q267, q268, q269, q270, q271, q272, q273, q274, q275, q276, q277, q278, q279, q280, q281, q282, q283, q284, q285, q286, q287, q288, q289, q290, q291, q292, q293, q294, q295, q296, q297, q298, q299, q300, q301, q302, q303, q304, q305, q306, q307, q308, q309, q310, q311], []⟩ wx)) :
    Code.wp Try.prog (lp 4) K ⟨#[q0, q1, .pointer (some ⟨W.heap.size, 0, none⟩), q3, q4, .pointer (some ⟨g, 0, none⟩), q6, .slice (some ⟨G, 0, none⟩) n n, q8, q9, .pointer (some ⟨P, 0, none⟩), q11, q12, q13, .bool false, .bool false, .bool false, .int .i64 0, q18, q19, q20, q21, q22, q23, q24, q25, q26, q27, q28, q29, q30, q31, q32, q33, q34, q35, q36, q37, q38, q39, q40, q41, q42, q43, q44, q45, q46, q47, q48, q49, q50, q51, q52, q53, q54, q55, q56, q57, q58, q59, q60, q61, q62, q63, q64, q65, q66, q67, q68, q69, q70, q71, q72, q73, q74, q75, q76, q77, q78, q79, q80, q81, q82, q83, q84, q85, q86, q87, q88, q89, q90, q91, q92, q93, q94, q95, q96, q97, q98, q99, q100, q101, q102, q103, q104, q105, q106, q107, q108, q109, q110, q111, q112, q113, q114, q115, q116, q117, q118, q119, q120, q121, q122, q123, q124, q125, q126, q127, q128, q129, q130, q131, q132, q133, q134, q135, q136, q137, q138, q139, q140, q141, q142, q143, q144, q145, q146, q147, q148, q149, q150, q151, q152, q153, q154, q155, q156, q157, q158, q159, q160, q161, q162, q163, q164, q165, q166, q167, q168, q169, q170, q171, q172, q173, q174, q175, q176, q177, q178, q179, q180, q181, q182, q183, q184, q185, q186, q187, q188, q189, q190, q191, q192, q193, q194, q195, q196, q197, q198, q199, q200, q201, q202, q203, q204, q205, q206, q207, q208, q209, q210, q211, q212, q213, q214, q215, q216, q217, q218, q219, q220, q221, q222, q223, q224, q225, q226, q227, q228, q229, q230, q231, q232, q233, q234, q235, q236, q237, q238, q239, q240, q241, q242, q243, q244, q245, q246, q247, q248, q249, q250, q251, q252, q253, q254, q255, q256, q257, q258, q259, q260, q261, q262, q263, q264, q265, q266, q267, q268, q269, q270, q271, q272, q273, q274, q275, q276, q277, q278, q279, q280, q281, q282, q283, q284, q285, q286, q287, q288, q289, q290, q291, q292, q293, q294, q295, q296, q297, q298, q299, q300, q301, q302, q303, q304, q305, q306, q307, q308, q309, q310, q311], []⟩ wx0 := by
  have hnb := hn1.2
  conv => arg 2; whnf
  dsimp only
  go_loopw [14, 15, 16, 17] (fun s14 s15 s16 s17 wr => ∃ j : Nat, j ≤ n ∧ s17 = .int .i64 j ∧ (tb = true → j = 0) ∧ s14 = .bool (anyk 2 (Z.tr.take j) (s'.on.take j)) ∧ s15 = .bool (anyk 3 (Z.tr.take j) (s'.on.take j)) ∧ s16 = .bool (anyk 1 (Z.tr.take j) (s'.on.take j)) ∧ Cal W wr Z (.slice A n c) B g v vo s' G s'.on n ∧ Tq wr G P A3 k d3 td tb tl ts te) (fun _ _ _ s17 _ => n - (intOf s17).toNat)
  case atStart => exact ⟨0, by omega, rfl, fun _ => rfl, by simp [anyk], by simp [anyk], by simp [anyk], hC, hQ⟩
  case round =>
    clear hC hQ
    obtain ⟨j, hj, rfl, hj0, rfl, rfl, rfl, hC, hQ⟩ := hrel
    obtain ⟨wx, rfl⟩ : ∃ x : World, x = wr := ⟨_, rfl⟩
    obtain ⟨x0, x1, x2, x3, x4, -⟩ := rows37 hQ.r
    by_cases hgo : tb = false ∧ j < n
    · obtain ⟨rfl, hjn⟩ := hgo
      have hjn' : (j : Int) < (n : Int) := by omega
      obtain ⟨es, ed, -⟩ := t7.out rfl
      have hjz : j < Z.tr.length := by rw [hn.out]; exact hjn
      have hjs : j < s'.on.length := by omega
      obtain ⟨b, o, rfl, -, a0, a1, a2⟩ := hcz.out j hjz wx hC.w
      obtain ⟨z5, z6⟩ := hC.zcell
      have htr := hZ.tr _ (List.getElem_mem hjz)
      obtain ⟨hsub, -⟩ := htr.1.sub htr.2.1 (by unfold In53; omega)
      have r1 := fun W => run_float_arith (P := Try.prog) W .sub 25 .f64 _ _ _ hsub
      have hsay := hos.out es j hjz (by rw [← es]; exact hjs)
      have hoc := hC.cell hlon hjn
      have hab := fun (X : World) (d : Below wx.heap.size wx X) => hC.below d
      have haq := fun (X : World) (d : Below wx.heap.size wx X) => hQ.below d
      have hGx := hC.lt.2.2
      have hG2 : Hid (s'.on[j]'hjs = sd.on[j]'(by rw [← es]; exact hjs)) := Lib.hid (by subst es; rfl)
      have hks := fun (X : World) (d : Below wx.heap.size wx X) => on_any (hC.below d).a (by omega) (j : Int)
      rw [if_pos (by omega), Int.toNat_natCast, List.getD_eq_getElem?_getD, List.getElem?_eq_getElem hjs] at hks
      simp only [Option.getD_some] at hks
      rw [← hG2.out, ← ed] at hsay
      have ht2 := anyk_take 2 Z.tr s'.on j hjz hjs
      have ht3 := anyk_take 3 Z.tr s'.on j hjz hjs
      have ht1 := anyk_take 1 Z.tr s'.on j hjz hjs
      replace hab := Lib.hid hab
      replace haq := Lib.hid haq
      clear es ed hC hQ htr hsub hcz hos t7 hG2 hK
      have hkk : 0 ≤ Z.tr[j].k := by have := (hZ.tr _ (List.getElem_mem hjz)).2.2.1; omega
      generalize s'.on[j] = ob at *
      generalize anyk 2 (Z.tr.take j) (s'.on.take j) = q2 at *
      generalize anyk 3 (Z.tr.take j) (s'.on.take j) = q3 at *
      generalize anyk 1 (Z.tr.take j) (s'.on.take j) = q1 at *
      generalize Z.tr[j] = u at *
      obtain ⟨ua, ub, uk⟩ := u
      simp only at a0 a1 a2 r1 hsay ht1 ht2 ht3 hkk
      replace ht1 := Lib.hid ht1
      replace ht2 := Lib.hid ht2
      replace ht3 := Lib.hid ht3
      clear hjz hjs
      go_upto_region 29 with (refine wpList_store_row rfl 67 _ _ rfl wx.heap.size #[.float .f64 ua, .float .f64 ub, .int .u8 uk] rfl rfl 67 _ (heap_alloc_at _ _) (by kernel_rfl) (by kernel_rfl) (by kernel_rfl) ?_)
      rw [setRow_alloc _ _ _ _ _ rfl]
      simp only [Act.put]
      have hxt := heap_alloc_at wx (.cells #[.float .f64 ua, .float .f64 ub, .int .u8 uk] 67)
      have hbt := below_al (Below.refl wx.heap.size wx) (.cells #[.float .f64 ua, .float .f64 ub, .int .u8 uk] 67)
      generalize wx.alloc (.cells #[.float .f64 ua, .float .f64 ub, .int .u8 uk] 67) = wt at *
      have b0 : wt.cell? ⟨wx.heap.size, 0, none⟩ = some (.float .f64 ua) := by rw [cell_of_row _ _ 0 _ 67 (0, 0) hxt]; rfl
      have b1 : wt.cell? ⟨wx.heap.size, 1, none⟩ = some (.float .f64 ub) := by rw [cell_of_row _ _ 1 _ 67 (0, 0) hxt]; rfl
      have b2 : wt.cell? ⟨wx.heap.size, 2, none⟩ = some (.int .u8 uk) := by rw [cell_of_row _ _ 2 _ 67 (0, 0) hxt]; rfl
      have y0 : wt.cell? ⟨P, 0, none⟩ = some (.float .f64 td) := (World.cell?_of_block (a := ⟨P, 0, none⟩) (hbt.block _ (cell_lt x0))).trans x0
      have gc : wt.cell? ⟨G, j, none⟩ = some (.bool ob) := (World.cell?_of_block (a := ⟨G, j, none⟩) (hbt.block _ hGx)).trans hoc
      replace hks := fun (m : Nat) => hks (wt.drewN m) (below_drewN' hbt m)
      clear hxt x0 x1 x2 x3 x4 a0 a1 a2 hoc z5 z6
      generalize fsub ua ub = sb at *
      go_upto_region 30 with fail
      clear r1
      go_cut [230] from 197 to 230 (fun v wc => v = .bool false ∧ Drawn wt wc)
      case first =>
        obtain ⟨h1, h2⟩ := hsay
        clear ht1 ht2 ht3 hab haq hbt
        cases ob with
        | true =>
          have m1 := Lib.hid (show (FloatKind.f64.format.order td sb == some .lt) = false from h1 rfl)
          clear h1 h2
          go_wp2
          have m1 := m1.out
          go_big_quiet ((go_at_call 17; exact quiet_same (hks _)))
          go_wp2
          go_meet
          case rel => exact ⟨rfl, (Drawn.refl _).drewN _⟩
        | false =>
          have m1 := Lib.hid (show (FloatKind.f64.format.order td ua == some .gt || FloatKind.f64.format.order td ua == some .eq) = false from h2 rfl)
          clear h1 h2
          go_wp2
          have m1 := m1.out
          go_big_quiet ((go_at_call 17; exact quiet_same (hks _)))
          go_wp2
          go_meet
          case rel => exact ⟨rfl, (Drawn.refl _).drewN _⟩
      obtain ⟨rfl, hd⟩ := hcut
      obtain ⟨wy, rfl⟩ : ∃ x : World, x = wc := ⟨_, rfl⟩
      have hC' := Lib.hid (hab.out wy (hd.after hbt))
      have hQ' := Lib.hid (haq.out wy (hd.after hbt))
      have z2 : wy.cell? ⟨wx.heap.size, 2, none⟩ = some (.int .u8 uk) := (hd.cell _).trans b2
      have zc : wy.cell? ⟨G, j, none⟩ = some (.bool ob) := (hd.cell _).trans gc
      clear hsay hab haq hbt b0 b1 b2 y0 gc hks hd
      obtain ⟨e2, he2⟩ : ∃ x, (uk == 2) = x := ⟨_, rfl⟩
      obtain ⟨e3, he3⟩ : ∃ x, (uk == 3) = x := ⟨_, rfl⟩
      obtain ⟨e1, he1⟩ : ∃ x, (uk == 1) = x := ⟨_, rfl⟩
      rw [he2] at ht2
      rw [he3] at ht3
      rw [he1] at ht1
      go_upto_region 32 with fail
      go_cut [14] from 231 to 242 (fun v wc => v = .bool (q2 || (ob && e2)) ∧ wy = wc)
      case first =>
        clear ht1 ht2 ht3 he1 he3
        cases q2 <;> cases ob <;> (go_wp2; go_meet; case rel => exact ⟨rfl, rfl⟩)
      obtain ⟨rfl, rfl⟩ := hcut
      go_upto_region 33 with fail
      go_cut [15] from 243 to 254 (fun v wc => v = .bool (q3 || (ob && e3)) ∧ wy = wc)
      case first =>
        clear ht1 ht2 ht3 he1 he2
        cases q3 <;> cases ob <;> (go_wp2; go_meet; case rel => exact ⟨rfl, rfl⟩)
      obtain ⟨rfl, rfl⟩ := hcut
      clear he2 he3
      have hn9 : n ≤ 8 := hnb
      cases q1 <;> cases ob <;> (go_wp2; go_roundw; (case rel => exact ⟨j + 1, by omega, by go_num, fun q => by (cases q), by rw [ht2.out], by rw [ht3.out], by rw [ht1.out]; rfl, hC'.out, hQ'.out⟩); (case measure => first | (simp [intOf]; done) | (simp [intOf]; omega)))
    · have hfin := hK.out j wx hj hj0 hgo hC hQ
      clear hK hcz hos t7
      cases tb with
      | true =>
        obtain rfl : j = 0 := hj0 rfl
        have hjn' : (0 : Int) < (n : Int) := by omega
        replace hfin := Lib.hid hfin
        clear hC hQ
        go_wp2
        exact hfin.out _ _ _ _ _ _ _ _ _ _ _ _ _ _ _ _ _ _ _ _ _ _ _ _ _ _ _ _ _ _ _ _ _ _ _ _ _ _ _ _ _ _ _ _ _ _ _ _ _ _ _ _ _ _ _ _ _ _ _ _ _ _ _ _ _ _ _ _ _ _ _ _ _ _ _ _ _ _ _ _ _ _ _ _ _ _ _ _ _ _ _ _ _ _
      | false =>
        obtain rfl : j = n := by
          rcases Nat.lt_or_ge j n with q | q
          · exact absurd ⟨rfl, q⟩ hgo
          · omega
        replace hfin := Lib.hid hfin
        clear hC hQ
        go_wp2
        exact hfin.out _ _ _ _ _ _ _ _ _ _ _ _ _ _ _ _ _ _ _ _ _ _ _ _ _ _ _ _ _ _ _ _ _ _ _ _ _ _ _ _ _ _ _ _ _ _ _ _ _ _ _ _ _ _ _ _ _ _ _ _ _ _ _ _ _ _ _ _ _ _ _ _ _ _ _ _ _ _ _ _ _ _ _ _ _ _ _ _ _ _ _ _ _ _
end Go.Proofs.Ytdjdkhbagoideaa
