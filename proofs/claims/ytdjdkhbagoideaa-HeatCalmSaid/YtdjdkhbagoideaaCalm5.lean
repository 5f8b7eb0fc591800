/- Heat: the step of HeatCalm, walked by itself. -/
import Derived.Test.YtdjdkhbagoideaaCalm4
namespace Go.Proofs.Ytdjdkhbagoideaa
open Go.RowKit Go.BigFrame flt Ieee

set_option maxHeartbeats 8000000 in
set_option maxRecDepth 100000 in
theorem calm_r9 {Z : Zn} {s : Hs} {W wk : World} {A : Option Addr} {c n B G g b o L c1 i fx fy : Nat} {v vo : Value} (hZ : Zok Z) (hk : Hok Z s) (hC : Cal W wk Z (.slice A n c) B g v vo s G s.on n) (hil : i < L) (hil' : (i : Int) < (L : Int))
    (hX : ∀ X, Below W.heap.size W X → X.cell? ⟨b, o + i * 2, none⟩ = some (.float .f64 fx) ∧ X.cell? ⟨b, o + i * 2 + 1, none⟩ = some (.float .f64 fy)) {x0 x2 x3 x4 x6 x7 x8 x10 x11 x12 x13 x14 x15 x16 x17 x18 x19 x20 x21 x22 x23 x24 x25 x26 x27 x28 x29 x30 x31 x32 x33 x34 x35 x36 x37 x38 x39 x40 x41 x42 x43 x44 x45 x46 x47 x48 x49 x50 x51 x52 x53 x54 x55 x56 x57 x58 x59 x60 x61 x62 x63 x64 x65 x66 x67 x68 x69 x70 x71 x72 x73 x74 x75 x76 x77 x78 x79 x80 x81 x82 x83 x84 x85 x86 x87 x88 x89 x90 x91 x92 x93 x94 x95 x96 x97 x98 x99 x100 x101 x102 x103 x104 x105 x106 x107 x108 x109 x110 x111 x112 x113 x114 x115 x116 x117 x118 x119 x120 x121 x122 x123 x124 x125 x126 x127 x128 x129 x130 x131 x132 x133 x134 x135 x136 x137 x138 x139 x140 x141 x142 x143 x144 x145 x146 x147 x148 x149 x150 x151 x152 x153 x154 x155 x156 x157 x158 x159 x160 x161 x162 x163 x164 x165 x166 x167 x168 x169 x170 x171 x172 x173 x174 x175 x176 x177 x178 x179 x180 x181 x182 x183 x184 x185 x186 x187 x188 x189 x190 x191 x192 x193 x194 x195 x196 x197 x198 x199 x200 x201 x202 x203 x204 x205 x206 x207 x208 x209 x210 x211 x212 x213 x214 x215 x216 x217 x218 x219 x220 x221 x222 x223 x224 x225 x226 x227 x228 x229 x230 x231 x232 x233 x234 x235 x236 x237 x238 x239 x240 x241 x242 x243 x244 x245 x246 x247 x248 x249 x250 x251 x252 x253 x254 x255 x256 x257 x258 x259 x260 x261 x262 x263 x264 x265 x266 x267 x268 x269 x270 x271 x272 x273 x274 x275 x276 x277 x278 x279 x280 x281 x282 x283 x284 x285 x286 x287 x288 x289 x290 x291 x292 x293 x294 x295 x296 x297 x298 x299 x300 x301 x302 x303 x304 x305 x306 x307 x308 x309 x310 x311 : Value} {K : Exit → Act → World → Prop}
    (hK : ∀ (wc : World) (p : Value), Tm wc G (told Z s fx fy) p ∧ Cal W wc Z (.slice A n c) B g v vo (nxt Z s fx fy) G s.on n → ∀ (y47 y48 y49 y50 y51 y52 y53 y54 y55 y56 y57 y58 y59 y60 y61 : Value), K .normal ⟨#[x0, .slice (some ⟨b, o, none⟩) L c1, x2, x3, x4, .pointer (some ⟨g, 0, none⟩), x6, x7, x8, .int .i64 i, p, .int .i64 (code s fx fy), x12, x13, x14, x15, x16, x17, x18, x19, x20, x21, x22, x23, x24, x25, x26, x27, x28, x29, x30, x31, x32, x33, x34, x35, x36, x37, x38, x39, x40, x41, x42, x43, x44, x45, x46, y47, y48, y49, y50, y51, y52, y53, y54, y55, y56, y57, y58, y59, y60, y61, x62, x63, x64, x65, x66, x67, x68, x69, x70, x71, x72, x73, x74, x75, x76, x77, x78, x79, x80, x81, x82, x83, x84, x85, x86, x87, x88, x89, x90, x91, x92, x93, x94, x95, x96, x97, x98, x99, x100, x101, x102, x103, x104, x105, x106, x107, x108, x109, x110, x111, x112, x113, x114, x115, x116, x117, x118, x119, x120, x121, x122, x123, x124, x125, x126, x127, x128, x129, x130, x131, x132, x133, x134, x135, x136, x137, x138, x139, x140, x141, x142, x143, x144, x145, x146, x147, x148, x149, x150, x151, x152, x153, x154, x155, x156, x157, x158, x159, x160, x161, x162, x163, x164, x165, x166, x167, x168, x169, x170, x171, x172, x173, x174, x175, x176, x177, x178, x179, x180, x181, x182, x183, x184, x185, x186, x187, x188, x189, x190, x191, x192, x193, x194, x195, x196, x197, x198, x199, x200, x201, x202, x203, x204, x205, x206, x207, x208, x209, x210, x211, x212, x213, x214, x215, x216, x217, x218, x219, x220, x221, x222, x223, x224, x225, x226, x227, x228, x229, x230, x231, x232, x233, x234, x235, x236, x237, x238, x239, x240, x241, x242, x243, x244, x245, x246, x247, x248, x249, x250, x251, x252, x253, x254, x255, x256, x257, x258, x259, x260, x261, x262, x263, x264, x265, x266, x267, x268, x269, x270, x271, x272, x273, x274, x275, x276, x277, x278, x279, x280, x281, x282, x283, x284, x285, x286, x287, x288, x289, x290, x291, x292, x293, x294, x295, x296, x297, x298, x299, x300, x301, x302, x303, x304, x305, x306, x307, x308, x309, x310, x311], []⟩ wc) :
    Code.wp Try.prog (reg 9) K ⟨#[x0, .slice (some ⟨b, o, none⟩) L c1, x2, x3, x4, .pointer (some ⟨g, 0, none⟩), x6, x7, x8, .int .i64 i, x10, x11, x12, x13, x14, x15, x16, x17, x18, x19, x20, x21, x22, x23, x24, x25, x26, x27, x28, x29, x30, x31, x32, x33, x34, x35, x36, x37, x38, x39, x40, x41, x42, x43, x44, x45, x46, x47, x48, x49, x50, x51, x52, x53, x54, x55, x56, x57, x58, x59, x60, x61, x62, x63, x64, x65, x66, x67, x68, x69, x70, x71, x72, x73, x74, x75, x76, x77, x78, x79, x80, x81, x82, x83, x84, x85, x86, x87, x88, x89, x90, x91, x92, x93, x94, x95, x96, x97, x98, x99, x100, x101, x102, x103, x104, x105, x106, x107, x108, x109, x110, x111, x112, x113, x114, x115, x116, x117, x118, x119, x120, x121, x122, x123, x124, x125, x126, x127, x128, x129, x130, x131, x132, x133, x134, x135, x136, x137, x138, x139, x140, x141, x142, x143, x144, x145, x146, x147, x148, x149, x150, x151, x152, x153, x154, x155, x156, x157, x158, x159, x160, x161, x162, x163, x164, x165, x166, x167, x168, x169, x170, x171, x172, x173, x174, x175, x176, x177, x178, x179, x180, x181, x182, x183, x184, x185, x186, x187, x188, x189, x190, x191, x192, x193, x194, x195, x196, x197, x198, x199, x200, x201, x202, x203, x204, x205, x206, x207, x208, x209, x210, x211, x212, x213, x214, x215, x216, x217, x218, x219, x220, x221, x222, x223, x224, x225, x226, x227, x228, x229, x230, x231, x232, x233, x234, x235, x236, x237, x238, x239, x240, x241, x242, x243, x244, x245, x246, x247, x248, x249, x250, x251, x252, x253, x254, x255, x256, x257, x258, x259, x260, x261, x262, x263, x264, x265, x266, x267, x268, x269, x270, x271, x272, x273, x274, x275, x276, x277, x278, x279, x280, x281, x282, x283, x284, x285, x286, x287, x288, x289, x290, x291, x292, x293, x294, x295, x296, x297, x298, x299, x300, x301, x302, x303, x304, x305, x306, x307, x308, x309, x310, x311], []⟩ wk := by
  have hst : ∀ (p : Addr) (v : Nat) (W : World), (store p (.float .f64 v)).run Try.prog W = stored Try.prog W p (.float .f64 v) .plain := fun p v W => run_store Try.prog W p _ _ rfl
  have hlt := hC.lt
  have hda : Below (G + 1) wk wk.drew := (Below.refl _ _).drew
  have hdb : Below (G + 1) wk (wk.alloc (.cells z37 37)).drew := (below_al (Below.refl wk.heap.size wk) _).drew.mono hlt.2.2
  have hDa := hC.above hda
  have hDb := hC.above hdb
  have KTa := step_any hDa.a hZ hk fx fy
  have KTb := step_any hDb.a hZ hk fx fy
  obtain ⟨⟨td, tb, tl, ts, te⟩, ht⟩ : ∃ t, told Z s fx fy = t := ⟨_, rfl⟩
  obtain ⟨cd, hcd⟩ : ∃ t, code s fx fy = t := ⟨_, rfl⟩
  obtain ⟨s', hs'⟩ : ∃ t, nxt Z s fx fy = t := ⟨_, rfl⟩
  rw [ht, hcd, hs'] at KTa KTb hK
  simp only [sarr, z37] at KTa KTb hdb hDb
  have hza := hX _ hDa.w
  have hzb := hX _ hDb.w
  have hrow0 : (wk.alloc (.cells #[.float .f64 0, .bool false, .int .i64 0, .bool false, .slice none 0 0] 37)).drew.heap[wk.heap.size]? = some (.cells #[.float .f64 0, .bool false, .int .i64 0, .bool false, .slice none 0 0] 37) := heap_alloc_at _ _
  have hPB : Hid (wk.heap.size < (wk.alloc (.cells #[.float .f64 0, .bool false, .int .i64 0, .bool false, .slice none 0 0] 37)).drew.heap.size) := Lib.hid (heap_lt hrow0)
  have hPA : Hid (G < wk.drew.heap.size) := Lib.hid hlt.2.2
  replace hrow0 := Lib.hid hrow0
  have hnot : Hid (∀ b, wk.heap.size ≤ b → ¬ (b = g ∨ vo.ownBlock = some b)) := Lib.hid fun b hb e => by
    rcases e with e | e
    · have := hlt.2; omega
    · have := (hC.a.og b e).1; have := hlt.2; omega
  replace hlt := Lib.hid hlt
  have hWs : Hid (W.heap.size ≤ wk.heap.size) := Lib.hid hC.w.size
  clear ht hcd hs' hC hk hZ
  replace hK := Lib.hid hK
  conv => arg 2; whnf
  generalize hne : te.length = ne at *
  replace hne := Lib.hid hne
  go_region_held3 (fun X => X.cell? ⟨b, o + i * 2, none⟩ = some (.float .f64 fx) ∧ X.cell? ⟨b, o + i * 2 + 1, none⟩ = some (.float .f64 fy))
    (first | (with_reducible exact hza) | (with_reducible exact hzb) | (refine hX _ ?_; with_reducible exact q1) | (refine hX _ ?_; with_reducible exact below_al q1 _) | (refine hX _ ?_; exact ((((q1.setCell hWs.out _).setCell hWs.out _).setCell hWs.out _).setCell hWs.out _).setCell hWs.out _))
    (first
      | (go_at_call 8; (with_reducible refine (KTa).mono ?_); rintro e w6 ⟨tv, rfl, hO, hW6, hF6⟩; obtain ⟨tA, tc, rfl, -⟩ := hO.sl; rw [List.length_map, hne.out] at hO ⊢; have hD2 := hDa.step hW6 hF6; have q1 : Below W.heap.size W w6 := hD2.w)
      | (go_at_call 8; (with_reducible refine (KTb).mono ?_); rintro e w6 ⟨tv, rfl, hO, hW6, hF6⟩; obtain ⟨tA, tc, rfl, -⟩ := hO.sl; rw [List.length_map, hne.out] at hO ⊢; have hD2 := hDb.step hW6 hF6; have q1 : Below W.heap.size W w6 := hD2.w; have hr6 : w6.heap[wk.heap.size]? = some (.cells #[.float .f64 0, .bool false, .int .i64 0, .bool false, .slice none 0 0] 37) := (hF6.k _ (heap_lt hrow0.out) (fun e => hnot.out _ (Nat.le_refl _) e)).trans hrow0.out; obtain ⟨y0, y1, y2, y3, y4, f0, f1, f2, f3, f4⟩ := rows37 hr6; replace hr6 := Lib.hid hr6))
  all_goals go_wp2
  all_goals first
    | (have h6 := hr6.out
       exact hK.out _ _ (calm_b hD2 hO hlt.out.2.2 hPB.out hne.out h6) _ _ _ _ _ _ _ _ _ _ _ _ _ _ _)
    | exact hK.out _ _ (calm_a hD2 hO hPA.out hne.out) _ _ _ _ _ _ _ _ _ _ _ _ _ _ _
end Go.Proofs.Ytdjdkhbagoideaa
