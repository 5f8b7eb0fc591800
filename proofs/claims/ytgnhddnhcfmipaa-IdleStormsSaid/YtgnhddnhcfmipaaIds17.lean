/- IdleStorms: Get and Put by a worker; its body. Printed by wip/tools/gen_ids17.py. -/
import Derived.Test.YtgnhddnhcfmipaaIds16
namespace Go.Proofs.Ytgnhddnhcfmipaa.Ids
open Go Go.Conc Go.RowKit Go.Proofs.Ytgnhddnhcfmipaa.Eg Go.Proofs.Ytgnhddnhcfmipaa

theorem row1 {w : World} {b : Nat} {v : Value} {t : TypeId} (h : w.heap[b]? = some (.cells #[v] t)) : w.cell? ⟨b, 0, none⟩ = some v := by simp [World.cell?, h]

set_option maxRecDepth 100000 in
theorem get_call : ∃ nf, ∀ {N : Nat} {m : Bool} {y : Gh Role} {K : Nat} {w : World} {l : List Row} (c : Cfg) (d : Bool) (_ : 0 < c.T) (_ : y.role = .work c (.busy false d)) (_ : 0 < y.rem) (_ : Ctx N T0 y K w l),
    CJ (S N) m 14 #[.pointer (some ⟨c.wd, 0, none⟩), .int .i64 0] nf (fun _ K' y' w' => K' < K ∧ Gr ⟨y.own, y.rem - 1, y.deaf, .work c (.busy true true)⟩ y' ∧ Ctx N T0 y' K' w' l) K y w := by
  obtain ⟨nd, hdoes⟩ := does_get
  co_apply Exists.intro
  intro N m y K w l c d hT hr hrem H
  have hg := Gr.refl y
  have hq : y.role.quiet = false := by rw [hr]; rfl
  co_apply CJ.of_WF Try.func14 (by kernel_rfl) (by rfl)
  simp only [show Try.f14.ntmps = 8 from rfl]
  try walk_nrm
  co_apply WF.seqP
  co_apply WF.region
  try simp only [List.size_toArray, List.length_cons, List.length_nil, Nat.zero_add, List.range, List.range.loop]
  co_applyP OF.pu rfl (by rfl) (fun _ => run_eq_of ?run) (fun _ => by simp [go_sem, *])
  case run => intro K hK; go_simp; exact hK
  try walk_nrm
  co_apply OF.nil
  try simp only [thenF]
  co_apply WF.seqP
  co_apply WF.region
  try simp only [List.size_toArray, List.length_cons, List.length_nil, Nat.reduceAdd, Nat.zero_add, List.range, List.range.loop]
  co_applyP OF.pu rfl (by rfl) (fun _ => run_eq_of ?run) (fun _ => by simp [go_sem, *])
  case run => intro K hK; go_simp; exact hK
  try walk_nrm
  co_applyP OF.pu rfl (by rfl) (fun _ => run_eq_of ?run) (fun _ => by simp [go_sem, *])
  case run => intro K hK; go_simp; exact hK
  try walk_nrm
  co_applyP OF.callJ rfl (by rfl) rfl
  · walk_nrm
    exact hdoes c d hT hr hrem H
  rintro v K y' w hK1 ⟨hlt, hg1, H1⟩
  replace H := H1
  replace hr := hg1.role
  clear H1
  try walk_nrm
  co_applyP OF.pu rfl (by rfl) (fun _ => run_eq_of ?run) (fun _ => by simp [go_sem, *])
  case run => intro K hK; go_simp; exact hK
  try walk_nrm
  co_apply OF.nil
  try simp only [thenF]
  co_apply WF.ret
  exact retG_of rfl (resultsC_tmp (by rfl) _) (fun K₂ hK₂ w₂ r₂ => ⟨by omega, hg1, H.rely r₂⟩)

set_option maxRecDepth 100000 in
theorem put_call : ∃ nf, ∀ {N : Nat} {m : Bool} {y : Gh Role} {K : Nat} {w : World} {l : List Row} (c : Cfg) (d : Bool) (_ : 0 < c.T) (_ : y.role = .work c (.busy true d)) (_ : 0 < y.rem) (_ : Ctx N T0 y K w l),
    CJ (S N) m 15 #[.pointer (some ⟨c.wd, 0, none⟩), .int .i64 0] nf (fun _ K' y' w' => K' < K ∧ Gr ⟨y.own, y.rem - 1, y.deaf, .work c (.busy false d)⟩ y' ∧ Ctx N T0 y' K' w' l) K y w := by
  obtain ⟨nd, hdoes⟩ := does_put
  co_apply Exists.intro
  intro N m y K w l c d hT hr hrem H
  have hg := Gr.refl y
  have hq : y.role.quiet = false := by rw [hr]; rfl
  co_apply CJ.of_WF Try.func15 (by kernel_rfl) (by rfl)
  simp only [show Try.f15.ntmps = 8 from rfl]
  try walk_nrm
  co_apply WF.seqP
  co_apply WF.region
  try simp only [List.size_toArray, List.length_cons, List.length_nil, Nat.zero_add, List.range, List.range.loop]
  co_applyP OF.pu rfl (by rfl) (fun _ => run_eq_of ?run) (fun _ => by simp [go_sem, *])
  case run => intro K hK; go_simp; exact hK
  try walk_nrm
  co_apply OF.nil
  try simp only [thenF]
  co_apply WF.seqP
  co_apply WF.region
  try simp only [List.size_toArray, List.length_cons, List.length_nil, Nat.reduceAdd, Nat.zero_add, List.range, List.range.loop]
  co_applyP OF.pu rfl (by rfl) (fun _ => run_eq_of ?run) (fun _ => by simp [go_sem, *])
  case run => intro K hK; go_simp; exact hK
  try walk_nrm
  co_applyP OF.pu rfl (by rfl) (fun _ => run_eq_of ?run) (fun _ => by simp [go_sem, *])
  case run => intro K hK; go_simp; exact hK
  try walk_nrm
  co_applyP OF.callJ rfl (by rfl) rfl
  · walk_nrm
    exact hdoes c d hT hr hrem H
  rintro v K y' w hK1 ⟨hlt, hg1, H1⟩
  replace H := H1
  replace hr := hg1.role
  clear H1
  try walk_nrm
  co_applyP OF.pu rfl (by rfl) (fun _ => run_eq_of ?run) (fun _ => by simp [go_sem, *])
  case run => intro K hK; go_simp; exact hK
  try walk_nrm
  co_apply OF.nil
  try simp only [thenF]
  co_apply WF.ret
  exact retG_of rfl (resultsC_tmp (by rfl) _) (fun K₂ hK₂ w₂ r₂ => ⟨by omega, hg1, H.rely r₂⟩)

set_option maxRecDepth 100000 in
theorem body55 (c : Cfg) : ∃ nf, ∀ {N : Nat} {y : Gh Role} {K : Nat} {w : World} {Q : PostF (S N)} (_ : y.role = .work c (.busy false false)) (_ : y.deaf = 0) (_ : y.rem = 2 * c.T + 1) (_ : Ctx N T0 y K w [])
    (_ : ∀ (K : Nat) (y : Gh Role) (a : Act) (w : World), a.defers = [dcall 56 #[.pointer (some ⟨c.wg, 0, none⟩)]] → y.role = .work c (.busy false (decide (0 < c.T))) → y.deaf = 0 → y.rem = 1 → Ctx N T0 y K w [] → Q .normal K y a w),
    WF (S N) false 55 (Try.f55.body.getD .skip) nf Q K y ⟨#[.pointer (some ⟨c.wg, 0, none⟩), .pointer (some ⟨c.tb, 0, none⟩), .pointer (some ⟨c.wb, 0, none⟩), undef, undef, undef, undef, undef, undef, undef, undef], []⟩ w := by
  obtain ⟨ng, hget⟩ := get_call
  obtain ⟨np, hput⟩ := put_call
  obtain ⟨rr, hrr⟩ : ∃ rr, 60 + ng + np ≤ rr := ⟨_, Nat.le_refl _⟩
  co_apply Exists.intro
  intro N y K w Q hr hdf hrem H hQ
  have hg := Gr.refl y
  have hq : y.role.quiet = false := by rw [hr]; rfl
  simp only [Try.f55, Option.getD_some]
  co_apply WF.seqP
  co_apply WF.region
  try simp only [List.size_toArray, List.length_cons, List.length_nil, Nat.zero_add, List.range, List.range.loop]
  co_applyP OF.defer rfl (by rfl) rfl
  try walk_nrm
  co_apply OF.nil
  try simp only [thenF]
  co_apply WF.seqP
  co_apply WF.region
  try simp only [List.size_toArray, List.length_cons, List.length_nil, Nat.reduceAdd, Nat.zero_add, List.range, List.range.loop]
  co_applyP OF.ldS rfl (by rfl) rfl H hr hq rfl (fun w hw => row1 hw.1.tb) (.inl rfl) Try.underlying3 rfl
  intro K w hK1 hr1 H1
  replace H := H1
  clear hr1 hK1 H1
  try walk_nrm
  co_applyP OF.pu rfl (by rfl) (fun _ => run_eq_of ?run) (fun _ => by simp [go_sem, *])
  case run => intro K hK; go_simp; exact hK
  try walk_nrm
  co_apply OF.nil
  try simp only [thenF]
  co_apply WF.block
  co_apply WF.loopJ (j₀ := c.T) (fun (j K : Nat) (y : Gh Role) (a : Act) (w : World) => ∃ (i : Nat) (t5 t6 t7 t8 t9 t10 : Value), i ≤ c.T ∧ j = c.T - i ∧ a = (⟨#[.pointer (some ⟨c.wg, 0, none⟩), .pointer (some ⟨c.tb, 0, none⟩), .pointer (some ⟨c.wb, 0, none⟩), .int .i64 (c.T : Int), .int .i64 (i : Int), t5, t6, t7, t8, t9, t10], [dcall 56 #[.pointer (some ⟨c.wg, 0, none⟩)]]⟩ : Act) ∧ y.role = .work c (.busy false (decide (0 < i))) ∧ y.deaf = 0 ∧ y.rem = 2 * (c.T - i) + 1 ∧ Ctx N T0 y K w []) rr c.T
  · exact ⟨0, _, _, _, _, _, _, Nat.zero_le _, rfl, rfl, hr, hdf, hrem, H⟩
  · rintro j K y a w ⟨i, _, _, _, _, _, _, h, rfl, _⟩
    omega
  intro j K y a w hKl hI
  obtain ⟨i, t5, t6, t7, t8, t9, t10, hi, rfl, rfl, hr, hdf, hrem, H⟩ := hI
  have hq : y.role.quiet = false := by rw [hr]; rfl
  have hg := Gr.refl y
  have hKs : K ≤ K := Nat.le_refl _
  by_cases hlt : i < c.T
  · skip
    co_apply WF.more
    · skip
      have hb : decide ((i : Int) < (c.T : Int)) = true := by simp; omega
      try simp only [thenF, blockF, if_true, if_false, reduceIte, Nat.reduceEqDiff]
      have hTT : 0 < c.T := by omega
      have hTs : c.T < 2147483648 := (H.st.work hr).1.1.T
      have hw1 : IntKind.i64.wrap ((i : Int) + 1) = ((i + 1 : Nat) : Int) := by rw [IntKind.wrap_i64]; omega
      co_apply WF.seqP
      co_apply WF.region
      try simp only [List.size_toArray, List.length_cons, List.length_nil, Nat.zero_add, List.range, List.range.loop]
      co_applyP OF.pu rfl (by rfl) (fun _ => run_eq_of ?run) (fun _ => by simp [go_sem, *])
      case run => intro K hK; go_simp; exact hK
      try walk_nrm
      co_apply OF.nil
      try simp only [thenF]
      co_apply WF.seqP
      co_apply WF.cond (t := true) rfl
      simp only [↓reduceIte]
      co_apply WF.skip
      try simp only [thenF]
      co_apply WF.seqP
      co_apply WF.block
      co_apply WF.seqP
      co_apply WF.region
      try simp only [List.size_toArray, List.length_cons, List.length_nil, Nat.reduceAdd, Nat.zero_add, List.range, List.range.loop]
      co_applyP OF.ldS rfl (by rfl) rfl H hr hq rfl (fun w hw => row1 hw.1.wb) (.inr (.inl rfl)) Try.underlying23 rfl
      intro K w hK1 hr1 H1
      replace H := H1
      clear hr1 hK1 H1
      try walk_nrm
      co_applyP OF.callJ rfl (by rfl) rfl
      · walk_nrm
        exact hget c _ hTT hr (by omega) H
      rintro _ K y' w hK1 ⟨hlt1, hg1, H1⟩
      have hdf1 : y'.deaf = 0 := hg1.deaf.trans (hg.deaf.trans hdf)
      have hrem1 : y'.rem = 2 * (c.T - i) := by have h1 := hg1.rem; have h2 := hg.rem; simp only at h1; omega
      replace hr := hg1.role
      have hg := Gr.refl y'
      have hq1 : y'.role.quiet = false := by rw [hr]; rfl
      replace hq := hq1
      replace H := H1
      try walk_nrm
      co_apply OF.nil
      try simp only [thenF]
      co_apply WF.region
      try simp only [List.size_toArray, List.length_cons, List.length_nil, Nat.reduceAdd, Nat.zero_add, List.range, List.range.loop]
      co_applyP OF.ldS rfl (by rfl) rfl H hr hq rfl (fun w hw => row1 hw.1.wb) (.inr (.inl rfl)) Try.underlying23 rfl
      intro K w hK1 hr1 H1
      replace H := H1
      clear hr1 hK1 H1
      try walk_nrm
      co_applyP OF.callJ rfl (by rfl) rfl
      · walk_nrm
        exact hput c _ hTT hr (by have h2 := hg.rem; omega) H
      rintro _ K y2 w hK1 ⟨hlt1, hg1, H1⟩
      have hdf2 : y2.deaf = 0 := hg1.deaf.trans (hg.deaf.trans hdf1)
      have hrem2 : y2.rem = 2 * (c.T - i) - 1 := by have h1 := hg1.rem; have h2 := hg.rem; simp only at h1; omega
      replace hr := hg1.role
      have hg := Gr.refl y2
      have hq1 : y2.role.quiet = false := by rw [hr]; rfl
      replace hq := hq1
      replace H := H1
      try walk_nrm
      co_apply OF.nil
      simp only [blockF, thenF]
      try simp only [thenF]
      co_apply WF.region
      try simp only [List.size_toArray, List.length_cons, List.length_nil, Nat.reduceAdd, Nat.zero_add, List.range, List.range.loop]
      co_applyP OF.pu rfl (by rfl) (fun _ => run_eq_of ?run) (fun _ => by simp [go_sem, *])
      case run => intro K hK; go_simp; exact hK
      try walk_nrm
      co_applyP OF.pu rfl (by rfl) (fun _ => run_eq_of ?run) (fun _ => by simp [go_sem, *])
      case run => intro K hK; go_simp; exact hK
      try walk_nrm
      co_apply OF.nil
      exact ⟨c.T - (i + 1), ⟨i + 1, _, _, _, _, _, _, by omega, rfl, rfl, by simpa using hr, hdf2, by omega, H⟩, .inr (by omega)⟩
    · first | omega | (simp only [pl_eq]; omega)
  · skip
    co_apply WF.more
    · skip
      have hb : decide ((i : Int) < (c.T : Int)) = false := by simp; omega
      try simp only [thenF, blockF, if_true, if_false, reduceIte, Nat.reduceEqDiff]
      co_apply WF.seqP
      co_apply WF.region
      try simp only [List.size_toArray, List.length_cons, List.length_nil, Nat.zero_add, List.range, List.range.loop]
      co_applyP OF.pu rfl (by rfl) (fun _ => run_eq_of ?run) (fun _ => by simp [go_sem, *])
      case run => intro K hK; go_simp; exact hK
      try walk_nrm
      co_apply OF.nil
      try simp only [thenF]
      co_apply WF.seqP (n₂ := 0)
      co_apply WF.cond (t := false) rfl
      simp only [Bool.false_eq_true, ↓reduceIte]
      co_apply WF.exit
      try simp only [thenF]
      simp only [blockF, if_true]
      have hii : i = c.T := by omega
      subst hii
      exact hQ _ _ _ _ rfl hr hdf (by omega) H
    · first | omega | (simp only [pl_eq]; omega)

end Go.Proofs.Ytgnhddnhcfmipaa.Ids
