/- IdleStorms: Wait in a storm, whole. Printed by wip/tools/gen_ids28.py. -/
import Derived.Test.YtgnhddnhcfmipaaIds27
namespace Go.Proofs.Ytgnhddnhcfmipaa.Ids
open Go Go.Conc Go.RowKit Go.Proofs.Ytgnhddnhcfmipaa.Eg Go.Proofs.Ytgnhddnhcfmipaa Go.ConcR.Gen

set_option maxHeartbeats 16000000 in
set_option maxRecDepth 100000 in
theorem wait_b : ∃ nf, ∀ {N : Nat} {m : Bool} {y : Gh Role} {K : Nat} {w : World} {l : List Row} (c : Cfg) (k : Nat) (_ : 0 < k) (_ : N ≤ c.wd ∧ N ≤ c.tb ∧ N ≤ c.wb) (_ : y.role = .boss c (.op k false)) (_ : y.deaf = 0) (_ : 0 < y.rem) (_ : Ctx N T0 y K w l), CJ (S N) m 57 #[.pointer (some ⟨c.wg, 0, none⟩)] nf
    (fun _ K' y' w' => y'.role = .alone (fun b => c.shun b ∨ b = c.wg) ∧ y'.deaf = 0 ∧ y.rem - 1 ≤ y'.rem ∧ (∀ b, y.own b → y'.own b) ∧ Ctx N T0 y' K' w' (back c l)) K y w := by
  obtain ⟨nl, hload⟩ := load_b
  obtain ⟨nf, hloadf⟩ := load_f
  obtain ⟨nc, hcas⟩ := cas_b
  obtain ⟨rr, hrr⟩ : ∃ rr, 300 + nl + nf + nc ≤ rr := ⟨_, Nat.le_refl _⟩
  co_apply Exists.intro
  intro N m y K w l c k hk0 hN hr hdf hrem H
  obtain ⟨ys, hys⟩ : ∃ ys, ys = y := ⟨y, rfl⟩
  have ho : y.own = ys.own := by rw [hys]
  have hm : y.rem = ys.rem := by rw [hys]
  replace hrem : 0 < ys.rem := by rw [hys]; exact hrem
  have hq : y.role.quiet = false := by rw [hr]; rfl
  have hg := Gr.refl y
  co_apply CJ.of_WF Try.func57 (by kernel_rfl) (by rfl)
  simp only [show Try.f57.ntmps = 84 from rfl]
  try walk_nrm
  co_apply WF.seqP
  co_apply WF.cond (t := true) rfl
  simp only [↓reduceIte]
  co_apply WF.region
  try simp only [List.size_toArray, List.length_cons, List.length_nil, Nat.zero_add, List.range, List.range.loop]
  co_applyP OF.mk (d' := 1) (es := #[⟨.mark .disable, false, true⟩]) H hq (by rw [hdf]; rfl) (fun e he => ?eok) (fun K w H b kk cs hb hk => stepG_mark0 .disable (by simp) rfl (by rfl) hk rfl Try.func63 (by kernel_rfl) (by kernel_rfl) (by kernel_rfl) (by kernel_rfl))
  case eok => simp at he; subst he; exact mark_ok rfl (by simp)
  intro K w hK1 H1
  have hr1 : (⟨y.own, y.rem, 1, y.role⟩ : Gh Role).role = .boss c (.op k false) := hr
  have ho1 : (⟨y.own, y.rem, 1, y.role⟩ : Gh Role).own = ys.own := ho
  have hm1 : (⟨y.own, y.rem, 1, y.role⟩ : Gh Role).rem = ys.rem := hm
  have hdf1 : (⟨y.own, y.rem, 1, y.role⟩ : Gh Role).deaf = 1 := rfl
  generalize (⟨y.own, y.rem, 1, y.role⟩ : Gh Role) = y at H1 hr1 ho1 hm1 hdf1 ⊢
  replace H := H1
  replace hr := hr1
  replace ho := ho1
  replace hm := hm1
  replace hdf := hdf1
  have hq : y.role.quiet = false := by rw [hr]; rfl
  clear H1 hr1 ho1 hm1 hdf1 hK1
  try walk_nrm
  co_apply OF.nil
  try simp only [thenF]
  co_apply WF.block
  co_apply WF.loopJ (j₀ := 0) (fun (j K : Nat) (y : Gh Role) (a : Act) (w : World) => j = 0 ∧ ∃ (t2 t3 t4 t8 t9 t10 t11 t12 t13 t14 t15 t16 t17 t18 t19 t42 t43 t44 t45 t46 t47 t48 : Value), a = (⟨#[.pointer (some ⟨c.wg, 0, none⟩), undef, t2, t3, t4, undef, undef, .tuple #[], t8, t9, t10, t11, t12, t13, t14, t15, t16, t17, t18, t19, undef, undef, undef, undef, undef, undef, undef, undef, undef, undef, undef, undef, undef, undef, undef, undef, undef, undef, undef, undef, undef, undef, t42, t43, t44, t45, t46, t47, t48, undef, undef, undef, undef, undef, undef, undef, undef, undef, undef, undef, undef, undef, undef, undef, undef, undef, undef, undef, undef, undef, undef, undef, undef, undef, undef, undef, undef, undef, undef, undef, undef, undef, undef, undef], []⟩ : Act) ∧ y.role = .boss c (.op k false) ∧ y.deaf = 1 ∧ y.own = ys.own ∧ y.rem = ys.rem ∧ Ctx N T0 y K w l) rr 0
  · exact ⟨rfl, _, _, _, _, _, _, _, _, _, _, _, _, _, _, _, _, _, _, _, _, _, _, rfl, hr, hdf, ho, hm, H⟩
  · intro j K y a w hI; omega
  intro j K y a w hKl hI
  obtain ⟨rfl, t2, t3, t4, t8, t9, t10, t11, t12, t13, t14, t15, t16, t17, t18, t19, t42, t43, t44, t45, t46, t47, t48, rfl, hr, hdf, ho, hm, H⟩ := hI
  have hq : y.role.quiet = false := by rw [hr]; rfl
  co_apply WF.more
  · skip
    try simp only []
    co_apply WF.block
    co_apply WF.seqP
    co_apply WF.region
    try simp only [List.size_toArray, List.length_cons, List.length_nil, Nat.reduceAdd, Nat.zero_add, List.range, List.range.loop]
    co_applyP OF.pu rfl (by rfl) (fun _ => run_eq_of ?run) (fun _ => by simp [go_sem, *])
    case run => intro K hK; go_simp; exact hK
    try walk_nrm
    co_applyP OF.pu rfl (by rfl) (fun _ => run_eq_of ?run) (fun _ => by simp [go_sem, *])
    case run => intro K hK; go_simp; exact hK
    try walk_nrm
    co_applyP OF.pu rfl (by rfl) (fun _ => run_eq_of ?run) (fun _ => by simp [go_sem, *])
    case run => intro K hK; go_simp; exact hK
    try walk_nrm
    co_applyP OF.callJ rfl (by rfl) rfl
    · try walk_nrm
      exact hload c k hk0 hr H
    rintro _ K y w hKl1 (⟨rfl, hy, H1⟩ | ⟨K₁, n, hKa, hKb, hn, hn16, rfl, hy, H1⟩)
    rotate_left
    · skip
      have hr1 : y.role = .boss c (.op k false) := by first | (rw [hy]; done) | (rw [hy]; exact hr)
      have ho1 : y.own = ys.own := by rw [hy]; exact ho
      have hdf1 : y.deaf = 1 := by rw [hy]; exact hdf
      have hq1 : y.role.quiet = false := by rw [hr1]; rfl
      have hm1 : y.rem = ys.rem := by rw [hy]; exact hm
      clear hy
      replace hr := hr1
      replace ho := ho1
      replace hm := hm1
      replace hdf := hdf1
      replace hq := hq1
      replace H := H1
      clear hr1 ho1 hm1 hdf1 hq1 H1
      try walk_nrm
      have p1 := flag0 n (by omega)
      have p2 : ((n : Nat) : Int) * 4294967296 / 4294967296 = ((n : Nat) : Int) := by omega
      have p3 := low0 n (by omega)
      have p4 : IntKind.i32.wrap ((n : Nat) : Int) = ((n : Nat) : Int) := by rw [IntKind.wrap_i32]; omega
      have p5 : IntKind.u64.wrap ((n : Nat) : Int) = ((n : Nat) : Int) := by rw [IntKind.wrap_u64]; omega
      have p6 : (((n : Nat) : Int) == 0) = false := by simp; omega
      have p7 : IntKind.u64.wrap (((n : Nat) : Int) * 4294967296 + 1) = ((n : Nat) : Int) * 4294967296 + 1 := by rw [IntKind.wrap_u64]; omega
      have p8 : IntKind.u32.wrap 0 = 0 := by decide
      co_applyP OF.pu rfl (by rfl) (fun _ => run_eq_of ?run) (fun _ => by simp [go_sem, *])
      case run => intro K hK; go_simp; exact hK
      try walk_nrm
      co_apply OF.nil
      try simp only [thenF]
      co_apply WF.seqP
      co_apply WF.region
      try simp only [List.size_toArray, List.length_cons, List.length_nil, Nat.reduceAdd, Nat.zero_add, List.range, List.range.loop]
      co_applyP OF.pu rfl (by rfl) (fun _ => run_eq_of ?run) (fun _ => by simp [go_sem, *])
      case run => intro K hK; go_simp; exact hK
      try walk_nrm
      co_applyP OF.pu rfl (by rfl) (fun _ => run_eq_of ?run) (fun _ => by simp [go_sem, *])
      case run => intro K hK; go_simp; exact hK
      try walk_nrm
      co_applyP OF.pu rfl (by rfl) (fun _ => run_eq_of ?run) (fun _ => by simp [go_sem, *])
      case run => intro K hK; go_simp; exact hK
      try walk_nrm
      co_applyP OF.pu rfl (by rfl) (fun _ => run_eq_of ?run) (fun _ => by simp [go_sem, *])
      case run => intro K hK; go_simp; exact hK
      try walk_nrm
      co_apply OF.nil
      try simp only [thenF]
      co_apply WF.seqP
      co_apply WF.region
      try simp only [List.size_toArray, List.length_cons, List.length_nil, Nat.reduceAdd, Nat.zero_add, List.range, List.range.loop]
      co_applyP OF.pu rfl (by rfl) (fun _ => run_eq_of ?run) (fun _ => by simp [go_sem, *])
      case run => intro K hK; go_simp; exact hK
      try walk_nrm
      co_applyP OF.pu rfl (by rfl) (fun _ => run_eq_of ?run) (fun _ => by simp [go_sem, *])
      case run => intro K hK; go_simp; exact hK
      try walk_nrm
      co_applyP OF.pu rfl (by rfl) (fun _ => run_eq_of ?run) (fun _ => by simp [go_sem, *])
      case run => intro K hK; go_simp; exact hK
      try walk_nrm
      co_applyP OF.pu rfl (by rfl) (fun _ => run_eq_of ?run) (fun _ => by simp [go_sem, *])
      case run => intro K hK; go_simp; exact hK
      try walk_nrm
      co_apply OF.nil
      try simp only [thenF]
      co_apply WF.seqP
      co_apply WF.seqP
      co_apply WF.region
      try simp only [List.size_toArray, List.length_cons, List.length_nil, Nat.reduceAdd, Nat.zero_add, List.range, List.range.loop]
      co_applyP OF.pu rfl (by rfl) (fun _ => run_eq_of ?run) (fun _ => by simp [go_sem, *])
      case run => intro K hK; go_simp; exact hK
      try walk_nrm
      co_applyP OF.pu rfl (by rfl) (fun _ => run_eq_of ?run) (fun _ => by simp [go_sem, *])
      case run => intro K hK; go_simp; exact hK
      try walk_nrm
      co_apply OF.nil
      try simp only [thenF]
      co_apply WF.cond (t := false) rfl
      simp only [Bool.false_eq_true, ↓reduceIte]
      co_apply WF.skip
      try simp only [thenF]
      co_apply WF.seqP
      co_apply WF.region
      try simp only [List.size_toArray, List.length_cons, List.length_nil, Nat.reduceAdd, Nat.zero_add, List.range, List.range.loop]
      co_applyP OF.pu rfl (by rfl) (fun _ => run_eq_of ?run) (fun _ => by simp [go_sem, *])
      case run => intro K hK; go_simp; exact hK
      try walk_nrm
      co_applyP OF.pu rfl (by rfl) (fun _ => run_eq_of ?run) (fun _ => by simp [go_sem, *])
      case run => intro K hK; go_simp; exact hK
      try walk_nrm
      co_applyP OF.pu rfl (by rfl) (fun _ => run_eq_of ?run) (fun _ => by simp [go_sem, *])
      case run => intro K hK; go_simp; exact hK
      try walk_nrm
      co_applyP OF.pu rfl (by rfl) (fun _ => run_eq_of ?run) (fun _ => by simp [go_sem, *])
      case run => intro K hK; go_simp; exact hK
      try walk_nrm
      co_applyP OF.pu rfl (by rfl) (fun _ => run_eq_of ?run) (fun _ => by simp [go_sem, *])
      case run => intro K hK; go_simp; exact hK
      try walk_nrm
      co_applyP OF.pu rfl (by rfl) (fun _ => run_eq_of ?run) (fun _ => by simp [go_sem, *])
      case run => intro K hK; go_simp; exact hK
      try walk_nrm
      co_applyP OF.callJ rfl (by rfl) rfl
      · try walk_nrm
        exact hcas c k K₁ n hk0 hn hn16 hr (by rw [hm]; exact hrem) H
      rintro _ K y w hKl2 (⟨rfl, hlt, hy, H1⟩ | ⟨rfl, hlt, hy, H1⟩)
      · skip
        have hr1 : y.role = .boss c .reg := by first | (rw [hy]; done) | (rw [hy]; exact hr)
        have ho1 : y.own = ys.own := by rw [hy]; exact ho
        have hdf1 : y.deaf = 1 := by rw [hy]; exact hdf
        have hq1 : y.role.quiet = false := by rw [hr1]; rfl
        have hm1 : ys.rem - 1 ≤ y.rem ∧ y.rem ≤ ys.rem := by rw [hy]; simp only; omega
        clear hy
        replace hr := hr1
        replace ho := ho1
        replace hm := hm1
        replace hdf := hdf1
        replace hq := hq1
        replace H := H1
        clear hr1 ho1 hm1 hdf1 hq1 H1
        try walk_nrm
        co_apply OF.nil
        try simp only [thenF]
        co_apply WF.cond (t := true) rfl
        simp only [↓reduceIte]
        co_apply WF.seqP
        co_apply WF.seqP
        co_apply WF.region
        try simp only [List.size_toArray, List.length_cons, List.length_nil, Nat.reduceAdd, Nat.zero_add, List.range, List.range.loop]
        co_applyP OF.pu rfl (by rfl) (fun _ => run_eq_of ?run) (fun _ => by simp [go_sem, *])
        case run => intro K hK; go_simp; exact hK
        try walk_nrm
        first
        | (co_applyP OF.pu rfl (by rfl) (fun _ => run_eq_of ?run) (fun _ => by simp [go_sem, *]); case run => intro K hK; go_simp; exact hK)
        | co_apply OF.unwanted rfl (by rfl)
        try walk_nrm
        first
        | (co_applyP OF.pu rfl (by rfl) (fun _ => run_eq_of ?run) (fun _ => by simp [go_sem, *]); case run => intro K hK; go_simp; exact hK)
        | co_apply OF.unwanted rfl (by rfl)
        try walk_nrm
        co_applyP OF.pu rfl (by rfl) (fun _ => run_eq_of ?run) (fun _ => by simp [go_sem, *])
        case run => intro K hK; go_simp; exact hK
        try walk_nrm
        co_apply OF.nil
        try simp only [thenF]
        co_apply WF.cond (t := true) rfl
        simp only [↓reduceIte]
        co_apply WF.region
        try simp only [List.size_toArray, List.length_cons, List.length_nil, Nat.reduceAdd, Nat.zero_add, List.range, List.range.loop]
        co_applyP OF.pu rfl (by rfl) (fun _ => run_eq_of ?run) (fun _ => by simp [go_sem, *])
        case run => intro K hK; go_simp; exact hK
        try walk_nrm
        co_applyP OF.pu rfl (by rfl) (fun _ => run_eq_of ?run) (fun _ => by simp [go_sem, *])
        case run => intro K hK; go_simp; exact hK
        try walk_nrm
        co_applyP OF.pu rfl (by rfl) (fun _ => run_eq_of ?run) (fun _ => by simp [go_sem, *])
        case run => intro K hK; go_simp; exact hK
        try walk_nrm
        co_applyP OF.see (v := .pointer (some ⟨c.wg, 1, none⟩)) rfl (by rfl) H (fun K w H => by
            obtain ⟨s, mm, hgs⟩ := (H.st.boss hr).1.grp
            have hc := gr_cell hgs
            have hcv := run_convert_to_unsafe (P := Try.prog) Try.underlying144 Try.underlying139 (by kernel_rfl) hc.2.1
            have hce := fun es => events_convert_to_unsafe (P := Try.prog) Try.underlying144 Try.underlying139 (by kernel_rfl) hc.2.1 es
            refine ⟨run_eq_of ?_, ?_⟩
            · intro K hK; go_simp; exact hK
            · simp [go_sem, hce])
        intro K w hK1 hr1 H1
        replace H := H1
        clear hK1 hr1 H1
        try walk_nrm
        co_applyP OF.mk (d' := 1) (es := #[⟨.mark (.write ⟨c.wg, 1, none⟩), false, true⟩]) H hq (by rw [hdf]; rfl) (fun e he => ?eok) (fun K w H b kk cs hb hk => stepG_markAt .write (by simp) rfl (by rfl) hk rfl Try.func76 (by kernel_rfl) (by kernel_rfl) (by kernel_rfl) (by kernel_rfl) (by simp [Act.eval]))
        case eok => simp at he; subst he; rw [hr]; exact ⟨fun x hx => by cases hx; exact ⟨fun _ => trivial, .inr (.inr ⟨⟨_, rfl, .inl rfl⟩, by simp⟩)⟩, by simp⟩
        intro K w hK1 H1
        have hr1 : (⟨y.own, y.rem, 1, y.role⟩ : Gh Role).role = .boss c .reg := hr
        have ho1 : (⟨y.own, y.rem, 1, y.role⟩ : Gh Role).own = ys.own := ho
        have hm1 : ys.rem - 1 ≤ (⟨y.own, y.rem, 1, y.role⟩ : Gh Role).rem ∧ (⟨y.own, y.rem, 1, y.role⟩ : Gh Role).rem ≤ ys.rem := hm
        have hdf1 : (⟨y.own, y.rem, 1, y.role⟩ : Gh Role).deaf = 1 := rfl
        generalize (⟨y.own, y.rem, 1, y.role⟩ : Gh Role) = y at H1 hr1 ho1 hm1 hdf1 ⊢
        replace H := H1
        replace hr := hr1
        replace ho := ho1
        replace hm := hm1
        replace hdf := hdf1
        have hq : y.role.quiet = false := by rw [hr]; rfl
        clear H1 hr1 ho1 hm1 hdf1 hK1
        try walk_nrm
        co_apply OF.nil
        try simp only [thenF]
        co_apply WF.seqP
        co_apply WF.region
        try simp only [List.size_toArray, List.length_cons, List.length_nil, Nat.zero_add, List.range, List.range.loop]
        co_applyP OF.pu rfl (by rfl) (fun _ => run_eq_of ?run) (fun _ => by simp [go_sem, *])
        case run => intro K hK; go_simp; exact hK
        try walk_nrm
        co_apply OF.nil
        try simp only [thenF]
        co_apply WF.seqP
        co_apply WF.seqP
        co_apply WF.region
        try simp only [List.size_toArray, List.length_cons, List.length_nil, Nat.reduceAdd, Nat.zero_add, List.range, List.range.loop]
        co_applyP OF.pu rfl (by rfl) (fun _ => run_eq_of ?run) (fun _ => by simp [go_sem, *])
        case run => intro K hK; go_simp; exact hK
        try walk_nrm
        co_applyP OF.pu rfl (by rfl) (fun _ => run_eq_of ?run) (fun _ => by simp [go_sem, *])
        case run => intro K hK; go_simp; exact hK
        try walk_nrm
        co_applyP OF.pu rfl (by rfl) (fun _ => run_eq_of ?run) (fun _ => by simp [go_sem, *])
        case run => intro K hK; go_simp; exact hK
        try walk_nrm
        co_applyP OF.pu rfl (by rfl) (fun _ => run_eq_of ?run) (fun _ => by simp [go_sem, *])
        case run => intro K hK; go_simp; exact hK
        try walk_nrm
        co_apply OF.unwanted rfl (by rfl)
        try walk_nrm
        co_applyP OF.pu rfl (by rfl) (fun _ => run_eq_of ?run) (fun _ => by simp [go_sem, *])
        case run => intro K hK; go_simp; exact hK
        try walk_nrm
        co_apply OF.nil
        try simp only [thenF]
        co_apply WF.cond (t := false) rfl
        simp only [Bool.false_eq_true, ↓reduceIte]
        co_apply WF.skip
        try simp only [thenF]
        co_apply WF.seqP
        co_apply WF.region
        try simp only [List.size_toArray, List.length_cons, List.length_nil, Nat.reduceAdd, Nat.zero_add, List.range, List.range.loop]
        co_applyP OF.pu rfl (by rfl) (fun _ => run_eq_of ?run) (fun _ => by simp [go_sem, *])
        case run => intro K hK; go_simp; exact hK
        try walk_nrm
        co_applyP OF.pu rfl (by rfl) (fun _ => run_eq_of ?run) (fun _ => by simp [go_sem, *])
        case run => intro K hK; go_simp; exact hK
        try walk_nrm
        co_applyP OF.pu rfl (by rfl) (fun _ => run_eq_of ?run) (fun _ => by simp [go_sem, *])
        case run => intro K hK; go_simp; exact hK
        try walk_nrm
        co_applyP OF.pu rfl (by rfl) (fun _ => run_eq_of ?run) (fun _ => by simp [go_sem, *])
        case run => intro K hK; go_simp; exact hK
        try walk_nrm
        co_applyP OF.sem rfl (by rfl) rfl Try.func77 (by kernel_rfl) (by kernel_rfl) (by kernel_rfl) (by kernel_rfl) H hr (by simp [Act.eval])
        intro K w hK1 H1
        have hr1 : (⟨y.own, y.rem, y.deaf, .boss c .free⟩ : Gh Role).role = .boss c .free := rfl
        have ho1 : (⟨y.own, y.rem, y.deaf, .boss c .free⟩ : Gh Role).own = ys.own := ho
        have hm1 : ys.rem - 1 ≤ (⟨y.own, y.rem, y.deaf, .boss c .free⟩ : Gh Role).rem ∧ (⟨y.own, y.rem, y.deaf, .boss c .free⟩ : Gh Role).rem ≤ ys.rem := hm
        have hdf1 : (⟨y.own, y.rem, y.deaf, .boss c .free⟩ : Gh Role).deaf = 1 := hdf
        generalize (⟨y.own, y.rem, y.deaf, .boss c .free⟩ : Gh Role) = y at H1 hr1 ho1 hm1 hdf1 ⊢
        replace H := H1
        replace hr := hr1
        replace ho := ho1
        replace hm := hm1
        replace hdf := hdf1
        have hq : y.role.quiet = false := by rw [hr]; rfl
        clear H1 hr1 ho1 hm1 hdf1 hK1
        try walk_nrm
        co_apply OF.nil
        try simp only [thenF]
        co_apply WF.seqP
        co_apply WF.region
        try simp only [List.size_toArray, List.length_cons, List.length_nil, Nat.reduceAdd, Nat.zero_add, List.range, List.range.loop]
        co_applyP OF.pu rfl (by rfl) (fun _ => run_eq_of ?run) (fun _ => by simp [go_sem, *])
        case run => intro K hK; go_simp; exact hK
        try walk_nrm
        co_applyP OF.pu rfl (by rfl) (fun _ => run_eq_of ?run) (fun _ => by simp [go_sem, *])
        case run => intro K hK; go_simp; exact hK
        try walk_nrm
        co_applyP OF.pu rfl (by rfl) (fun _ => run_eq_of ?run) (fun _ => by simp [go_sem, *])
        case run => intro K hK; go_simp; exact hK
        try walk_nrm
        co_applyP OF.callJ rfl (by rfl) rfl
        · walk_nrm
          exact hloadf c hr H
        rintro _ K y w hK1 ⟨rfl, hy, H1⟩
        have hr1 : y.role = .boss c .free := by rw [hy]; exact hr
        have ho1 : y.own = ys.own := by rw [hy]; exact ho
        have hdf1 : y.deaf = 1 := by rw [hy]; exact hdf
        have hq1 : y.role.quiet = false := by rw [hr1]; rfl
        have hm1 : ys.rem - 1 ≤ y.rem ∧ y.rem ≤ ys.rem := by rw [hy]; exact hm
        clear hK1
        clear hy
        replace hr := hr1
        replace ho := ho1
        replace hm := hm1
        replace hdf := hdf1
        replace hq := hq1
        replace H := H1
        clear hr1 ho1 hm1 hdf1 hq1 H1
        try walk_nrm
        co_applyP OF.pu rfl (by rfl) (fun _ => run_eq_of ?run) (fun _ => by simp [go_sem, *])
        case run => intro K hK; go_simp; exact hK
        try walk_nrm
        co_applyP OF.pu rfl (by rfl) (fun _ => run_eq_of ?run) (fun _ => by simp [go_sem, *])
        case run => intro K hK; go_simp; exact hK
        try walk_nrm
        co_apply OF.nil
        try simp only [thenF]
        co_apply WF.seqP
        co_apply WF.cond (t := true) rfl
        simp only [↓reduceIte]
        co_apply WF.seqP
        co_apply WF.region
        try simp only [List.size_toArray, List.length_cons, List.length_nil, Nat.zero_add, List.range, List.range.loop]
        co_applyP OF.mk (d' := 0) (es := #[⟨.mark .enable, false, true⟩]) H hq (by rw [hdf]; rfl) (fun e he => ?eok) (fun K w H b kk cs hb hk => stepG_mark0 .enable (by simp) rfl (by rfl) hk rfl Try.func64 (by kernel_rfl) (by kernel_rfl) (by kernel_rfl) (by kernel_rfl))
        case eok => simp at he; subst he; exact mark_ok rfl (by simp)
        intro K w hK1 H1
        have hr1 : (⟨y.own, y.rem, 0, y.role⟩ : Gh Role).role = .boss c .free := hr
        have ho1 : (⟨y.own, y.rem, 0, y.role⟩ : Gh Role).own = ys.own := ho
        have hm1 : ys.rem - 1 ≤ (⟨y.own, y.rem, 0, y.role⟩ : Gh Role).rem ∧ (⟨y.own, y.rem, 0, y.role⟩ : Gh Role).rem ≤ ys.rem := hm
        have hdf1 : (⟨y.own, y.rem, 0, y.role⟩ : Gh Role).deaf = 0 := rfl
        generalize (⟨y.own, y.rem, 0, y.role⟩ : Gh Role) = y at H1 hr1 ho1 hm1 hdf1 ⊢
        replace H := H1
        replace hr := hr1
        replace ho := ho1
        replace hm := hm1
        replace hdf := hdf1
        have hq : y.role.quiet = false := by rw [hr]; rfl
        clear H1 hr1 ho1 hm1 hdf1 hK1
        try walk_nrm
        co_apply OF.nil
        try simp only [thenF]
        co_apply WF.region
        try simp only [List.size_toArray, List.length_cons, List.length_nil, Nat.reduceAdd, Nat.zero_add, List.range, List.range.loop]
        co_applyP OF.pu rfl (by rfl) (fun _ => run_eq_of ?run) (fun _ => by simp [go_sem, *])
        case run => intro K hK; go_simp; exact hK
        try walk_nrm
        co_applyP OF.see (v := .pointer (some ⟨c.wg, 0, none⟩)) rfl (by rfl) H (fun K w H => by
            obtain ⟨s, mm, hgs⟩ := (H.st.boss hr).1.grp
            have hc := gr_cell hgs
            have hcv := run_convert_to_unsafe (P := Try.prog) Try.underlying137 Try.underlying139 (by kernel_rfl) hc.1
            have hce := fun es => events_convert_to_unsafe (P := Try.prog) Try.underlying137 Try.underlying139 (by kernel_rfl) hc.1 es
            refine ⟨run_eq_of ?_, ?_⟩
            · intro K hK; go_simp; exact hK
            · simp [go_sem, hce])
        intro K w hK1 hr1 H1
        replace H := H1
        clear hK1 hr1 H1
        try walk_nrm
        co_applyP OF.acq rfl (by rfl) rfl Try.func74 (by kernel_rfl) (by kernel_rfl) (by kernel_rfl) (by kernel_rfl) H hr hdf hN (by simp [Act.eval])
        intro K y1 w hK1 hra hdf1 hm1 ho1 H1
        have hq1 : y1.role.quiet = false := by rw [hra]; rfl
        try walk_nrm
        co_apply OF.nil
        try simp only [thenF]
        co_apply WF.seqP
        co_apply WF.seqP
        co_apply WF.region
        try simp only [List.size_toArray, List.length_cons, List.length_nil, Nat.zero_add, List.range, List.range.loop]
        co_applyP OF.pu rfl (by rfl) (fun _ => run_eq_of ?run) (fun _ => by simp [go_sem, *])
        case run => intro K hK; go_simp; exact hK
        try walk_nrm
        co_apply OF.nil
        try simp only [thenF]
        co_apply WF.cond (t := false) rfl
        simp only [Bool.false_eq_true, ↓reduceIte]
        co_apply WF.skip
        try simp only [thenF]
        co_apply WF.ret
        try simp only [blockF, thenF]
        try simp only [blockF, thenF, if_true, if_false, reduceIte, Nat.reduceEqDiff]
        exact retG_of rfl (resultsC_none (by rfl) _) (fun K₂ hK₂ w₂ r₂ => ⟨hra, hdf1, by rw [hm1]; subst hys; exact hm.1, fun b hb => ho1 b (by rw [ho]; subst hys; exact hb), H1.rely r₂⟩)
      · skip
        have hr1 : y.role = .boss c (.op k false) := by first | (rw [hy]; done) | (rw [hy]; exact hr)
        have ho1 : y.own = ys.own := by rw [hy]; exact ho
        have hdf1 : y.deaf = 1 := by rw [hy]; exact hdf
        have hq1 : y.role.quiet = false := by rw [hr1]; rfl
        have hm1 : y.rem = ys.rem := by rw [hy]; exact hm
        clear hy
        replace hr := hr1
        replace ho := ho1
        replace hm := hm1
        replace hdf := hdf1
        replace hq := hq1
        replace H := H1
        clear hr1 ho1 hm1 hdf1 hq1 H1
        try walk_nrm
        co_apply OF.nil
        try simp only [thenF]
        co_apply WF.more
        · skip
          co_apply WF.cond (t := false) rfl
          simp only [Bool.false_eq_true, ↓reduceIte]
          co_apply WF.skip
          try simp only [blockF, thenF]
          exact ⟨0, ⟨rfl, _, _, _, _, _, _, _, _, _, _, _, _, _, _, _, _, _, _, _, _, _, _, rfl, hr, hdf, ho, hm, H⟩, .inl (by omega)⟩
        · first | omega | (simp only [pl_eq]; omega)
    · skip
      have hr1 : y.role = .boss c .free := by first | (rw [hy]; done) | (rw [hy]; exact hr)
      have ho1 : y.own = ys.own := by rw [hy]; exact ho
      have hdf1 : y.deaf = 1 := by rw [hy]; exact hdf
      have hq1 : y.role.quiet = false := by rw [hr1]; rfl
      have hm1 : ys.rem - 1 ≤ y.rem ∧ y.rem ≤ ys.rem := by rw [hy]; simp only; omega
      skip
      clear hy
      replace hr := hr1
      replace ho := ho1
      replace hm := hm1
      replace hdf := hdf1
      replace hq := hq1
      replace H := H1
      clear hr1 ho1 hm1 hdf1 hq1 H1
      try walk_nrm
      have z1 : bits BinOp.and IntKind.u64 0 2147483648 = 0 := by decide
      have z2 : bits BinOp.and IntKind.u64 0 2147483647 = 0 := by decide
      co_applyP OF.pu rfl (by rfl) (fun _ => run_eq_of ?run) (fun _ => by simp [go_sem, *])
      case run => intro K hK; go_simp; exact hK
      try walk_nrm
      co_apply OF.nil
      try simp only [thenF]
      co_apply WF.seqP
      co_apply WF.region
      try simp only [List.size_toArray, List.length_cons, List.length_nil, Nat.reduceAdd, Nat.zero_add, List.range, List.range.loop]
      co_applyP OF.pu rfl (by rfl) (fun _ => run_eq_of ?run) (fun _ => by simp [go_sem, *])
      case run => intro K hK; go_simp; exact hK
      try walk_nrm
      co_applyP OF.pu rfl (by rfl) (fun _ => run_eq_of ?run) (fun _ => by simp [go_sem, *])
      case run => intro K hK; go_simp; exact hK
      try walk_nrm
      co_applyP OF.pu rfl (by rfl) (fun _ => run_eq_of ?run) (fun _ => by simp [go_sem, *])
      case run => intro K hK; go_simp; exact hK
      try walk_nrm
      co_applyP OF.pu rfl (by rfl) (fun _ => run_eq_of ?run) (fun _ => by simp [go_sem, *])
      case run => intro K hK; go_simp; exact hK
      try walk_nrm
      co_apply OF.nil
      try simp only [thenF]
      co_apply WF.seqP
      co_apply WF.region
      try simp only [List.size_toArray, List.length_cons, List.length_nil, Nat.reduceAdd, Nat.zero_add, List.range, List.range.loop]
      co_applyP OF.pu rfl (by rfl) (fun _ => run_eq_of ?run) (fun _ => by simp [go_sem, *])
      case run => intro K hK; go_simp; exact hK
      try walk_nrm
      co_applyP OF.pu rfl (by rfl) (fun _ => run_eq_of ?run) (fun _ => by simp [go_sem, *])
      case run => intro K hK; go_simp; exact hK
      try walk_nrm
      co_applyP OF.pu rfl (by rfl) (fun _ => run_eq_of ?run) (fun _ => by simp [go_sem, *])
      case run => intro K hK; go_simp; exact hK
      try walk_nrm
      co_applyP OF.pu rfl (by rfl) (fun _ => run_eq_of ?run) (fun _ => by simp [go_sem, *])
      case run => intro K hK; go_simp; exact hK
      try walk_nrm
      co_apply OF.nil
      try simp only [thenF]
      co_apply WF.more
      · skip
        co_apply WF.seqP (n₂ := 0)
        co_apply WF.seqP
        co_apply WF.region
        try simp only [List.size_toArray, List.length_cons, List.length_nil, Nat.reduceAdd, Nat.zero_add, List.range, List.range.loop]
        co_applyP OF.pu rfl (by rfl) (fun _ => run_eq_of ?run) (fun _ => by simp [go_sem, *])
        case run => intro K hK; go_simp; exact hK
        try walk_nrm
        co_applyP OF.pu rfl (by rfl) (fun _ => run_eq_of ?run) (fun _ => by simp [go_sem, *])
        case run => intro K hK; go_simp; exact hK
        try walk_nrm
        co_apply OF.nil
        try simp only [thenF]
        co_apply WF.cond (t := true) rfl
        simp only [↓reduceIte]
        co_apply WF.seqP
        co_apply WF.cond (t := true) rfl
        simp only [↓reduceIte]
        co_apply WF.seqP
        co_apply WF.region
        try simp only [List.size_toArray, List.length_cons, List.length_nil, Nat.zero_add, List.range, List.range.loop]
        co_applyP OF.mk (d' := 0) (es := #[⟨.mark .enable, false, true⟩]) H hq (by rw [hdf]; rfl) (fun e he => ?eok) (fun K w H b kk cs hb hk => stepG_mark0 .enable (by simp) rfl (by rfl) hk rfl Try.func64 (by kernel_rfl) (by kernel_rfl) (by kernel_rfl) (by kernel_rfl))
        case eok => simp at he; subst he; exact mark_ok rfl (by simp)
        intro K w hK1 H1
        have hr1 : (⟨y.own, y.rem, 0, y.role⟩ : Gh Role).role = .boss c .free := hr
        have ho1 : (⟨y.own, y.rem, 0, y.role⟩ : Gh Role).own = ys.own := ho
        have hm1 : ys.rem - 1 ≤ (⟨y.own, y.rem, 0, y.role⟩ : Gh Role).rem ∧ (⟨y.own, y.rem, 0, y.role⟩ : Gh Role).rem ≤ ys.rem := hm
        have hdf1 : (⟨y.own, y.rem, 0, y.role⟩ : Gh Role).deaf = 0 := rfl
        generalize (⟨y.own, y.rem, 0, y.role⟩ : Gh Role) = y at H1 hr1 ho1 hm1 hdf1 ⊢
        replace H := H1
        replace hr := hr1
        replace ho := ho1
        replace hm := hm1
        replace hdf := hdf1
        have hq : y.role.quiet = false := by rw [hr]; rfl
        clear H1 hr1 ho1 hm1 hdf1 hK1
        try walk_nrm
        co_apply OF.nil
        try simp only [thenF]
        co_apply WF.region
        try simp only [List.size_toArray, List.length_cons, List.length_nil, Nat.reduceAdd, Nat.zero_add, List.range, List.range.loop]
        co_applyP OF.pu rfl (by rfl) (fun _ => run_eq_of ?run) (fun _ => by simp [go_sem, *])
        case run => intro K hK; go_simp; exact hK
        try walk_nrm
        co_applyP OF.see (v := .pointer (some ⟨c.wg, 0, none⟩)) rfl (by rfl) H (fun K w H => by
            obtain ⟨s, mm, hgs⟩ := (H.st.boss hr).1.grp
            have hc := gr_cell hgs
            have hcv := run_convert_to_unsafe (P := Try.prog) Try.underlying137 Try.underlying139 (by kernel_rfl) hc.1
            have hce := fun es => events_convert_to_unsafe (P := Try.prog) Try.underlying137 Try.underlying139 (by kernel_rfl) hc.1 es
            refine ⟨run_eq_of ?_, ?_⟩
            · intro K hK; go_simp; exact hK
            · simp [go_sem, hce])
        intro K w hK1 hr1 H1
        replace H := H1
        clear hK1 hr1 H1
        try walk_nrm
        co_applyP OF.acq rfl (by rfl) rfl Try.func74 (by kernel_rfl) (by kernel_rfl) (by kernel_rfl) (by kernel_rfl) H hr hdf hN (by simp [Act.eval])
        intro K y1 w hK1 hra hdf1 hm1 ho1 H1
        have hq1 : y1.role.quiet = false := by rw [hra]; rfl
        try walk_nrm
        co_apply OF.nil
        try simp only [thenF]
        co_apply WF.seqP
        co_apply WF.seqP
        co_apply WF.region
        try simp only [List.size_toArray, List.length_cons, List.length_nil, Nat.reduceAdd, Nat.zero_add, List.range, List.range.loop]
        co_applyP OF.pu rfl (by rfl) (fun _ => run_eq_of ?run) (fun _ => by simp [go_sem, *])
        case run => intro K hK; go_simp; exact hK
        try walk_nrm
        co_applyP OF.pu rfl (by rfl) (fun _ => run_eq_of ?run) (fun _ => by simp [go_sem, *])
        case run => intro K hK; go_simp; exact hK
        try walk_nrm
        co_applyP OF.pu rfl (by rfl) (fun _ => run_eq_of ?run) (fun _ => by simp [go_sem, *])
        case run => intro K hK; go_simp; exact hK
        try walk_nrm
        first
        | (co_applyP OF.pu rfl (by rfl) (fun _ => run_eq_of ?run) (fun _ => by simp [go_sem, *]); case run => intro K hK; go_simp; exact hK)
        | co_apply OF.unwanted rfl (by rfl)
        try walk_nrm
        first
        | (co_applyP OF.pu rfl (by rfl) (fun _ => run_eq_of ?run) (fun _ => by simp [go_sem, *]); case run => intro K hK; go_simp; exact hK)
        | co_apply OF.unwanted rfl (by rfl)
        try walk_nrm
        first
        | (co_applyP OF.pu rfl (by rfl) (fun _ => run_eq_of ?run) (fun _ => by simp [go_sem, *]); case run => intro K hK; go_simp; exact hK)
        | co_apply OF.unwanted rfl (by rfl)
        try walk_nrm
        co_applyP OF.pu rfl (by rfl) (fun _ => run_eq_of ?run) (fun _ => by simp [go_sem, *])
        case run => intro K hK; go_simp; exact hK
        try walk_nrm
        co_applyP OF.pu rfl (by rfl) (fun _ => run_eq_of ?run) (fun _ => by simp [go_sem, *])
        case run => intro K hK; go_simp; exact hK
        try walk_nrm
        co_apply OF.unwanted rfl (by rfl)
        try walk_nrm
        first
        | (co_applyP OF.pu rfl (by rfl) (fun _ => run_eq_of ?run) (fun _ => by simp [go_sem, *]); case run => intro K hK; go_simp; exact hK)
        | co_apply OF.unwanted rfl (by rfl)
        try walk_nrm
        co_applyP OF.pu rfl (by rfl) (fun _ => run_eq_of ?run) (fun _ => by simp [go_sem, *])
        case run => intro K hK; go_simp; exact hK
        try walk_nrm
        co_apply OF.nil
        try simp only [thenF]
        co_apply WF.cond (t := false) rfl
        simp only [Bool.false_eq_true, ↓reduceIte]
        co_apply WF.skip
        try simp only [thenF]
        co_apply WF.ret
        try simp only [thenF]
        try simp only [blockF, thenF]
        try simp only [blockF, thenF, if_true, if_false, reduceIte, Nat.reduceEqDiff]
        exact retG_of rfl (resultsC_none (by rfl) _) (fun K₂ hK₂ w₂ r₂ => ⟨hra, hdf1, by rw [hm1]; subst hys; exact hm.1, fun b hb => ho1 b (by rw [ho]; subst hys; exact hb), H1.rely r₂⟩)
      · first | omega | (simp only [pl_eq]; omega)
  · first | omega | (simp only [pl_eq]; omega)

end Go.Proofs.Ytgnhddnhcfmipaa.Ids
