/- Net: the parts that a statement hands in, made of its pieces, with marks behind the lists, walked. -/
import Derived.Test.YtfmjmjppkdaanaaEach
namespace Go.Proofs.Ytfmjmjppkdaanaa
open Go.RowKit Go.BigFrame flt Ieee

theorem el41 : Elt Try.prog 41 47 3 40 := Elt.of (z := .agg #[.int .u8 0, .float .f64 0, .slice none 0 0]) Try.underlying41 (by kernel_rfl) rfl (by decide) (by decide)
theorem el45 : Elt Try.prog 45 3 1 8 := Elt.of (z := .int .i64 0) Try.underlying45 (by kernel_rfl) rfl (by decide) (by decide)
/-- pieces in memory -/
def Pcs (w : World) (A : Option Addr) (l : List Part) : Prop :=
  l.length ≤ 9223372036854775807 ∧ ∀ k (h : k < l.length), ∃ b o Ai ci, A = some ⟨b, o, none⟩ ∧ b < w.heap.size ∧ w.cell? ⟨b, o + k * 3, none⟩ = some (.int .u8 l[k].kind) ∧ w.cell? ⟨b, o + k * 3 + 1, none⟩ = some (.int .u64 l[k].x) ∧
    w.cell? ⟨b, o + k * 3 + 2, none⟩ = some (.slice Ai l[k].of.length ci) ∧ Ints w Ai l[k].of ∧ (Ai = none → ci = 0)
theorem Pcs.below {w w' : World} {A : Option Addr} {l : List Part} (h : Pcs w A l) (d : Below w.heap.size w w') : Pcs w' A l :=
  ⟨h.1, fun k hk => by
    obtain ⟨b, o, Ai, ci, e, hb, c0, c1, c2, hi, hc⟩ := h.2 k hk
    have := d.size
    exact ⟨b, o, Ai, ci, e, by omega, (d.cell hb).trans c0, (d.cell hb).trans c1, (d.cell hb).trans c2, hi.below d, hc⟩⟩
def Little (l : List Part) : Prop := l.length * 40 ≤ 140737488351232 ∧ ∀ p ∈ l, p.of.length * 8 ≤ 140737488351232
def pvrow (p : Part) (g : Nat × Nat) : List Value := [.int .u8 p.kind, .float .f64 p.x, .slice (some ⟨g.1, 0, none⟩) p.of.length g.2]
def mark : List Value := [.int .u8 99, .float .f64 0, .slice none 0 0]
def inner (p : Part) : List (List Value) := p.of.map irow ++ [irow 987]
theorem inner_len (p : Part) : (inner p).length = p.of.length + 1 := by unfold inner; rw [List.length_append, List.length_map]; rfl
/-- parts under way: the rows, and the lists behind -/
structure Growing (w : World) (B : Nat) (l : List Part) (v : Value) (gs : List (Nat × Nat)) : Prop where
  len : gs.length = l.length
  row : Own w B 47 3 (List.zipWith pvrow l gs) v
  inn : ∀ (k : Nat) (p : Part) (g : Nat × Nat), l[k]? = some p → gs[k]? = some g → Own w B 3 1 (inner p) (.slice (some ⟨g.1, 0, none⟩) (p.of.length + 1) g.2) ∧ v.ownBlock ≠ some g.1
theorem Growing.nil (w : World) (B : Nat) : Growing w B [] (.slice none 0 0) [] := ⟨rfl, Own.nil _ _ _ _, fun k p g h => by cases h⟩
theorem Growing.below {w w' : World} {B : Nat} {l : List Part} {v : Value} {gs : List (Nat × Nat)} (h : Growing w B l v gs) (d : Below w.heap.size w w') : Growing w' B l v gs :=
  ⟨h.len, h.row.below d, fun k p g hp hg => ⟨(h.inn k p g hp hg).1.below d, (h.inn k p g hp hg).2⟩⟩
theorem zip_len {l : List Part} {gs : List (Nat × Nat)} (h : gs.length = l.length) : (List.zipWith pvrow l gs).length = l.length := by rw [List.length_zipWith]; omega
theorem zip_push (l : List Part) (gs : List (Nat × Nat)) (h : gs.length = l.length) (p : Part) (g : Nat × Nat) : List.zipWith pvrow (l ++ [p]) (gs ++ [g]) = List.zipWith pvrow l gs ++ [pvrow p g] := by
  rw [List.zipWith_append (by omega)]; rfl
theorem get_push {α : Type} {l : List α} {a x : α} {k : Nat} (h : (l ++ [a])[k]? = some x) : (k < l.length ∧ l[k]? = some x) ∨ (k = l.length ∧ a = x) := by
  rcases Nat.lt_or_ge k l.length with q | q
  · rw [List.getElem?_append_left q] at h
    exact Or.inl ⟨q, h⟩
  · rw [List.getElem?_append_right q] at h
    have hk : k - l.length < 1 := by
      rcases Nat.lt_or_ge (k - l.length) 1 with r | r
      · exact r
      · rw [List.getElem?_eq_none (by simpa using r)] at h; cases h
    have e : k - l.length = 0 := by omega
    rw [e] at h
    exact Or.inr ⟨by omega, by simpa using h⟩
/-- one part more -/
theorem Growing.push {w w1 w2 w3 : World} {B : Nat} {l : List Part} {v v' : Value} {gs : List (Nat × Nat)} {p : Part} {g c : Nat} (h : Growing w B l v gs) (hB : B ≤ w.heap.size)
    (hb1 : Below w.heap.size w w1) (hi : Own w1 w.heap.size 3 1 (inner p) (.slice (some ⟨g, 0, none⟩) (p.of.length + 1) c)) (hb2 : Below w1.heap.size w1 w2)
    (ho : Own w3 B 47 3 (List.zipWith pvrow l gs ++ [pvrow p (g, c)]) v') (hg : w2.grownBy w3 v.ownBlock) (hat : v'.ownBlock = v.ownBlock ∨ v'.ownBlock = some w2.heap.size) :
    Growing w3 B (l ++ [p]) v' (gs ++ [(g, c)]) := by
  have hs1 := hb1.size
  have hs2 := hb2.size
  have hgl := (hi.lt g rfl)
  have hvl : ∀ x, v.ownBlock = some x → x < w.heap.size := fun x hx => (h.row.lt x hx).2
  refine ⟨by rw [List.length_append, List.length_append, h.len]; rfl, by rw [zip_push _ _ h.len]; exact ho, fun k q y hq hy => ?_⟩
  rcases get_push hq with ⟨hk, hq'⟩ | ⟨hk, rfl⟩
  · rcases get_push hy with ⟨_, hy'⟩ | ⟨hk', _⟩
    · obtain ⟨o1, hne⟩ := h.inn k q y hq' hy'
      have hyl := (o1.lt y.1 rfl).2
      refine ⟨((o1.below hb1).below hb2).grown hg (Or.inr fun e => hne e.symm), fun e => ?_⟩
      rcases hat with e' | e'
      · exact hne (e' ▸ e)
      · rw [e'] at e
        have := Option.some.inj e
        omega
    · rw [h.len] at hk'; omega
  · rcases get_push hy with ⟨hk', _⟩ | ⟨_, rfl⟩
    · rw [h.len] at hk'; omega
    · refine ⟨(hi.mono hB |>.below hb2).grown hg (Or.inr fun e => ?_), fun e => ?_⟩
      · have := hvl g e.symm
        omega
      · rcases hat with e' | e'
        · have := hvl g (e' ▸ e)
          omega
        · rw [e'] at e
          have := Option.some.inj e
          simp only at this
          omega
/-- parts, and the mark behind -/
structure Parted (w : World) (B : Nat) (l : List Part) (g cap : Nat) (gs : List (Nat × Nat)) : Prop where
  len : gs.length = l.length
  row : Own w B 47 3 (List.zipWith pvrow l gs ++ [mark]) (.slice (some ⟨g, 0, none⟩) (l.length + 1) cap)
  inn : ∀ (k : Nat) (p : Part) (y : Nat × Nat), l[k]? = some p → gs[k]? = some y → Own w B 3 1 (inner p) (.slice (some ⟨y.1, 0, none⟩) (p.of.length + 1) y.2) ∧ g ≠ y.1
theorem Parted.below {w w' : World} {B : Nat} {l : List Part} {g cap : Nat} {gs : List (Nat × Nat)} (h : Parted w B l g cap gs) (d : Below w.heap.size w w') : Parted w' B l g cap gs :=
  ⟨h.len, h.row.below d, fun k p y hp hg => ⟨(h.inn k p y hp hg).1.below d, (h.inn k p y hp hg).2⟩⟩
theorem Growing.last {w2 w3 : World} {B : Nat} {l : List Part} {v v' : Value} {gs : List (Nat × Nat)} (h : Growing w2 B l v gs)
    (ho : Own w3 B 47 3 (List.zipWith pvrow l gs ++ [mark]) v') (hg : w2.grownBy w3 v.ownBlock) (hat : v'.ownBlock = v.ownBlock ∨ v'.ownBlock = some w2.heap.size) :
    ∃ g cap, v' = .slice (some ⟨g, 0, none⟩) (l.length + 1) cap ∧ l.length + 1 ≤ cap ∧ Parted w3 B l g cap gs := by
  have hl : (List.zipWith pvrow l gs ++ [mark]).length = l.length + 1 := by rw [List.length_append, zip_len h.len]; rfl
  obtain ⟨g, cap, rfl, h1, h2, h3⟩ := ho.form (by rw [hl]; omega)
  rw [hl] at h3 ho ⊢
  refine ⟨g, cap, rfl, h3, h.len, ho, fun k p y hp hy => ?_⟩
  obtain ⟨o1, hne⟩ := h.inn k p y hp hy
  refine ⟨o1.grown hg (Or.inr fun e => hne e.symm), fun e => ?_⟩
  rcases hat with e' | e'
  · exact hne (e' ▸ congrArg some e)
  · have e2 : some g = some w2.heap.size := e'
    have e3 := Option.some.inj e2
    have := (o1.lt y.1 rfl).2
    omega
theorem one_ints (l : List Int) : ∀ r ∈ l.map irow, ∀ u ∈ r, u.oneCell' = true := by
  intro r hr u hu
  obtain ⟨n, _, rfl⟩ := List.mem_map.1 hr
  simp only [irow, List.mem_singleton] at hu
  subst hu
  rfl
/-- an append of one row at a step of a region that draws; what was -/
theorem step_push_at {P : Program} {ops : Array Oper} {o : Oper} {a : Act} {w : World} {K : Act → World → Prop} {Q : Exit → Act → World → Prop} {E : Prop} {t e : TypeId} {size bytes : Nat} (el : Elt P t e size bytes) (hg : o.guard = none) (s x : Operand)
    (ho : o.op = .call { callee := .builtin .append, args := #[s, x], argTypes := #[t, t] }) {base : Nat} {v : Value} {xs : List (List Value)} (hs : a.eval s = v) (hown : Own w base e size xs v)
    (row : List Value) (g0 : Nat) (T : TypeId) (hx : a.eval x = .slice (some ⟨g0, 0, none⟩) 1 1) (hg0 : w.heap[g0]? = some (.cells row.toArray T)) (hl : row.length = size)
    (h1 : ∀ u ∈ row, u.oneCell' = true) (hbytes : (xs.length + 1) * bytes ≤ 140737488355328) (hbase : base ≤ w.heap.size)
    (h : ∀ v' w', Own w' base e size (xs ++ [row]) v' → Below base w w' → w.grownBy w' v.ownBlock → (v'.ownBlock = v.ownBlock ∨ v'.ownBlock = some w.heap.size) → K (a.put o.dst v') w') :
    if Region.wanted o (yielded ops a.tmps) = true then Oper.wp P o a w K Q else E := by
  obtain ⟨v', w', hrun, h2, h3, _, h5, h6⟩ := run_push_at el o.type hown row g0 T hg0 hl h1 hbytes hbase
  exact step_run hg s x t ho hs hx hrun (h v' w' h2 h3 h5 h6)
set_option maxHeartbeats 4000000 in
theorem parts_any (l : List Part) (A : Option Addr) (c : Nat) (w : World) (h : Pcs w A l) (hL : Little l) :
    Calls Try.prog 20 #[.slice A l.length c] w fun e w' => ∃ g cap gs, e = .returned (.slice (some ⟨g, 0, none⟩) l.length cap) ∧ l.length + 1 ≤ cap ∧ Parted w' w.heap.size l g cap gs ∧ Below w.heap.size w w' := by
  have hlen := h.1
  have hst : ∀ (p : Addr) (v : Nat) (W : World), (store p (.float .f64 v)).run Try.prog W = stored Try.prog W p (.float .f64 v) .plain := fun p v W => run_store Try.prog W p _ _ rfl
  have hL1 := hL.1
  have hL2 := Lib.hid hL.2
  clear hL
  go_enter Try.func20, Try.ntmps20
  go_wp2
  go_loopw [3, 4] (fun s3 s4 wr => ∃ (k : Nat) (gs : List (Nat × Nat)), k ≤ l.length ∧ s4 = .int .i64 k ∧ Growing wr w.heap.size (l.take k) s3 gs ∧ Below w.heap.size w wr) (fun _ s4 _ => l.length - (intOf s4).toNat)
  case atStart => exact ⟨0, [], by omega, rfl, Growing.nil _ _, Below.refl _ _⟩
  case round =>
    obtain ⟨k, gs, hk, rfl, hG, hd⟩ := hrel
    obtain ⟨wo, rfl⟩ : ∃ wo : World, wo = wr := ⟨_, rfl⟩
    by_cases hkl : k = l.length
    · subst hkl
      rw [List.take_length] at hG
      have hzl : Hid ((List.zipWith pvrow l gs).length = l.length) := Lib.hid (zip_len hG.len)
      have hrow := hG.row
      have hbs := hd.size
      go_wp2_with (at_builtin; refine wpList_push_at el41 rfl _ _ rfl rfl (hrow.alloc _) mark wo.heap.size 47 rfl (heap_alloc_at _ _) rfl (by simp [mark, Value.oneCell']) (by rw [hzl.out]; omega) (by rw [size_al]; omega) ?_; intro v' w3 ho4 hb4 hs4 hn4 hg4 hat4; obtain ⟨g, cap, rfl, hcap, hP⟩ := (hG.below ((Below.refl _ _).alloc (Nat.le_refl _) _)).last ho4 hg4 hat4; clear hs4 hn4 hg4 hat4 ho4)
      go_ret
      exact ⟨g, cap, gs, rfl, hcap, hP, hd.trans (((Below.refl _ _).alloc hbs _).trans hb4)⟩
    have hlt : k < l.length := by omega
    obtain ⟨b, o, Ai, ci, rfl, hbl, c0, c1, c2, hI, hci⟩ := (h.below hd).2 k hlt
    have hpl := hL2.out _ (List.getElem_mem hlt)
    have htk : Hid (l.take (k + 1) = l.take k ++ [l[k]]) := Lib.hid (List.take_succ_eq_append_getElem hlt)
    have hzl : Hid ((List.zipWith pvrow (l.take k) gs).length = k) := Lib.hid (by rw [zip_len hG.len, List.length_take]; omega)
    have hbs : Hid (w.heap.size ≤ wo.heap.size) := Lib.hid hd.size
    clear h hL2
    generalize l[k] = p at *
    have hfl : Hid ((p.of.map irow).length = p.of.length) := Lib.hid (List.length_map _)
    have hfr : ∀ W, (callFunc 10 #[.int .u64 p.x]).run Try.prog W = .ok (.value (.float .f64 p.x)) W := fun W => from_run p.x W
    go_upto_region 7 with (first
      | (at_builtin; refine wpList_push_at el45 rfl _ _ rfl rfl (ho1.alloc _) (irow 987) w1.heap.size 3 rfl (heap_alloc_at _ _) rfl (by simp [irow, Value.oneCell']) (by rw [hfl.out]; omega) (by rw [size_al] at *; omega) ?_; intro v2 w2 ho2 hb2 hs2 hn2 hg2 hat2)
      | (at_builtin; refine wpList_app_any el45 rfl _ _ rfl rfl (Own.lit (w := wo) (base := wo.heap.size) (e := 3) (size := 1) (xs := []) #[] 0 rfl rfl (by simp) (Nat.le_refl _) (by decide)) Ai ci p.of.length hfl.out.symm rfl hci (Sl.alloc hI _) (one_ints p.of) (by rw [hfl.out]; simp; omega) (by rw [size_al]; omega) ?_; intro v1 w1 ho1 hb1 hs1 hg1 hat1; rw [List.nil_append] at ho1))
    have hb1' : Below wo.heap.size wo w1 := ((Below.refl _ _).alloc (Nat.le_refl _) _).trans hb1
    have hbw : Below wo.heap.size wo w2 := (hb1'.alloc hb1'.size _).trans hb2
    clear hb1 hb2 hb1' hs1 hs2 hn2 hg1 hg2 hat1 hat2 ho1 hI hci
    have hil := inner_len p
    change Own w2 wo.heap.size 3 1 (inner p) v2 at ho2
    obtain ⟨g2, cap2, rfl, q1, q2, q3⟩ := ho2.form (by omega)
    rw [hil] at *
    have d0 := (hbw.cell hbl).trans c0
    have d1 := (hbw.cell hbl).trans c1
    have d2 := (hbw.cell hbl).trans c2
    have hG2 := hG.below hbw
    have hcap2 : p.of.length ≤ cap2 := by omega
    have hws : Hid (wo.heap.size ≤ w2.heap.size) := Lib.hid hbw.size
    clear c0 c1 c2
    go_region_law (first
      | (refine step_push_at el41 rfl (.tmp 28) (.tmp 44) rfl rfl ((hG2.row.drawn ((Drawn.refl _).drew)).alloc _) (pvrow p (g2, cap2)) w2.heap.size 47 rfl (heap_alloc_at _ _) rfl (by simp [pvrow, Value.oneCell']) (by rw [hzl.out]; omega) ?hb (fun v' w3 ho3 hb3 hg3 hat3 => ?_); case hb => (have q := size_al w2 (.cells (pvrow p (g2, cap2)).toArray 47); have := hws.out; have := hbs.out; (show _ ≤ (w2.alloc (.cells (pvrow p (g2, cap2)).toArray 47)).heap.size); omega)))
    all_goals go_wp2
    all_goals go_roundw
    all_goals first
      | exact ⟨k + 1, gs ++ [(g2, cap2)], by omega, by go_num, by rw [htk.out]; exact hG.push hbs.out hbw ho2 (below_al (Below.refl _ _) _).drew ho3 hg3 hat3, hd.trans ((hbw.mono hbs.out).trans ((((below_al (Below.refl _ _) _).drew).mono (Nat.le_trans hbs.out hws.out)).trans hb3))⟩
      | (simp [intOf]; omega)
theorem Parted.rows {w : World} {B : Nat} {l : List Part} {g cap : Nat} {gs : List (Nat × Nat)} (h : Parted w B l g cap gs) : (List.zipWith pvrow l gs ++ [mark]).length = l.length + 1 := by
  rw [List.length_append, zip_len h.len]; rfl
theorem Parted.cell {w : World} {B : Nat} {l : List Part} {g cap : Nat} {gs : List (Nat × Nat)} (h : Parted w B l g cap gs) {k : Nat} (hk : k < l.length) :
    ∃ gk ck, gs[k]? = some (gk, ck) ∧ g < w.heap.size ∧ w.cell? ⟨g, k * 3, none⟩ = some (.int .u8 l[k].kind) ∧ w.cell? ⟨g, k * 3 + 1, none⟩ = some (.float .f64 l[k].x) ∧ w.cell? ⟨g, k * 3 + 2, none⟩ = some (.slice (some ⟨gk, 0, none⟩) l[k].of.length ck) ∧ w.frozen? ⟨g, k * 3 + 1, none⟩ = false := by
  have hr := h.row
  have hl := h.rows
  rw [← hl] at hr
  have hkg : k < gs.length := by rw [h.len]; exact hk
  have hkr : k < (List.zipWith pvrow l gs ++ [mark]).length := by omega
  have e : (List.zipWith pvrow l gs ++ [mark])[k] = pvrow l[k] gs[k] := by
    rw [List.getElem_append_left (by rw [zip_len h.len]; exact hk), List.getElem_zipWith]
  refine ⟨gs[k].1, gs[k].2, List.getElem?_eq_getElem hkg, (hr.lt g rfl).2, ?_, ?_, ?_, ?_⟩
  · exact (hr.cell hkr (f := 0) (u := .int .u8 l[k].kind) (by rw [e]; rfl)).1
  · exact (hr.cell hkr (f := 1) (u := .float .f64 l[k].x) (by rw [e]; rfl)).1
  · exact (hr.cell hkr (f := 2) (u := .slice (some ⟨gs[k].1, 0, none⟩) l[k].of.length gs[k].2) (by rw [e]; rfl)).1
  · exact (hr.cell hkr (f := 1) (u := .float .f64 l[k].x) (by rw [e]; rfl)).2
theorem Parted.last {w : World} {B : Nat} {l : List Part} {g cap : Nat} {gs : List (Nat × Nat)} (h : Parted w B l g cap gs) : w.cell? ⟨g, l.length * 3, none⟩ = some (.int .u8 99) := by
  have hr := h.row
  have hl := h.rows
  rw [← hl] at hr
  have hkr : l.length < (List.zipWith pvrow l gs ++ [mark]).length := by omega
  have e : (List.zipWith pvrow l gs ++ [mark])[l.length] = mark := by
    rw [List.getElem_append_right (by rw [zip_len h.len]; omega)]
    simp
  exact (hr.cell hkr (f := 0) (u := .int .u8 99) (by rw [e]; rfl)).1
theorem Parted.list {w : World} {B : Nat} {l : List Part} {g cap : Nat} {gs : List (Nat × Nat)} (h : Parted w B l g cap gs) {k gk ck : Nat} (hk : k < l.length) (hg : gs[k]? = some (gk, ck)) :
    l[k].of.length + 1 ≤ ck ∧ gk < w.heap.size ∧ Ints w (some ⟨gk, 0, none⟩) l[k].of ∧ w.cell? ⟨gk, l[k].of.length, none⟩ = some (.int .i64 987) := by
  obtain ⟨o, _⟩ := h.inn k _ _ (List.getElem?_eq_getElem hk) hg
  have hi := inner_len l[k]
  have o2 := o
  simp only at o o2
  rw [← hi] at o
  obtain ⟨g', c', e, _, _, hc⟩ := o.form (by omega)
  simp only [Value.slice.injEq] at e
  obtain ⟨A, c2, e2, hs⟩ := o.sl
  simp only [Value.slice.injEq, true_and] at e2
  obtain ⟨rfl, rfl⟩ := e2
  refine ⟨by omega, (o.lt gk rfl).2, ?_, ?_⟩
  · have := (hs.take l[k].of.length).mono (S' := fun _ => True) fun _ _ => trivial
    have e3 : (inner l[k]).take l[k].of.length = l[k].of.map irow := by
      unfold inner
      rw [List.take_append_of_le_length (by rw [List.length_map]; omega), List.take_of_length_le (by rw [List.length_map]; omega)]
    rw [e3] at this
    exact this
  · have e4 : (inner l[k])[l[k].of.length]'(by omega) = irow 987 := by
      unfold inner
      rw [List.getElem_append_right (by rw [List.length_map]; omega)]
      simp
    have := (o.cell (k := l[k].of.length) (by omega) (f := 0) (u := .int .i64 987) (by rw [e4]; rfl)).1
    simpa using this
theorem Parted.pn {w : World} {B : Nat} {l : List Part} {g cap : Nat} {gs : List (Nat × Nat)} (h : Parted w B l g cap gs) : Pn w (some ⟨g, 0, none⟩) l := by
  refine ⟨?_, fun k hk => ?_⟩
  · obtain ⟨A, c, _, hs⟩ := h.row.sl
    have := hs.1
    rw [h.rows] at this
    omega
  · obtain ⟨gk, ck, hg, hlt, c0, c1, c2, _⟩ := h.cell hk
    obtain ⟨d0, _, d1, _⟩ := h.list hk hg
    refine ⟨g, 0, some ⟨gk, 0, none⟩, ck, rfl, hlt, ?_, ?_, ?_, d1, by omega⟩
    · rw [Nat.zero_add]; exact c0
    · rw [Nat.zero_add]; exact c1
    · rw [Nat.zero_add]; exact c2
/-- a size is written over -/
theorem Parted.set {w : World} {B : Nat} {l : List Part} {g cap : Nat} {gs : List (Nat × Nat)} (h : Parted w B l g cap gs) {k : Nat} (hk : k < l.length) (y : Nat) : Parted (w.setCell ⟨g, k * 3 + 1, none⟩ (.float .f64 y)) B (l.set k { l[k] with x := y }) g cap gs := by
  have hr := h.row
  have hl := h.rows
  rw [← hl] at hr
  have hkg : k < gs.length := by rw [h.len]; exact hk
  have hkr : k < (List.zipWith pvrow l gs ++ [mark]).length := by omega
  have e : (List.zipWith pvrow l gs ++ [mark])[k] = pvrow l[k] gs[k] := by
    rw [List.getElem_append_left (by rw [zip_len h.len]; exact hk), List.getElem_zipWith]
  have hs := hr.set hkr (f := 1) (by decide) (.float .f64 y)
  rw [e, hl] at hs
  have e2 : (List.zipWith pvrow l gs ++ [mark]).set k ((pvrow l[k] gs[k]).set 1 (.float .f64 y)) = List.zipWith pvrow (l.set k { l[k] with x := y }) gs ++ [mark] := by
    rw [List.set_append_left _ _ (by rw [zip_len h.len]; exact hk)]
    congr 1
    apply List.ext_getElem?
    intro j
    rw [List.getElem?_set, List.getElem?_zipWith, List.getElem?_zipWith, List.getElem?_set]
    by_cases ej : k = j
    · subst ej
      rw [if_pos rfl, if_pos (by rw [zip_len h.len]; exact hk), if_pos rfl, if_pos hk, List.getElem?_eq_getElem hkg]
      rfl
    · rw [if_neg ej, if_neg ej]
  rw [e2] at hs
  refine ⟨by rw [List.length_set]; exact h.len, by rw [List.length_set]; exact hs, fun j p z hp hz => ?_⟩
  rw [List.getElem?_set] at hp
  by_cases ej : k = j
  · subst ej
    rw [if_pos rfl, if_pos hk] at hp
    cases hp
    obtain ⟨o1, hne⟩ := h.inn k _ z (List.getElem?_eq_getElem hk) hz
    exact ⟨o1.keep fun b hb => Below.heap_setCell w _ _ b (fun e => hne (by cases hb; exact e.symm)), hne⟩
  · rw [if_neg ej] at hp
    obtain ⟨o1, hne⟩ := h.inn j p z hp hz
    exact ⟨o1.keep fun b hb => Below.heap_setCell w _ _ b (fun e => hne (by cases hb; exact e.symm)), hne⟩
end Go.Proofs.Ytfmjmjppkdaanaa
