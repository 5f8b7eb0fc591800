/- Dens: a go statement, one who leaves, one who takes over. Plain: no program here. -/
import Derived.Test.YtgnhddnhcfmipaaEg9
namespace Go.Proofs.Ytgnhddnhcfmipaa.Eg
open Go Go.Conc
open Go.ConcN (sumTo upd upd_ne upd_same PermW Deaf_absent)

section
variable {ρ : Type} {X : Sh ρ} {sz : Nat} {y : Nat → Gh ρ} {fin : Nat → Bool} {n : Nat} {t : Trace}

/-- Whoever leaves has nothing more. -/
theorem GC.quit (h : GC X sz y fin n t) (i : Nat) : GC X sz y (upd fin i true) n t := by
  have hf : ∀ j, upd fin i true j = false → fin j = false := fun j hj => by
    by_cases e : j = i
    · subst e; rw [upd_same] at hj; cases hj
    · rwa [upd_ne _ _ e] at hj
  have D := h.dens
  refine ⟨⟨fun j b a c => D.low j b a (hf _ c), fun j l a c => D.lowS j l a (hf _ c), fun j k b a a' c c' => D.apart j k b a a' (hf _ c) (hf _ c'), fun j k b a a' c c' => D.ownSt j k b a a' (hf _ c) (hf _ c'), fun j k b a a' c c' => D.ownSh j k b a a' (hf _ c) (hf _ c'), fun j k b a a' c c' => D.stSh j k b a a' (hf _ c) (hf _ c')⟩,
    fun j a c => h.deaf j a (hf _ c), h.ti.anew ?_ ?_ ?_, h.seen, h.gs, h.norel⟩
  · rintro g l ⟨h1, h2, h3⟩; exact h.ti.own g l ⟨h1, hf _ h2, h3⟩
  · rintro g l ⟨h1, h2, h3⟩; exact h.ti.rd g l ⟨h1, hf _ h2, h3⟩
  · rintro g l ⟨h1, h2, h3⟩; exact h.ti.at_ g l ⟨h1, hf _ h2, h3⟩

theorem touch_mute' {e : Event} (h : e.mute = true) : (MemAct.ofEvent e).touch? = none := touch_mute h

/-- One who leaves says mute words. -/
theorem GC.mute (h : GC X sz y fin n t) {i : Nat} (hi : i < sz) (hf : fin i = true) (fn : FuncId) (pos : String) {es : Array Event} (hm : ∀ e ∈ es, Event.mute e = true) : GC X sz y fin n (t ++ MemOp.ofEvents i fn pos es) := by
  have hu : ∀ op ∈ MemOp.ofEvents i fn pos es, op.g = i := fun op hop => by obtain ⟨e, _, rfl⟩ := Conc.mem_ofEvents hop; rfl
  have hn : ∀ op ∈ MemOp.ofEvents i fn pos es, op.act.touch? = none := fun op hop => by obtain ⟨e, he, rfl⟩ := Conc.mem_ofEvents hop; exact touch_mute (hm e he)
  refine ⟨h.dens, fun j hj hfj => ?_, h.ti.mute hu hn, fun k a b ha hb => h.seen k a b (noTouch_app hn ha) hb, fun op hop => ?_, fun a k hk => ?_⟩
  · rw [Deaf_other t (g' := i) (fun e => by subst e; rw [hf] at hfj; cases hfj) _ hu]; exact h.deaf j hj hfj
  · rcases Array.mem_append.1 hop with hop | hop
    · exact h.gs op hop
    · rw [hu op hop]; exact hi
  · exact (h.norel a).app (u := MemOp.ofEvents i fn pos es) (fun op hop e => by
      obtain ⟨e', hem, rfl⟩ := Conc.mem_ofEvents hop
      have h1 := Go.ConcR.loc_of_ofEvent e
      have h2 := hm e' hem
      obtain ⟨l, wr, sy⟩ := e'
      simp only at h1
      subst h1
      cases h2) k hk

/-- The permissions anew. -/
theorem GC.anew (h : GC X sz y fin n t) {y' : Nat → Gh ρ} {fin' : Nat → Bool} {n' : Nat} (hn : n ≤ n') (dens : Dens X sz y' fin' n') (hd : ∀ i, i < sz → fin' i = false → Deaf t i = (y' i).deaf)
    (h1 : ∀ g l, (perms X sz y' fin').own g l → Perm t g l) (h2 : ∀ g l, (perms X sz y' fin').rd g l → PermW t g l) (h3 : ∀ g l, (perms X sz y' fin').at_ g l → PermP t g l) : GC X sz y' fin' n' t :=
  ⟨dens, hd, h.ti.anew h1 h2 h3, fun k a b ha hb => by have := h.seen k a b ha hb; omega, h.gs, h.norel⟩

/-- A go STATEMENT: what goroutine 0 may is dealt out between it and the child. -/
theorem GC.fork (h : GC X sz y fin n t) (h0 : 0 < sz) (hf0 : fin 0 = false) {y' yc : Gh ρ} (dens : Dens X (sz + 1) (upd (upd y 0 y') sz yc) (upd fin sz false) n) (hd0 : (y 0).deaf = 0) (hd : y'.deaf = 0) (hdc : yc.deaf = 0)
    (o : ∀ b, y'.own b ∨ yc.own b → (y 0).own b) (s : ∀ l, X.still y'.role l ∨ X.still yc.role l → inB (y 0).own l ∨ X.still (y 0).role l) (a : ∀ l, X.shared y'.role l ∨ X.shared yc.role l → inB (y 0).own l ∨ X.shared (y 0).role l)
    {x z : MemOp} (hx : x.g = 0 ∧ x.act = .go sz) (hz : z.g = sz ∧ z.act = .start) : GC X (sz + 1) (upd (upd y 0 y') sz yc) (upd fin sz false) n (t ++ #[x, z]) := by
  have hu : ∀ op ∈ #[x, z], op.act.touch? = none := by
    intro op hop
    simp only [List.mem_toArray, List.mem_cons, List.not_mem_nil, or_false] at hop
    rcases hop with rfl | rfl
    · rw [hx.2]; rfl
    · rw [hz.2]; rfl
  have hdt : Deaf t 0 = 0 := by rw [h.deaf 0 h0 hf0, hd0]
  have hds : Deaf t sz = 0 := Deaf_absent fun i op hi e => by have := h.gs op (Array.mem_of_getElem? hi); omega
  have hdd : ∀ j, Deaf (t ++ #[x, z]) j = Deaf t j := deaf_two ⟨_, hx.2⟩ hz.2
  have T : TI (perms X sz y fin) (t ++ #[x, z]) := h.ti.two (by rw [hx.2]; rfl) (by rw [hz.2]; rfl)
  have P0 : ∀ l b, blk l = some b → (y 0).own b → Perm t 0 l := fun l b hb ho => h.ti.own 0 l ⟨h0, hf0, b, hb, ho⟩
  have W0 : ∀ l, (inB (y 0).own l ∨ X.still (y 0).role l) → PermW t 0 l := fun l ho => ho.elim (fun ⟨b, hb, ho⟩ => .of (P0 l b hb ho)) fun ho => h.ti.rd 0 l ⟨h0, hf0, ho⟩
  have A0 : ∀ l, (inB (y 0).own l ∨ X.shared (y 0).role l) → PermP t 0 l := fun l ho => ho.elim (fun ⟨b, hb, ho⟩ => .of (P0 l b hb ho)) fun ho => h.ti.at_ 0 l ⟨h0, hf0, ho⟩
  have K0 : ∀ {i : Nat}, Knows t 0 i → Knows (t ++ #[x, z]) 0 i := fun k => k.app _
  refine ⟨dens, fun j hj hfj => ?_, T.anew ?_ ?_ ?_, fun k c b ha hb => h.seen k c b (noTouch_app hu ha) hb, fun op hop => ?_, fun c k hk => ?_⟩
  · rw [hdd]
    by_cases e : j = sz
    · subst e; rw [upd_same, hds, hdc]
    · rw [upd_ne _ _ e] at hfj ⊢
      by_cases e0 : j = 0
      · subst e0; rw [upd_same, hdt, hd]
      · rw [upd_ne _ _ e0]; exact h.deaf j (by omega) hfj
  · rintro g l ⟨h1, h2, b, h3, h4⟩
    by_cases e : g = sz
    · subst e; rw [upd_same] at h4
      exact (fork_perm hx hz hdt hds).1 (P0 l b h3 (o b (.inr h4)))
    · rw [upd_ne _ _ e] at h2 h4
      by_cases e0 : g = 0
      · subst e0; rw [upd_same] at h4
        exact fun i c hc e => K0 (P0 l b h3 (o b (.inl h4)) i c (noTouch_app hu hc) e)
      · rw [upd_ne _ _ e0] at h4
        exact T.own g l ⟨by omega, h2, b, h3, h4⟩
  · rintro g l ⟨h1, h2, h4⟩
    by_cases e : g = sz
    · subst e; rw [upd_same] at h4
      exact (fork_perm hx hz hdt hds).2.1 (W0 l (s l (.inr h4)))
    · rw [upd_ne _ _ e] at h2 h4
      by_cases e0 : g = 0
      · subst e0; rw [upd_same] at h4
        exact fun i c hc e w => K0 (W0 l (s l (.inl h4)) i c (noTouch_app hu hc) e w)
      · rw [upd_ne _ _ e0] at h4
        exact T.rd g l ⟨by omega, h2, h4⟩
  · rintro g l ⟨h1, h2, h4⟩
    by_cases e : g = sz
    · subst e; rw [upd_same] at h4
      exact (fork_perm hx hz hdt hds).2.2 (A0 l (a l (.inr h4)))
    · rw [upd_ne _ _ e] at h2 h4
      by_cases e0 : g = 0
      · subst e0; rw [upd_same] at h4
        exact fun i c hc e w => K0 (A0 l (a l (.inl h4)) i c (noTouch_app hu hc) e w)
      · rw [upd_ne _ _ e0] at h4
        exact T.at_ g l ⟨by omega, h2, h4⟩
  · rcases Array.mem_append.1 hop with hop | hop
    · have := h.gs op hop; omega
    · simp only [List.mem_toArray, List.mem_cons, List.not_mem_nil, or_false] at hop
      rcases hop with rfl | rfl
      · rw [hx.1]; omega
      · rw [hz.1]; omega
  · refine (h.norel c).app (u := #[x, z]) (fun op hop e => ?_) k hk
    simp only [List.mem_toArray, List.mem_cons, List.not_mem_nil, or_false] at hop
    rcases hop with rfl | rfl
    · rw [hx.2] at e; cases e
    · rw [hz.2] at e; cases e
end
end Go.Proofs.Ytgnhddnhcfmipaa.Eg
