/- Sensor: the document's Median, walked. -/
import Derived.Test.YtgpapbpkcggolaaMd0
namespace Go.Proofs.Ytgpapbpkcggolaa
open Go.RowKit Go.BigFrame

theorem cnt_snoc {l : List Int} {i : Nat} (d : Int) (hi : i < l.length) : cntle d (l.take (i + 1)) = cntle d (l.take i) + if l[i] ≤ d then 1 else 0 := by
  rw [List.take_add_one, List.getElem?_eq_getElem hi]
  unfold cntle
  rw [List.countP_append]
  simp [List.countP_cons]
set_option maxRecDepth 100000 in
set_option maxHeartbeats 2000000 in
theorem rmed_any (l : List Int) (A : Option Addr) (c n : Nat) (w : World) (h : I8s w A l) (hn : l.length = n) (hb : ∀ x ∈ l, -128 ≤ x ∧ x ≤ 127) :
    Calls Try.prog 10 #[.slice A n c] w fun e w' => e = .returned (.tuple #[.int .i8 (med l).1, .int .i64 (med l).2]) ∧ w = w' := by
  have hle := h.le
  by_cases h0 : n = 0
  · have e : med l = (0, 1) := by unfold med; rw [if_pos (by omega)]
    rw [e]
    replace hn := Lib.hid hn
    subst h0
    clear h e
    go_enter Try.func10, Try.ntmps10
    go_wp2
    go_ret2
    exact ⟨rfl, rfl⟩
  · by_cases h4 : 4096 < n
    · have e : med l = (0, 1) := by unfold med; rw [if_pos (by omega)]
      rw [e]
      have g0 : ¬ (n : Int) < 1 := by omega
      have g1 : (4096 : Int) < (n : Int) := by omega
      replace hn := Lib.hid hn
      clear h e
      go_enter Try.func10, Try.ntmps10
      go_wp2
      go_ret2
      exact ⟨rfl, rfl⟩
    · have hm : Hid (med l = ((srt l).getD ((l.length - 1) / 2) 0, 0)) := Lib.hid (by unfold med; rw [if_neg (by omega)])
      have hc := Lib.hid fun (k : Nat) (hk : k < l.length) => h.at_ hk
      have hex := Lib.hid fun (q : ∀ e, -128 ≤ e → e < 128 → 2 * cntle e l < l.length) => (by
        have h1 := med_ex (l := l) (by omega)
        have h2 := srt_mem (l := l) (k := (l.length - 1) / 2) (by omega)
        have h3 := hb _ h2
        have := q _ h3.1 (by omega)
        omega : False)
      have hml := Lib.hid fun (d : Int) (q1 : l.length ≤ 2 * cntle d l) (q2 : ∀ e, -128 ≤ e → e < d → 2 * cntle e l < l.length) => med_least (by omega) q1 q2 (fun x hx => (hb x hx).1)
      have hcl := Lib.hid fun (d : Int) => cnt_le d l
      have g0 : ¬ (n : Int) < 1 := by omega
      have g1 : ¬ (4096 : Int) < (n : Int) := by omega
      replace hn := Lib.hid hn
      replace hb := Lib.hid hb
      clear h
      go_enter Try.func10, Try.ntmps10
      go_upto_region 4 with fail
      go_loopw [4, 5, 6] (fun s4 _ _ wr => ∃ d : Int, -128 ≤ d ∧ d ≤ 128 ∧ s4 = .int .i64 d ∧ Hid (∀ e, -128 ≤ e → e < d → 2 * cntle e l < l.length) ∧ w = wr) (fun s4 _ _ _ => (128 - intOf s4).toNat)
      case atStart => exact ⟨-128, by omega, by omega, rfl, Lib.hid (fun e h1 h2 => by omega), rfl⟩
      case round =>
        obtain ⟨d, hd1, hd2, rfl, hI, rfl⟩ := hrel
        by_cases hd : d = 128
        · subst hd
          exact (hex.out hI.out).elim
        · have hd3 : d ≤ 127 := by omega
          clear hex
          go_upto_region 8 with fail
          go_loopw [5, 6] (fun s5 s6 wr => ∃ i : Nat, i ≤ n ∧ s6 = .int .i64 i ∧ s5 = .int .i64 (cntle d (l.take i) : Nat) ∧ w = wr) (fun _ s6 _ => n - (intOf s6).toNat)
          case atStart => exact ⟨0, by omega, rfl, rfl, rfl⟩
          case round =>
            obtain ⟨i, hi, rfl, rfl, rfl⟩ := hrel
            by_cases hin : i = n
            · have ht : l.take i = l := List.take_of_length_le (by rw [hn.out]; omega)
              rw [ht]
              have hk := hcl.out d
              rw [hn.out] at hk
              by_cases hK : n ≤ 2 * cntle d l
              · have hR := Lib.hid (hml.out d (by rw [hn.out]; exact hK) hI.out)
                have hK' : (n : Int) ≤ 2 * (cntle d l : Nat) := by omega
                generalize cntle d l = k at *
                clear hI hml hc hcl ht
                subst hin
                go_wp2
                go_ret2
                rw [hm.out, hR.out]
                exact ⟨rfl, rfl⟩
              · have hI' : Hid (∀ e, -128 ≤ e → e < d + 1 → 2 * cntle e l < l.length) := Lib.hid (fun e h1 h2 => by
                  by_cases he : e = d
                  · rw [he, hn.out]; omega
                  · exact hI.out e h1 (by omega))
                have hK' : ¬ (n : Int) ≤ 2 * (cntle d l : Nat) := by omega
                generalize cntle d l = k at *
                clear hI hml hc hcl ht
                have hin' := hin.symm
                subst hin'
                go_wp2
                go_roundw
                case rel => exact ⟨d + 1, by omega, by omega, by go_num, hI', by first | exact rfl | exact trivial⟩
                case measure => first | (simp [intOf]; done) | (simp [intOf]; omega)
            · have hlt : i < n := by omega
              have hil : i < l.length := by rw [hn.out]; exact hlt
              obtain ⟨b, o, rfl, _, c0⟩ := hc.out i hil
              have hsn := cnt_snoc d hil
              have hkk := cnt_le d (l.take i)
              rw [List.length_take] at hkk
              have hkn : cntle d (l.take i) ≤ n := by omega
              have hxb := hb.out _ (List.getElem_mem hil)
              replace hsn := Lib.hid hsn
              clear hc hkk
              generalize l[i] = x at *
              generalize hkx : cntle d (l.take i) = k at *
              replace hkx := Lib.hid hkx
              by_cases hxd : x ≤ d
              · have e1 : Hid (cntle d (l.take (i + 1)) = k + 1) := Lib.hid (by rw [hsn.out, if_pos hxd])
                clear hsn
                go_wp2
                go_roundw
                case rel => exact ⟨i + 1, by omega, by go_num, by rw [e1.out]; go_num, by first | exact rfl | exact trivial⟩
                case measure => first | (simp [intOf]; done) | (simp [intOf]; omega)
              · have e1 : Hid (cntle d (l.take (i + 1)) = k) := Lib.hid (by rw [hsn.out, if_neg hxd]; rfl)
                clear hsn
                go_wp2
                go_roundw
                case rel => exact ⟨i + 1, by omega, by go_num, by rw [e1.out], by first | exact rfl | exact trivial⟩
                case measure => first | (simp [intOf]; done) | (simp [intOf]; omega)
end Go.Proofs.Ytgpapbpkcggolaa
