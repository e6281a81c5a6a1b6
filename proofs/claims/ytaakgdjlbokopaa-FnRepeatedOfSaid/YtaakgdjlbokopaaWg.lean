/- WordFor of the reference; the law FnExactWordFor answers true. No condition. -/
import Derived.Test.YtaakgdjlbokopaaWf
namespace Go.Proofs.Ytaakgdjlbokopaa
open Go.RowKit
open Tw (Row)
set_option linter.unusedVariables false
set_option linter.unusedSimpArgs false
theorem wordFor_spec (s : ByteArray) (w : World) (hs : s.size ≤ maxLen) : Calls Try.prog 21 #[.string s] w (ToldPost s (wdT s) (wdB s) w) := by
  have hp := fun w => programOk_spec s w hs
  unfold ToldPost
  cases hpv : progV s
  · rw [hpv] at hp
    have HP2 := Lib.hid hp
    have hno : ¬ ∃ r, Row.Prog s.data.toList r := fun h => by rw [(progV_iff s).2 h] at hpv; cases hpv
    have HT := Lib.hid (wdT_none hno)
    have HB := Lib.hid (wdB_no hno)
    clear hpv hp hno
    go_enter Try.func21, Try.ntmps21
    go_wp2_with (go_at_call 19; refine (HP2.out _).mono ?_; rintro e w' ⟨rfl, rfl⟩)
    go_ret2
    exact ⟨by rw [HT.out, HB.out]; rfl, Below.refl _ _⟩
  · rw [hpv] at hp
    have HP2 := Lib.hid hp
    obtain ⟨r, hr⟩ := (progV_iff s).1 hpv
    have h60 : s.size ≤ 60 := by rw [← bytes_len]; exact hr.1
    have hl := fun w => l2Long_any _ r (Nat.lt_succ_self _) s w hr.2.2 hr.2.1 h60
    unfold LongPost at hl
    have HL := Lib.hid hl
    clear hl
    by_cases hsz : Row.size r ≤ 256
    · have HT := Lib.hid (wdT_yes hr hsz)
      have HB := Lib.hid (wdB_yes hr hsz)
      have HW := Lib.hid (fun w => l2Word_any _ r (Nat.lt_succ_self _) s w hr.2.2 hr.2.1 h60 hsz)
      have hc := cap_256 hsz
      clear hpv hp hr
      generalize Row.cap (Row.size r) = x at *
      go_enter Try.func21, Try.ntmps21
      go_wp2_with (go_at_call 19; refine (HP2.out _).mono ?_; rintro e w' ⟨rfl, rfl⟩)
      refine (HL.out _).mono ?_
      rintro e w2 ⟨rfl, m, rfl⟩
      go_wp2_with fail
      refine (HW.out _).mono ?_
      rintro e w3 ⟨rfl, rfl⟩
      go_wp2_with fail
      go_ret2
      exact ⟨by rw [HT.out, HB.out]; rfl, below_drewN (Below.refl _ _) _⟩
    · have HT := Lib.hid (wdT_big hr (by omega))
      have HB := Lib.hid (wdB_big hr (by omega))
      have hc := cap_big (show 256 < Row.size r by omega)
      have hcl := cap_le (Row.size r)
      clear hpv hp hr
      generalize Row.cap (Row.size r) = x at *
      go_enter Try.func21, Try.ntmps21
      go_wp2_with (go_at_call 19; refine (HP2.out _).mono ?_; rintro e w' ⟨rfl, rfl⟩)
      refine (HL.out _).mono ?_
      rintro e w2 ⟨rfl, m, rfl⟩
      go_wp2_with fail
      go_ret2
      exact ⟨by rw [HT.out, HB.out]; rfl, below_drewN (Below.refl _ _) _⟩
theorem law_FnExactWordFor (s : ByteArray) (w : World) (hs : s.size ≤ maxLen) : Calls Try.prog 12 #[.string s] w fun e w' => e = .returned (.bool true) ∧ Below w.heap.size w w' := by
  have h1 := fun w => wordFor_spec s w hs
  have h2 := fun w => wordFor_impl s w hs
  unfold ToldPost at h1 h2
  generalize wdT s = t at h1 h2
  generalize wdB s = b at h1 h2
  have H1 := Lib.hid h1; clear h1
  have H2 := Lib.hid h2; clear h2
  unfold maxLen at hs
  go_enter Try.func12, Try.ntmps12
  go_wp2_with fail
  · go_ret
    exact ⟨rfl, Below.refl _ _⟩
  · refine (H1.out _).mono ?_
    rintro e w2 ⟨rfl, hb2⟩
    go_wp2_with fail
    refine (H2.out _).mono ?_
    rintro e w4 ⟨rfl, hb4⟩
    have hB4 := Below.up hb2 hb2.size hb4
    go_wp2_with fail
    all_goals
      go_ret
      exact ⟨rfl, hB4⟩
end Go.Proofs.Ytaakgdjlbokopaa
