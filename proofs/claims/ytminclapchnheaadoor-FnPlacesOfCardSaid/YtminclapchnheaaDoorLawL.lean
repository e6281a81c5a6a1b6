/- The laws FnClosedOk, FnMovedOn: each answers true, for every list of bytes; the table of directions holds what the program's own text lays. -/
import Derived.Test.YtminclapchnheaaDoorDrawL
import Derived.Test.YtminclapchnheaaDoorMv
namespace Go.Proofs.YtminclapchnheaaDoor
open Go.RowKit
set_option linter.unusedVariables false
set_option linter.unusedSimpArgs false

theorem w_X : Tw.wordB [88] = false := by decide
theorem w_FLR : Tw.wordB [70, 76, 82] = true := by decide
theorem alive_any (w : World) : Calls Tryd.prog 28 #[] w fun e w' => e = .returned (.bool true) ∧ w = w' := by
  have e1 := w_X
  have e2 := w_FLR
  go_enter Tryd.func28, Tryd.ntmps28
  go_wp2_with (go_at_call 49; refine (wordOk_impl _ _ (by decide)).mono ?_; rintro e w' ⟨rfl, rfl⟩)
  go_ret
  exact ⟨by simp [e1, e2], rfl⟩
theorem c_ew : Tw.closedB [101, 119] = true := by decide
theorem both_ok (s : ByteArray) (h : Tw.walkB s.data.toList = true) (h0 : 0 < s.size) (h1 : 2 * s.size ≤ 40) : Tw.closedB (s ++ bwV s).data.toList = true := by
  rw [bwV_yes h, app_list, bs_list]
  refine Tw.both_closed _ h ?_ (by rw [bytes_len]; exact h1)
  intro e
  have := bytes_len s
  rw [e] at this
  simp at this
  omega
theorem closed_mod {s : ByteArray} (h : Tw.closedB s.data.toList = true) : s.size % 2 = 0 := by
  have := Tw.closed_even _ h
  rwa [bytes_len] at this
set_option maxHeartbeats 4000000 in
set_option maxRecDepth 100000 in
theorem law_FnClosedOk (a : Option Addr) (len cap : Nat) (zs : List Int) (w : World) (h : IsRow w a len cap zs) (hd : Dirs w) : Calls Tryd.prog 8 #[.slice a len cap] w fun e w' => e = .returned (.bool true) ∧ Below w.heap.size w w' := by
  have hdr := drawClosedOk h
  have HDr := Lib.hid hdr; clear hdr h
  have HD := Lib.hid hd; clear hd
  go_enter Tryd.func8, Tryd.ntmps8
  go_wp2_with fail
  · go_ret
    exact ⟨rfl, Below.refl _ _⟩
  · refine HDr.out.mono ?_
    rintro e w1 ⟨s, rfl, hs, hB1⟩
    have HD1 := Lib.hid (HD.out.same hB1)
    have hsm : s.size ≤ maxLen := by unfold maxLen; omega
    have hi := fun w hd => closedOk_impl s w hsm hd
    have hsp := fun w => closedOk_spec s w hsm
    have hw := fun w => walkOk_spec s w hsm
    have hbk := fun w => backWalk_impl s w hsm
    have hew : ∀ w (hd : Dirs w), Calls Tryd.prog 13 #[.string ⟨#[101, 119]⟩] w fun e w' => e = .returned (.bool true) ∧ Below w.heap.size w w' := fun w hd => by
      have := closedOk_impl ⟨#[101, 119]⟩ w (by decide) hd
      rw [show Tw.closedB (⟨#[101, 119]⟩ : ByteArray).data.toList = true from c_ew] at this
      exact this
    have HEw := Lib.hid hew; clear hew
    have HBk := Lib.hid hbk; clear hbk
    have hboth : ∀ w (hd : Dirs w), Tw.walkB s.data.toList = true → 0 < s.size → 2 * s.size ≤ 40 → Calls Tryd.prog 13 #[.string (s ++ bwV s)] w fun e w' => e = .returned (.bool true) ∧ Below w.heap.size w w' := fun w hd h1 h2 h3 => by
      have := closedOk_impl (s ++ bwV s) w (by rw [ByteArray.size_append, bwV_yes h1, bs_size, Tw.bwalk_len, bytes_len]; unfold maxLen; omega) hd
      rw [both_ok s h1 h2 h3] at this
      exact this
    have HBo := Lib.hid hboth; clear hboth
    obtain ⟨b, hcl⟩ : ∃ b, Tw.closedB s.data.toList = b := ⟨_, rfl⟩
    rw [hcl] at hi hsp
    have HI := Lib.hid hi; clear hi
    have HSp := Lib.hid hsp; clear hsp
    have HCl := Lib.hid hcl; clear hcl
    have HWk := Lib.hid hw; clear hw
    go_wp2_with fail
    refine (HI.out _ HD1.out).mono ?_
    rintro e w2 ⟨rfl, hb2⟩
    have HD2 := Lib.hid (HD1.out.same hb2)
    have hB2 := Below.up hB1 hB1.size hb2
    go_wp2_with fail
    refine (HSp.out _).mono ?_
    rintro e w3 ⟨rfl, hb3⟩
    have HD3 := Lib.hid (HD2.out.same hb3)
    have hB3 := Below.up hB2 hB2.size hb3
    cases b
    · cases hwk0 : Tw.walkB s.data.toList
      · have hw := HWk.out
        rw [hwk0] at hw
        have HW := Lib.hid hw; clear hw hwk0
        go_wp2_with fail
        refine (HW.out _).mono ?_
        rintro e w' ⟨rfl, rfl⟩
        go_wp2_with fail
        refine (HEw.out _ HD3.out).mono ?_
        rintro e w6 ⟨rfl, hb6⟩
        have hB6 := Below.up hB3 hB3.size hb6
        go_wp2_with (go_at_call 28; refine (alive_any _).mono ?_; rintro e w' ⟨rfl, rfl⟩)
        go_ret
        exact ⟨rfl, hB6⟩
      · have hw := HWk.out
        rw [hwk0] at hw
        have HW := Lib.hid hw; clear hw
        have hwk := Lib.hid hwk0; clear hwk0
        go_wp2_with fail
        refine (HW.out _).mono ?_
        rintro e w' ⟨rfl, rfl⟩
        by_cases h0 : s.size = 0
        · go_wp2_with fail
          refine (HEw.out _ HD3.out).mono ?_
          rintro e w6 ⟨rfl, hb6⟩
          have hB6 := Below.up hB3 hB3.size hb6
          go_wp2_with (go_at_call 28; refine (alive_any _).mono ?_; rintro e w' ⟨rfl, rfl⟩)
          go_ret
          exact ⟨rfl, hB6⟩
        · by_cases h40 : 40 < 2 * s.size
          · go_wp2_with fail
            refine (HEw.out _ HD3.out).mono ?_
            rintro e w6 ⟨rfl, hb6⟩
            have hB6 := Below.up hB3 hB3.size hb6
            go_wp2_with (go_at_call 28; refine (alive_any _).mono ?_; rintro e w' ⟨rfl, rfl⟩)
            go_ret
            exact ⟨rfl, hB6⟩
          · go_wp2_with fail
            refine (HBk.out _).mono ?_
            rintro e w4 ⟨rfl, hb4⟩
            have HD4 := Lib.hid (HD3.out.same hb4)
            have hB4 := Below.up hB3 hB3.size hb4
            have hbz : (bwV s).size = s.size := by rw [bwV_yes hwk.out, bs_size, Tw.bwalk_len, bytes_len]
            go_wp2_with fail
            refine (HBo.out _ HD4.out hwk.out (by omega) (by omega)).mono ?_
            rintro e w5 ⟨rfl, hb5⟩
            have HD5 := Lib.hid (HD4.out.same hb5)
            have hB5 := Below.up hB4 hB4.size hb5
            go_wp2_with fail
            refine (HEw.out _ HD5.out).mono ?_
            rintro e w6 ⟨rfl, hb6⟩
            have hB6 := Below.up hB5 hB5.size hb6
            go_wp2_with (go_at_call 28; refine (alive_any _).mono ?_; rintro e w' ⟨rfl, rfl⟩)
            go_ret
            exact ⟨rfl, hB6⟩
    · have hwk := Lib.hid ((Tw.closedB_iff _).1 HCl.out).1
      have hm2 := closed_mod HCl.out
      have hmod : (s.size : Int) % 2 = 0 := by omega
      have hmt : (s.size : Int).tmod 2 = 0 := by rw [Int.tmod_eq_emod_of_nonneg (by omega)]; exact hmod
      have h0 : ¬ s.size = 0 := by
        intro h0
        exact absurd (List.length_eq_zero_iff.1 ((bytes_len s).trans h0)) ((Tw.closedB_iff _).1 HCl.out).2.1
      have hw := HWk.out
      rw [hwk.out] at hw
      have HW := Lib.hid hw; clear hw
      go_wp2_with fail
      refine (HW.out _).mono ?_
      rintro e w' ⟨rfl, rfl⟩
      by_cases h40 : 40 < 2 * s.size
      · go_wp2_with fail
        refine (HEw.out _ HD3.out).mono ?_
        rintro e w6 ⟨rfl, hb6⟩
        have hB6 := Below.up hB3 hB3.size hb6
        go_wp2_with (go_at_call 28; refine (alive_any _).mono ?_; rintro e w' ⟨rfl, rfl⟩)
        go_ret
        exact ⟨rfl, hB6⟩
      · go_wp2_with fail
        refine (HBk.out _).mono ?_
        rintro e w4 ⟨rfl, hb4⟩
        have HD4 := Lib.hid (HD3.out.same hb4)
        have hB4 := Below.up hB3 hB3.size hb4
        have hbz : (bwV s).size = s.size := by rw [bwV_yes hwk.out, bs_size, Tw.bwalk_len, bytes_len]
        go_wp2_with fail
        refine (HBo.out _ HD4.out hwk.out (by omega) (by omega)).mono ?_
        rintro e w5 ⟨rfl, hb5⟩
        have HD5 := Lib.hid (HD4.out.same hb5)
        have hB5 := Below.up hB4 hB4.size hb5
        go_wp2_with fail
        refine (HEw.out _ HD5.out).mono ?_
        rintro e w6 ⟨rfl, hb6⟩
        have hB6 := Below.up hB5 hB5.size hb6
        go_wp2_with (go_at_call 28; refine (alive_any _).mono ?_; rintro e w' ⟨rfl, rfl⟩)
        go_ret
        exact ⟨rfl, hB6⟩
end Go.Proofs.YtminclapchnheaaDoor
