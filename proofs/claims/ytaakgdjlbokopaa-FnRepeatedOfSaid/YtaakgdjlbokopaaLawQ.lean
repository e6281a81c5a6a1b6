/- The law FnWordFor answers true, for all lists of bytes. No condition. -/
import Derived.Test.YtaakgdjlbokopaaLawP
import Derived.Test.YtaakgdjlbokopaaLawO
namespace Go.Proofs.Ytaakgdjlbokopaa
open Go.RowKit
open Tw (Row)
set_option linter.unusedVariables false
set_option linter.unusedSimpArgs false
theorem told_yes {s : ByteArray} (h : wdB s = true) : ∃ r, Row.Prog s.data.toList r ∧ Row.size r ≤ 256 := by
  by_cases hp : ∃ r, Row.Prog s.data.toList r
  · obtain ⟨r, hr⟩ := hp
    refine ⟨r, hr, ?_⟩
    by_cases hs : Row.size r ≤ 256
    · exact hs
    · rw [wdB_big hr (by omega)] at h; cases h
  · rw [wdB_no hp] at h; cases h
theorem told_no {s : ByteArray} (h : wdB s = false) : wdT s = ⟨#[]⟩ := by
  by_cases hp : ∃ r, Row.Prog s.data.toList r
  · obtain ⟨r, hr⟩ := hp
    by_cases hs : Row.size r ≤ 256
    · rw [wdB_yes hr hs] at h; cases h
    · rw [wdT_big hr (by omega)]; rfl
  · rw [wdT_none hp]; rfl
theorem word_all_w (r : Row) (h : Row.wf r = true) : (Row.word r).all Tw.isW = true := Row.word_all r h
/-- The word of a program is a word. -/
theorem told_word {s : ByteArray} (h : wdB s = true) : Tw.wordB (wdT s).data.toList = true := by
  obtain ⟨r, hr, hs⟩ := told_yes h
  rw [wdT_yes hr hs, wordB_of, bs_list, bs_size, Row.word_len, word_all_w r hr.2.1, decide_eq_true hs]; rfl
theorem told_small {s : ByteArray} (h : wdB s = true) : (wdT s).size ≤ 256 := by
  obtain ⟨r, hr, hs⟩ := told_yes h
  rw [wdT_yes hr hs, bs_size, Row.word_len]; exact hs
/-- A short word is a program of its own. -/
theorem told_own {s : ByteArray} (h : wdB s = true) (h60 : (wdT s).size ≤ 60) : wdB (wdT s) = true ∧ wdT (wdT s) = wdT s := by
  obtain ⟨r, hr, hs⟩ := told_yes h
  have e := wdT_yes hr hs
  have hl : (Row.word r).length ≤ 60 := by rw [← bs_size, ← e]; exact h60
  have hp : Row.Prog (wdT s).data.toList (Row.ofWord (Row.word r)) := by
    rw [e, bs_list]
    exact ⟨hl, by rw [Row.ofWord_wf]; exact word_all_w r hr.2.1, (Row.ofWord_text _).symm⟩
  have hz : Row.size (Row.ofWord (Row.word r)) ≤ 256 := by rw [Row.ofWord_size]; omega
  exact ⟨wdB_yes hp hz, by rw [wdT_yes hp hz, Row.ofWord_word, e]⟩
/-- A program behind itself. -/
theorem told_both {s : ByteArray} (h : wdB s = true) (h2 : wdB (s ++ s) = true) : wdT (s ++ s) = wdT s ++ wdT s := by
  obtain ⟨r, hr, hs⟩ := told_yes h
  obtain ⟨q, hq, hqs⟩ := told_yes h2
  have hp : Row.Prog (s ++ s).data.toList (Row.app r r) := ⟨hq.1, by rw [Row.wf_app, hr.2.1]; rfl, by rw [app_list, hr.2.2, Row.text_app]⟩
  have e := Row.prog_one hp hq
  rw [wdT_yes hp (by rw [e]; exact hqs), wdT_yes hr hs, Row.word_app, bs_append]
set_option maxHeartbeats 4000000 in
set_option maxRecDepth 100000 in
theorem law_FnWordFor (a : Option Addr) (len cap : Nat) (zs : List Int) (w : World) (h : IsRow w a len cap zs) : Calls Try.prog 5 #[.slice a len cap] w fun e w' => e = .returned (.bool true) ∧ Below w.heap.size w w' := by
  have hdr := drawWordFor h
  have HDr := Lib.hid hdr; clear hdr h
  go_enter Try.func5, Try.ntmps5
  go_wp2_with fail
  · go_ret
    exact ⟨rfl, Below.refl _ _⟩
  · refine HDr.out.mono ?_
    rintro e w1 ⟨s, rfl, hs, hB1⟩
    have hsm : s.size ≤ maxLen := by unfold maxLen; omega
    have hi := fun w => wordFor_impl s w hsm
    have hsp := fun w => wordFor_spec s w hsm
    have hss := fun w => wordFor_impl (s ++ s) w (by rw [ByteArray.size_append]; unfold maxLen; omega)
    unfold ToldPost at hi hsp hss
    cases hb : wdB s
    · rw [hb, told_no hb] at hi hsp
      have HI := Lib.hid hi; clear hi
      have HSp := Lib.hid hsp; clear hsp
      clear hsm hss hb
      go_wp2_with fail
      refine (HI.out _).mono ?_
      rintro e w2 ⟨rfl, hb2⟩
      have hB2 := Below.up hB1 hB1.size hb2
      go_wp2_with fail
      refine (HSp.out _).mono ?_
      rintro e w3 ⟨rfl, hb3⟩
      have hB3 := Below.up hB2 hB2.size hb3
      go_wp2_with (go_at_call 16; refine (alive_any _).mono ?_; rintro e w' ⟨rfl, rfl⟩)
      go_ret
      exact ⟨rfl, hB3⟩
    · rw [hb] at hi hsp
      have hts := told_small hb
      have hown := told_own hb
      have hboth := told_both hb
      have hw := fun w => wordOk_impl (wdT s) w (by unfold maxLen; omega)
      rw [told_word hb] at hw
      have ht := fun w => wordFor_impl (wdT s) w (by unfold maxLen; omega)
      unfold ToldPost at ht
      generalize wdT (s ++ s) = U at *
      generalize wdB (s ++ s) = ub at *
      generalize wdT (wdT s) = V at *
      generalize wdB (wdT s) = vb at *
      generalize wdT s = T at *
      have HI := Lib.hid hi; clear hi
      have HSp := Lib.hid hsp; clear hsp
      have HSS := Lib.hid hss; clear hss
      have HW := Lib.hid hw; clear hw
      have HT := Lib.hid ht; clear ht
      clear hsm hb
      go_wp2_with fail
      refine (HI.out _).mono ?_
      rintro e w2 ⟨rfl, hb2⟩
      have hB2 := Below.up hB1 hB1.size hb2
      go_wp2_with fail
      refine (HSp.out _).mono ?_
      rintro e w3 ⟨rfl, hb3⟩
      have hB3 := Below.up hB2 hB2.size hb3
      go_wp2_with fail
      refine (HT.out _).mono ?_
      rintro e w4 ⟨rfl, hb4⟩
      have hB4 := Below.up hB3 hB3.size hb4
      go_wp2_with fail
      refine (HSS.out _).mono ?_
      rintro e w5 ⟨rfl, hb5⟩
      have hB5 := Below.up hB4 hB4.size hb5
      go_wp2_with fail
      refine (HW.out _).mono ?_
      rintro e w6 ⟨rfl, rfl⟩
      by_cases h60 : T.size ≤ 60
      · obtain ⟨rfl, rfl⟩ := hown h60
        clear hown
        cases ub
        · clear hboth
          go_wp2_with (go_at_call 16; refine (alive_any _).mono ?_; rintro e w' ⟨rfl, rfl⟩)
          go_ret
          exact ⟨rfl, hB5⟩
        · obtain rfl := hboth rfl
          clear hboth
          go_wp2_with (go_at_call 16; refine (alive_any _).mono ?_; rintro e w' ⟨rfl, rfl⟩)
          go_ret
          exact ⟨rfl, hB5⟩
      · clear hown
        cases ub
        · clear hboth
          go_wp2_with (go_at_call 16; refine (alive_any _).mono ?_; rintro e w' ⟨rfl, rfl⟩)
          go_ret
          exact ⟨rfl, hB5⟩
        · obtain rfl := hboth rfl
          clear hboth
          go_wp2_with (go_at_call 16; refine (alive_any _).mono ?_; rintro e w' ⟨rfl, rfl⟩)
          go_ret
          exact ⟨rfl, hB5⟩
end Go.Proofs.Ytaakgdjlbokopaa
