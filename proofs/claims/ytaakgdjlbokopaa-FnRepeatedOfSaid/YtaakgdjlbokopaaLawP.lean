/- The law FnLongOf answers true, for all lists of bytes. No condition. -/
import Derived.Test.YtaakgdjlbokopaaLawN
import Derived.Test.YtaakgdjlbokopaaWg
namespace Go.Proofs.Ytaakgdjlbokopaa
open Go.RowKit
open Tw (Row)
set_option linter.unusedVariables false
set_option linter.unusedSimpArgs false
theorem told_long {s : ByteArray} {r : Row} (h : Row.Prog s.data.toList r) : wdB s = decide ((Row.cap (Row.size r) : Int) ≤ 256) := by
  unfold wdB; rw [longV_yes h]; apply decide_eq_decide.2; omega
theorem told_size {s : ByteArray} {r : Row} (h : Row.Prog s.data.toList r) (hc : Row.cap (Row.size r) ≤ 256) : (wdT s).size = Row.cap (Row.size r) := by
  have h2 : Row.size r ≤ 256 := by unfold Row.cap at hc; omega
  rw [wdT_yes h h2, bs_size, Row.word_len]
  unfold Row.cap; omega
theorem twice_long (r : Row) : (Row.cap (Row.size (.times (UInt8.ofNat (48 + (2 : Int)).toNat) r .nil)) : Int) = min 1000000 (2 * (Row.cap (Row.size r) : Int)) := by
  have e : Row.size (.times (UInt8.ofNat (48 + (2 : Int)).toNat) r .nil) = 2 * Row.size r := by
    show Row.num (UInt8.ofNat (48 + (2 : Int)).toNat) * Row.size r + 0 = _
    rw [show Row.num (UInt8.ofNat (48 + (2 : Int)).toNat) = 2 by decide, Nat.add_zero]
  rw [e]
  unfold Row.cap
  omega
set_option maxHeartbeats 4000000 in
set_option maxRecDepth 100000 in
theorem law_FnLongOf (a : Option Addr) (len cap : Nat) (zs : List Int) (w : World) (h : IsRow w a len cap zs) : Calls Try.prog 8 #[.slice a len cap] w fun e w' => e = .returned (.bool true) ∧ Below w.heap.size w w' := by
  have hdr := drawLongOf h
  have HDr := Lib.hid hdr; clear hdr h
  go_enter Try.func8, Try.ntmps8
  go_wp2_with fail
  · go_ret
    exact ⟨rfl, Below.refl _ _⟩
  · refine HDr.out.mono ?_
    rintro e w1 ⟨s, rfl, hs, hB1⟩
    have hsm : s.size ≤ maxLen := by unfold maxLen; omega
    have hi := fun w => longOf_impl s w hsm
    have hsp := fun w => longOf_spec s w hsm
    by_cases hpr : ∃ r, Row.Prog s.data.toList r
    · obtain ⟨r, hr⟩ := hpr
      rw [longV_yes hr] at hi hsp
      have h60 : s.size ≤ 60 := by rw [← bytes_len]; exact hr.1
      have hrp := fun w => repeatedOf_impl s 2 w (by omega) (wf_i64 (by omega) (by omega))
      unfold repPost at hrp
      have hwd := fun w => wordFor_impl s w hsm
      unfold ToldPost at hwd
      rw [told_long hr] at hwd
      have hts := told_size hr
      have hmore : repB s 2 = true → ∀ w, Calls Try.prog 26 #[.string (repT s 2)] w fun e w' => e = .returned (.int .i64 (min 1000000 (2 * (Row.cap (Row.size r) : Int)))) ∧ Below w.heap.size w w' := fun hb w => by
        obtain ⟨-, h2, h9, h63⟩ := (repB_iff s 2).1 hb
        have hp := rep_prog hr h2 h9 h63
        have := longOf_impl (repT s 2) w (by rw [repT_size]; unfold maxLen; omega)
        rw [longV_yes hp, twice_long] at this
        exact this
      have hcl := cap_le (Row.size r)
      generalize repT s 2 = T at *
      generalize wdT s = U at *
      have HI := Lib.hid hi; clear hi
      have HSp := Lib.hid hsp; clear hsp
      have HRp := Lib.hid hrp; clear hrp
      have HWd := Lib.hid hwd; clear hwd
      have HMo := Lib.hid hmore; clear hmore
      clear hr hsm
      generalize Row.cap (Row.size r) = c at *
      go_wp2_with fail
      refine (HI.out _).mono ?_
      rintro e w2 ⟨rfl, hb2⟩
      have hB2 := Below.up hB1 hB1.size hb2
      go_wp2_with fail
      refine (HSp.out _).mono ?_
      rintro e w3 ⟨rfl, hb3⟩
      have hB3 := Below.up hB2 hB2.size hb3
      go_wp2_with fail
      refine (HWd.out _).mono ?_
      rintro e w4 ⟨rfl, hb4⟩
      have hB4 := Below.up hB3 hB3.size hb4
      go_wp2_with fail
      refine (HRp.out _).mono ?_
      rintro e w5 ⟨rfl, hb5⟩
      have hB5 := Below.up hB4 hB4.size hb5
      have hw2 : IntKind.i64.wrap (2 * (c : Int)) = 2 * (c : Int) := IntWalk.i64_in _ (by omega)
      by_cases hc : c ≤ 256
      · have hus := hts hc
        have hci : (c : Int) ≤ 256 := by omega
        rw [decide_eq_true hci]
        clear hts
        cases hb : repB s 2
        · simp only [Bool.false_eq_true, if_false]
          go_wp2_with fail
          go_ret
          exact ⟨rfl, hB5⟩
        · simp only [if_true]
          have hm := HMo.out hb
          generalize hy : min 1000000 (2 * (c : Int)) = y at hm
          have hmn : (y == min 1000000 (2 * (c : Int))) = true := by rw [hy]; exact beq_self_eq_true _
          have HMN := Lib.hid hmn
          have HM := Lib.hid hm
          clear HMo hm hmn hy
          go_wp2_with fail
          refine (HM.out _).mono ?_
          rintro e w6 ⟨rfl, hb6⟩
          have hB6 := Below.up hB5 hB5.size hb6
          go_wp2_with fail
          go_ret
          exact ⟨congrArg (fun b => Ending.returned (.bool b)) HMN.out, hB6⟩
      · have hci : ¬ (c : Int) ≤ 256 := by omega
        rw [decide_eq_false hci]
        clear hts
        cases hb : repB s 2
        · simp only [Bool.false_eq_true, if_false]
          go_wp2_with fail
          go_ret
          exact ⟨rfl, hB5⟩
        · simp only [if_true]
          have hm := HMo.out hb
          generalize hy : min 1000000 (2 * (c : Int)) = y at hm
          have hmn : (y == min 1000000 (2 * (c : Int))) = true := by rw [hy]; exact beq_self_eq_true _
          have HMN := Lib.hid hmn
          have HM := Lib.hid hm
          clear HMo hm hmn hy
          go_wp2_with fail
          refine (HM.out _).mono ?_
          rintro e w6 ⟨rfl, hb6⟩
          have hB6 := Below.up hB5 hB5.size hb6
          go_wp2_with fail
          go_ret
          exact ⟨congrArg (fun b => Ending.returned (.bool b)) HMN.out, hB6⟩
    · rw [longV_no hpr] at hi hsp
      have HI := Lib.hid hi; clear hi
      have HSp := Lib.hid hsp; clear hsp
      clear hpr hsm
      go_wp2_with fail
      refine (HI.out _).mono ?_
      rintro e w2 ⟨rfl, hb2⟩
      have hB2 := Below.up hB1 hB1.size hb2
      go_wp2_with fail
      refine (HSp.out _).mono ?_
      rintro e w3 ⟨rfl, hb3⟩
      have hB3 := Below.up hB2 hB2.size hb3
      go_wp2_with (go_at_call 16; refine (alive_any _).mono ?_; rintro e w' ⟨rfl, rfl⟩)
      go_ret
      exact ⟨rfl, hB3⟩
end Go.Proofs.Ytaakgdjlbokopaa
