/- The laws FnDeepOf, FnProgramOk: each answers true, for all lists of bytes. No condition. -/
import Derived.Test.YtaakgdjlbokopaaDrawR
import Derived.Test.YtaakgdjlbokopaaDp
namespace Go.Proofs.Ytaakgdjlbokopaa
open Go.RowKit
open Tw (Row)
set_option linter.unusedVariables false
set_option linter.unusedSimpArgs false

theorem w_X : Tw.wordB [88] = false := by decide
theorem w_FLR : Tw.wordB [70, 76, 82] = true := by decide
theorem alive_any (w : World) : Calls Try.prog 16 #[] w fun e w' => e = .returned (.bool true) ∧ w = w' := by
  have e1 := w_X
  have e2 := w_FLR
  go_enter Try.func16, Try.ntmps16
  go_wp2_with (go_at_call 22; refine (wordOk_impl _ _ (by decide)).mono ?_; rintro e w' ⟨rfl, rfl⟩)
  go_ret
  exact ⟨by simp [e1, e2], rfl⟩
theorem drawProgramOk {a : Option Addr} {len cap : Nat} {zs : List Int} {w : World} (h : IsRow w a len cap zs) : Calls Try.prog 28 #[.slice a len cap] w (TextPost w 192) := by
  have ho := open_any h
  have HO := Lib.hid ho; clear ho h
  go_enter Try.func28, Try.ntmps28
  go_wp2_with fail
  refine HO.out.mono ?_
  rintro e w1 ⟨R, a1, len1, cap1, rfl, hR, hr1, hB1⟩
  go_wp2_with fail
  refine (text_any (p := 0) _ hr1 (by omega) (by omega) (by omega) (by omega)).mono ?_
  rintro e w2 ⟨s, p', rfl, hs, hp0, hp1, hr2, hg2⟩
  have hB2 := below_drawn hB1 hR hg2
  go_wp2_with fail
  go_ret
  exact ⟨s, rfl, hs, hB2⟩
theorem drawLongOf {a : Option Addr} {len cap : Nat} {zs : List Int} {w : World} (h : IsRow w a len cap zs) : Calls Try.prog 25 #[.slice a len cap] w (TextPost w 192) := by
  have ho := open_any h
  have HO := Lib.hid ho; clear ho h
  go_enter Try.func25, Try.ntmps25
  go_wp2_with fail
  refine HO.out.mono ?_
  rintro e w1 ⟨R, a1, len1, cap1, rfl, hR, hr1, hB1⟩
  go_wp2_with fail
  refine (text_any (p := 0) _ hr1 (by omega) (by omega) (by omega) (by omega)).mono ?_
  rintro e w2 ⟨s, p', rfl, hs, hp0, hp1, hr2, hg2⟩
  have hB2 := below_drawn hB1 hR hg2
  go_wp2_with fail
  go_ret
  exact ⟨s, rfl, hs, hB2⟩
theorem drawWordFor {a : Option Addr} {len cap : Nat} {zs : List Int} {w : World} (h : IsRow w a len cap zs) : Calls Try.prog 20 #[.slice a len cap] w (TextPost w 192) := by
  have ho := open_any h
  have HO := Lib.hid ho; clear ho h
  go_enter Try.func20, Try.ntmps20
  go_wp2_with fail
  refine HO.out.mono ?_
  rintro e w1 ⟨R, a1, len1, cap1, rfl, hR, hr1, hB1⟩
  go_wp2_with fail
  refine (text_any (p := 0) _ hr1 (by omega) (by omega) (by omega) (by omega)).mono ?_
  rintro e w2 ⟨s, p', rfl, hs, hp0, hp1, hr2, hg2⟩
  have hB2 := below_drawn hB1 hR hg2
  go_wp2_with fail
  go_ret
  exact ⟨s, rfl, hs, hB2⟩
theorem drawDeepOf {a : Option Addr} {len cap : Nat} {zs : List Int} {w : World} (h : IsRow w a len cap zs) : Calls Try.prog 30 #[.slice a len cap] w (TextPost w 192) := by
  have ho := open_any h
  have HO := Lib.hid ho; clear ho h
  go_enter Try.func30, Try.ntmps30
  go_wp2_with fail
  refine HO.out.mono ?_
  rintro e w1 ⟨R, a1, len1, cap1, rfl, hR, hr1, hB1⟩
  go_wp2_with fail
  refine (text_any (p := 0) _ hr1 (by omega) (by omega) (by omega) (by omega)).mono ?_
  rintro e w2 ⟨s, p', rfl, hs, hp0, hp1, hr2, hg2⟩
  have hB2 := below_drawn hB1 hR hg2
  go_wp2_with fail
  go_ret
  exact ⟨s, rfl, hs, hB2⟩
theorem wf_i64 {n : Int} (h0 : -9223372036854775808 ≤ n) (h1 : n ≤ 9223372036854775807) : (Lit.int .i64 n).wf = true := by
  simp [Lit.wf, IntKind.min, IntKind.max, IntKind.signed, IntKind.bits]
  omega
theorem repT_list (s : ByteArray) (n : Int) : (repT s n).data.toList = UInt8.ofNat (48 + n).toNat :: 40 :: (s.data.toList ++ [41]) := by
  unfold repT
  rw [app_list, app_list, app_list, bs_list]
  rfl
/-- A program in brackets behind a digit is one. -/
theorem rep_prog {s : ByteArray} {n : Int} {r : Row} (h : Row.Prog s.data.toList r) (h2 : 2 ≤ n) (h9 : n ≤ 9) (hs : s.size + 3 ≤ 60) : Row.Prog (repT s n).data.toList (.times (UInt8.ofNat (48 + n).toNat) r .nil) := by
  refine ⟨by rw [bytes_len, repT_size]; exact hs, ?_, by rw [repT_list, h.2.2]; rfl⟩
  have hd : Row.isD (UInt8.ofNat (48 + n).toNat) = true := by
    unfold Row.isD
    rw [decide_eq_true_iff, UInt8.toNat_ofNat']
    omega
  simp [Row.wf, hd, h.2.1]
theorem repB_iff (s : ByteArray) (n : Int) : repB s n = true ↔ progV s = true ∧ 2 ≤ n ∧ n ≤ 9 ∧ s.size + 3 ≤ 60 := by
  unfold repB; rw [Bool.and_eq_true, decide_eq_true_iff]
theorem deep_word {s : ByteArray} {r : Row} (h : Row.Prog s.data.toList r) : Tw.wordB s.data.toList = decide ((Row.deep r : Int) = 0) := by
  have h60 : s.size ≤ 60 := by rw [← bytes_len]; exact h.1
  have hz := Row.deep_zero r h.2.1
  rw [← h.2.2] at hz
  rw [wordB_of, decide_eq_true (show s.size ≤ 256 by omega), Bool.and_true, Bool.eq_iff_iff, decide_eq_true_iff, ← hz]
  omega
set_option maxHeartbeats 2000000 in
set_option maxRecDepth 100000 in
theorem law_FnDeepOf (a : Option Addr) (len cap : Nat) (zs : List Int) (w : World) (h : IsRow w a len cap zs) : Calls Try.prog 11 #[.slice a len cap] w fun e w' => e = .returned (.bool true) ∧ Below w.heap.size w w' := by
  have hdr := drawDeepOf h
  have HDr := Lib.hid hdr; clear hdr h
  go_enter Try.func11, Try.ntmps11
  go_wp2_with fail
  · go_ret
    exact ⟨rfl, Below.refl _ _⟩
  · refine HDr.out.mono ?_
    rintro e w1 ⟨s, rfl, hs, hB1⟩
    have hsm : s.size ≤ maxLen := by unfold maxLen; omega
    have hi := fun w => deepOf_impl s w hsm
    have hsp := fun w => deepOf_spec s w hsm
    by_cases hpr : ∃ r, Row.Prog s.data.toList r
    · obtain ⟨r, hr⟩ := hpr
      rw [deepV_yes hr] at hi hsp
      have hlen := prog_len hr
      have hdl := deep_len r
      have h60 : s.size ≤ 60 := by rw [← bytes_len]; exact hr.1
      have hrp := fun w => repeatedOf_impl s 3 w (by omega) (wf_i64 (by omega) (by omega))
      unfold repPost at hrp
      have hwd := fun w => wordOk_impl s w hsm
      rw [deep_word hr] at hwd
      have hmore : repB s 3 = true → ∀ w, Calls Try.prog 24 #[.string (repT s 3)] w fun e w' => e = .returned (.int .i64 ((Row.deep r : Int) + 1)) ∧ Below w.heap.size w w' := fun hb w => by
        obtain ⟨-, h2, h9, h63⟩ := (repB_iff s 3).1 hb
        have hp := rep_prog hr h2 h9 h63
        have := deepOf_impl (repT s 3) w (by rw [repT_size]; unfold maxLen; omega)
        rw [deepV_yes hp] at this
        have e : (Row.deep (.times (UInt8.ofNat (48 + (3 : Int)).toNat) r .nil) : Int) = (Row.deep r : Int) + 1 := by simp only [Row.deep]; omega
        rw [e] at this
        exact this
      have hrt := repT_size s 3
      generalize repT s 3 = T at *
      have HI := Lib.hid hi; clear hi
      have HSp := Lib.hid hsp; clear hsp
      have HRp := Lib.hid hrp; clear hrp
      have HWd := Lib.hid hwd; clear hwd
      have HMo := Lib.hid hmore; clear hmore
      clear hr hsm
      generalize Row.deep r = d at *
      go_wp2_with fail
      refine (HI.out _).mono ?_
      rintro e w2 ⟨rfl, hb2⟩
      have hB2 := Below.up hB1 hB1.size hb2
      go_wp2_with fail
      refine (HSp.out _).mono ?_
      rintro e w3 ⟨rfl, rfl⟩
      go_wp2_with fail
      refine (HRp.out _).mono ?_
      rintro e w4 ⟨rfl, hb4⟩
      have hB4 := Below.up hB2 hB2.size hb4
      cases hb : repB s 3
      · simp only [Bool.false_eq_true, if_false]
        go_wp2_with fail
        refine (HWd.out _).mono ?_
        rintro e w5 ⟨rfl, rfl⟩
        by_cases hd0 : (d : Int) = 0
        · rw [decide_eq_true hd0]
          have hd0' : d = 0 := by omega
          subst hd0'
          go_wp2_with fail
          go_ret
          exact ⟨rfl, hB4⟩
        · rw [decide_eq_false hd0]
          have hdb : ((d : Int) == 0) = false := by simpa using hd0
          go_wp2_with fail
          go_ret
          exact ⟨rfl, hB4⟩
      · simp only [if_true]
        have HM := Lib.hid (HMo.out hb)
        go_wp2_with fail
        refine (HWd.out _).mono ?_
        rintro e w5 ⟨rfl, rfl⟩
        by_cases hd0 : (d : Int) = 0
        · rw [decide_eq_true hd0]
          have hd0' : d = 0 := by omega
          subst hd0'
          go_wp2_with fail
          refine (HM.out _).mono ?_
          rintro e w6 ⟨rfl, hb6⟩
          have hB6 := Below.up hB4 hB4.size hb6
          go_wp2_with fail
          go_ret
          exact ⟨rfl, hB6⟩
        · rw [decide_eq_false hd0]
          have hdb : ((d : Int) == 0) = false := by simpa using hd0
          go_wp2_with fail
          refine (HM.out _).mono ?_
          rintro e w6 ⟨rfl, hb6⟩
          have hB6 := Below.up hB4 hB4.size hb6
          go_wp2_with fail
          go_ret
          exact ⟨rfl, hB6⟩
    · rw [deepV_no hpr] at hi hsp
      have HI := Lib.hid hi; clear hi
      have HSp := Lib.hid hsp; clear hsp
      clear hpr hsm
      go_wp2_with fail
      refine (HI.out _).mono ?_
      rintro e w2 ⟨rfl, hb2⟩
      have hB2 := Below.up hB1 hB1.size hb2
      go_wp2_with fail
      refine (HSp.out _).mono ?_
      rintro e w3 ⟨rfl, rfl⟩
      go_wp2_with (go_at_call 16; refine (alive_any _).mono ?_; rintro e w' ⟨rfl, rfl⟩)
      go_ret
      exact ⟨rfl, hB2⟩
end Go.Proofs.Ytaakgdjlbokopaa
