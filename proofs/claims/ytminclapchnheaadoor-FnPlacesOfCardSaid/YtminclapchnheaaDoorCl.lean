/- ClosedOk of the program; the law FnExactClosedOk answers true. Condition: the table of directions holds what the program's text lays. -/
import Derived.Test.YtminclapchnheaaDoorEq
namespace Go.Proofs.YtminclapchnheaaDoor
open Go.RowKit
set_option linter.unusedVariables false
set_option linter.unusedSimpArgs false

theorem closedB_pe {s : ByteArray} (hb : Tw.walkB s.data.toList = true) : Tw.closedB s.data.toList = decide (0 < s.size ∧ (pe s s.size).x = 0 ∧ (pe s s.size).y = 0) := by
  unfold Tw.closedB pe
  rw [hb, take_all, Bool.true_and, Bool.eq_iff_iff, Bool.and_eq_true, decide_eq_true_iff, decide_eq_true_iff]
  have : (!s.data.toList.isEmpty) = true ↔ 0 < s.size := by
    rw [← bytes_len]; cases s.data.toList <;> simp
  rw [this]
theorem empty_of {s : ByteArray} (h : s.size = 0) : s = ⟨#[]⟩ := by
  obtain ⟨d⟩ := s
  have : d.size = 0 := h
  congr
  exact Array.eq_empty_of_size_eq_zero this
set_option maxHeartbeats 2000000 in
theorem closedOk_impl (s : ByteArray) (w : World) (hs : s.size ≤ maxLen) (hD : Dirs w) :
    Calls Tryd.prog 13 #[.string s] w fun e w' => e = .returned (.bool (Tw.closedB s.data.toList)) ∧ Below w.heap.size w w' := by
  have hc := fun w => walkOk_impl s w hs
  cases hb : Tw.walkB s.data.toList
  · rw [closedB_not hb]
    rw [hb] at hc
    have HC := Lib.hid hc; clear hc hb
    go_enter Tryd.func13, Tryd.ntmps13
    go_wp2_with (go_at_call 32; refine (HC.out _).mono ?_; rintro e w' ⟨rfl, rfl⟩)
    go_ret
    exact ⟨rfl, Below.refl _ _⟩
  · have hcl := closedB_pe hb
    have hlen := walkB_len hb
    have he := endOf_impl s w hD hlen (walkB_all hb)
    unfold pv at he
    rw [hb] at hc
    have HC := Lib.hid hc; clear hc hb
    rw [hcl]
    clear hcl
    by_cases h0 : s.size = 0
    · have hE : s.toList.isEmpty = true := by rw [ByteArray.toList_eq, ← List.length_eq_zero_iff.trans List.isEmpty_iff.symm, bytes_len]; exact h0
      clear he
      go_enter Tryd.func13, Tryd.ntmps13
      go_wp2_with (go_at_call 32; refine (HC.out _).mono ?_; rintro e w' ⟨rfl, rfl⟩)
      go_ret
      exact ⟨ret_bool (by simp; intro h; omega), Below.refl _ _⟩
    · have hE : s.toList.isEmpty = false := by
        rw [ByteArray.toList_eq, ← Bool.not_eq_true, ← List.length_eq_zero_iff.trans List.isEmpty_iff.symm, bytes_len]; exact h0
      generalize pe s s.size = p at *
      by_cases hx : p.x = 0
      · rw [hx] at he
        by_cases hy : p.y = 0
        · rw [hy] at he
          have HE := Lib.hid he; clear he
          go_enter Tryd.func13, Tryd.ntmps13
          go_wp2_with (first
            | (go_at_call 32; refine (HC.out _).mono ?_; rintro e w' ⟨rfl, rfl⟩)
            | (go_at_call 34; refine HE.out.mono ?_; rintro e w1 ⟨rfl, hb1⟩))
          go_ret
          exact ⟨ret_bool (by simp [hx, hy]; omega), hb1⟩
        · have HE := Lib.hid he; clear he
          go_enter Tryd.func13, Tryd.ntmps13
          go_wp2_with (first
            | (go_at_call 32; refine (HC.out _).mono ?_; rintro e w' ⟨rfl, rfl⟩)
            | (go_at_call 34; refine HE.out.mono ?_; rintro e w1 ⟨rfl, hb1⟩))
          go_ret
          exact ⟨ret_bool (by simp [hx, hy]), hb1⟩
      · have HE := Lib.hid he; clear he
        go_enter Tryd.func13, Tryd.ntmps13
        go_wp2_with (first
          | (go_at_call 32; refine (HC.out _).mono ?_; rintro e w' ⟨rfl, rfl⟩)
          | (go_at_call 34; refine HE.out.mono ?_; rintro e w1 ⟨rfl, hb1⟩))
        go_ret
        exact ⟨ret_bool (by simp [hx]), hb1⟩
theorem law_FnExactClosedOk (s : ByteArray) (w : World) (hs : s.size ≤ maxLen) (hd : Dirs w) : Calls Tryd.prog 3 #[.string s] w fun e w' => e = .returned (.bool true) ∧ Below w.heap.size w w' := by
  have h1 := fun w => closedOk_spec s w hs
  have h2 := fun w hd => closedOk_impl s w hs hd
  generalize Tw.closedB s.data.toList = b at h1 h2
  have H1 := Lib.hid h1; clear h1
  have H2 := Lib.hid h2; clear h2
  have HD := Lib.hid hd; clear hd
  unfold maxLen at hs
  go_enter Tryd.func3, Tryd.ntmps3
  go_wp2_with fail
  · go_ret
    exact ⟨rfl, Below.refl _ _⟩
  · refine (H1.out _).mono ?_
    rintro e w2 ⟨rfl, hb2⟩
    have HD2 := Lib.hid (HD.out.same hb2)
    go_wp2_with fail
    refine (H2.out _ HD2.out).mono ?_
    rintro e w4 ⟨rfl, hb4⟩
    have hB4 := Below.up hb2 hb2.size hb4
    go_wp2_with fail
    all_goals
      go_ret
      exact ⟨rfl, hB4⟩
end Go.Proofs.YtminclapchnheaaDoor
