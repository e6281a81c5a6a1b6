/- DriftOf of the program and of the reference tell the same; the laws FnExactWalkedOf and FnExactDriftOf answer true. Condition: the table of directions holds what the program's text lays. -/
import Derived.Test.YtdkhibkebakepaaDoorFrom
namespace Go.Proofs.YtdkhibkebakepaaDoor
open Go.RowKit
set_option linter.unusedVariables false
set_option linter.unusedSimpArgs false

theorem tok_of' {t : Tw.Tu} (h : Near t 10000) : Tw.tokB t = true := by
  unfold Tw.tokB; rw [decide_eq_true_iff]; exact h
/-- A word is told from home. -/
theorem home_told {s : ByteArray} (hb : Tw.wordB s.data.toList = true) : wfB ⟨0, 0, 0⟩ s = true ∧ wfT ⟨0, 0, 0⟩ s = Tw.run ⟨0, 0, 0⟩ s.data.toList ∧ Near (Tw.run ⟨0, 0, 0⟩ s.data.toList) 256 := by
  have n0 : Near ⟨0, 0, 0⟩ 0 := by unfold Near; simp only; omega
  have hl := wordB_len hb
  have nT : Near (Tw.run ⟨0, 0, 0⟩ s.data.toList) 256 := (n0.run _).mono (by rw [bytes_len]; omega)
  have h : wfB ⟨0, 0, 0⟩ s = true := by unfold wfB; rw [tok_of' (n0.mono (by omega)), hb, tok_of' (nT.mono (by omega))]; rfl
  exact ⟨h, by unfold wfT; rw [h]; rfl, nT⟩
theorem home_not {s : ByteArray} (hb : Tw.wordB s.data.toList = false) : wfB ⟨0, 0, 0⟩ s = false ∧ wfT ⟨0, 0, 0⟩ s = ⟨0, 0, 0⟩ := by
  have h : wfB ⟨0, 0, 0⟩ s = false := by unfold wfB; rw [hb]; simp
  exact ⟨h, by unfold wfT; rw [h]; rfl⟩

set_option maxHeartbeats 1000000 in
theorem law_FnExactWalkedOf (s : ByteArray) (w : World) (hs : s.size ≤ maxLen) (hd : Dirs w) :
    Calls Tryd.prog 3 #[.string s] w fun e w' => e = .returned (.bool true) ∧ Below w.heap.size w w' := by
  have h1 := fun w => walkedOf_spec s w hs
  have h2 := fun w hd => walkedOf_impl s w hd hs
  have H1 := Lib.hid h1; clear h1
  have H2 := Lib.hid h2; clear h2
  have HD := Lib.hid hd; clear hd
  generalize wfT ⟨0, 0, 0⟩ s = T at H1 H2
  generalize wfB ⟨0, 0, 0⟩ s = b at H1 H2
  unfold maxLen at hs
  go_enter Tryd.func3, Tryd.ntmps3
  go_wp2_with fail
  · go_ret
    exact ⟨rfl, by go_grown⟩
  · refine (H1.out _).mono ?_
    rintro e w2 ⟨rfl, hb2⟩
    have s2 := Cells3.new w2 (.int .i64 T.x) (.int .i64 T.y) (.int .i64 T.k) 23
    have hB2 := hb2.alloc hb2.size (.cells #[.int .i64 T.x, .int .i64 T.y, .int .i64 T.k] 23)
    clear hb2
    go_wp2_with fail
    refine (H2.out _ (Dirs.below hB2 HD.out.lt HD.out)).mono ?_
    rintro e w4 ⟨rfl, hb4⟩
    have s4 := s2.below hb4 (by exact s2.lt)
    have hB4 := Below.up hB2 hB2.size hb4
    have hl4 := s4.lt
    clear hb4 s2 hB2
    obtain ⟨⟨ta, tb, tc⟩, td, te, tf⟩ := s4
    go_wp2_with fail
    refine (eqTurtle_same T.x T.y T.k _).mono ?_
    rintro e w5 ⟨rfl, hb5⟩
    have hB5 := Below.up (hB4.alloc hB4.size (.cells #[.int .i64 T.x, .int .i64 T.y, .int .i64 T.k] 23)) (by have := hB4.size; simp; omega) hb5
    clear hb5
    go_wp2_with fail
    go_ret
    exact ⟨rfl, hB5⟩

theorem turnWordOk_any (s : ByteArray) (w : World) (hs : s.size ≤ maxLen) :
    Calls Tryd.prog 33 #[.string s] w fun e w' => e = .returned (.bool (Tw.wordB s.data.toList && decide (s.size ≤ 64))) ∧ w = w' := by
  have hc := wordOk_impl s w hs
  cases hb : Tw.wordB s.data.toList
  all_goals
    rw [hb] at hc
    have HC := Lib.hid hc; clear hc hb
    go_enter Tryd.func33, Tryd.ntmps33
    go_wp2_with (go_at_call 42; refine HC.out.mono ?_; rintro e w' ⟨rfl, rfl⟩)
    go_ret
    exact ⟨ret_bool (by simp; try omega), rfl⟩
/-- May the word be walked again and again? -/
def twB (s : ByteArray) : Bool := Tw.wordB s.data.toList && decide (s.size ≤ 64)
theorem turnWordOk_tw (s : ByteArray) (w : World) (hs : s.size ≤ maxLen) :
    Calls Tryd.prog 33 #[.string s] w fun e w' => e = .returned (.bool (twB s)) ∧ w = w' := turnWordOk_any s w hs
theorem twB_word {s : ByteArray} (h : twB s = true) : Tw.wordB s.data.toList = true ∧ s.size ≤ 64 := by
  unfold twB at h; rw [Bool.and_eq_true, decide_eq_true_iff] at h; exact h
theorem twB_not {s : ByteArray} (h : twB s = false) : Tw.wordB s.data.toList = false ∨ 64 < s.size := by
  unfold twB at h
  cases hb : Tw.wordB s.data.toList
  · exact .inl rfl
  · rw [hb, Bool.true_and, decide_eq_false_iff_not] at h; exact .inr (by omega)
/-- Is DriftOf told? -/
def driftB (s : ByteArray) : Bool := twB s && decide ((Tw.run ⟨0, 0, 0⟩ s.data.toList).k = 0)
def driftV (s : ByteArray) : Value := if driftB s then .tuple #[.int .i64 (Tw.run ⟨0, 0, 0⟩ s.data.toList).x, .int .i64 (Tw.run ⟨0, 0, 0⟩ s.data.toList).y, .bool true] else .tuple #[.int .i64 0, .int .i64 0, .bool false]
theorem drift_yes {s : ByteArray} (h : twB s = true) (hk : (Tw.run ⟨0, 0, 0⟩ s.data.toList).k = 0) : driftV s = .tuple #[.int .i64 (Tw.run ⟨0, 0, 0⟩ s.data.toList).x, .int .i64 (Tw.run ⟨0, 0, 0⟩ s.data.toList).y, .bool true] := by
  unfold driftV driftB; rw [h, decide_eq_true hk]; rfl
theorem drift_no {s : ByteArray} (h : twB s = false ∨ (Tw.run ⟨0, 0, 0⟩ s.data.toList).k ≠ 0) : driftV s = .tuple #[.int .i64 0, .int .i64 0, .bool false] := by
  unfold driftV driftB
  rcases h with h | h
  · rw [h]; rfl
  · rw [decide_eq_false h, Bool.and_false]; rfl
theorem ret3 {a b c d e f : Value} (h : a = d) (h' : b = e) (h'' : c = f) : Ending.returned (.tuple #[a, b, c]) = .returned (.tuple #[d, e, f]) := by rw [h, h', h'']
set_option maxHeartbeats 1000000 in
theorem driftOf_impl (s : ByteArray) (w : World) (hd : Dirs w) (hs : s.size ≤ maxLen) :
    Calls Tryd.prog 18 #[.string s] w fun e w' => e = .returned (driftV s) ∧ Below w.heap.size w w' := by
  have hc := turnWordOk_tw s w hs
  cases hb : twB s
  · rw [drift_no (.inl hb)]
    rw [hb] at hc
    have HC := Lib.hid hc; clear hc hb hd
    go_enter Tryd.func18, Tryd.ntmps18
    go_wp2_with (go_at_call 33; refine HC.out.mono ?_; rintro e w' ⟨rfl, rfl⟩)
    go_ret3
    exact ⟨rfl, Below.refl _ _⟩
  · have hh := twB_word hb
    obtain ⟨f1, f2, nT⟩ := home_told hh.1
    have hw := walkedOf_impl s w hd hs
    rw [f1, f2] at hw
    rw [hb] at hc
    have HC := Lib.hid hc; clear hc
    have hy := fun hk => drift_yes (s := s) hb hk
    have hn := fun hk => drift_no (s := s) (.inr hk)
    have HY := Lib.hid hy; have HN := Lib.hid hn; clear hy hn hb hh f1 f2 hd
    generalize Tw.run ⟨0, 0, 0⟩ s.data.toList = T at hw nT HY HN
    have HW := Lib.hid hw; clear hw
    obtain ⟨x0, x1, y0, y1, k0, k1⟩ := nT
    go_enter Tryd.func18, Tryd.ntmps18
    go_wp2_with (first
      | (go_at_call 33; refine HC.out.mono ?_; rintro e w' ⟨rfl, rfl⟩)
      | (go_at_call 13; refine HW.out.mono ?_; rintro e w1 ⟨rfl, hb1⟩))
    · rename_i hk
      go_ret3
      exact ⟨by rw [HN.out (bne_iff_ne.mp hk)]; exact ret3 rfl rfl rfl, hb1.alloc hb1.size _⟩
    · rename_i hq K hk
      have hk' : T.k = 0 := by
        by_cases h : T.k = 0
        · exact h
        · exact absurd (bne_iff_ne.mpr h) (by rw [hq]; decide)
      have hyy := HY.out hk'
      have HYY := Lib.hid hyy
      clear hyy HY HN
      go_region
      show K _ _
      refine hk _ _ ?_
      go_wp2_with (fail)
      go_ret3
      exact ⟨by rw [HYY.out, hk']; exact ret3 rfl rfl rfl, (hb1.alloc hb1.size _).drew⟩
set_option maxHeartbeats 1000000 in
theorem driftOf_spec (s : ByteArray) (w : World) (hs : s.size ≤ maxLen) :
    Calls Tryd.prog 17 #[.string s] w fun e w' => e = .returned (driftV s) ∧ Below w.heap.size w w' := by
  have hw := walkedOf_spec s w hs
  cases hb : Tw.wordB s.data.toList
  · obtain ⟨f1, f2⟩ := home_not hb
    have ht : twB s = false := by unfold twB; rw [hb]; rfl
    rw [drift_no (.inl ht)]
    rw [f1, f2] at hw
    simp only at hw
    have HW := Lib.hid hw; clear hw hb ht f1 f2
    go_enter Tryd.func17, Tryd.ntmps17
    go_wp2_with (go_at_call 12; refine HW.out.mono ?_; rintro e w1 ⟨rfl, hb1⟩)
    go_ret3
    exact ⟨rfl, hb1.alloc hb1.size _⟩
  · obtain ⟨f1, f2, nT⟩ := home_told hb
    rw [f1, f2] at hw
    by_cases hl : s.size ≤ 64
    · have ht : twB s = true := by unfold twB; rw [hb, decide_eq_true hl]; rfl
      by_cases hk : (Tw.run ⟨0, 0, 0⟩ s.data.toList).k = 0
      · rw [drift_yes ht hk]
        rw [hk] at hw
        generalize Tw.run ⟨0, 0, 0⟩ s.data.toList = T at hw nT
        have HW := Lib.hid hw; clear hw hb f1 f2 ht hk
        obtain ⟨x0, x1, y0, y1, k0, k1⟩ := nT
        unfold maxLen at hs
        go_enter Tryd.func17, Tryd.ntmps17
        go_wp2_with (go_at_call 12; refine HW.out.mono ?_; rintro e w1 ⟨rfl, hb1⟩)
        go_region
        go_wp2_with (fail)
        go_ret3
        exact ⟨rfl, (hb1.alloc hb1.size _).drew⟩
      · rw [drift_no (.inr hk)]
        generalize Tw.run ⟨0, 0, 0⟩ s.data.toList = T at hw nT hk
        have HW := Lib.hid hw; clear hw hb f1 f2 ht
        obtain ⟨x0, x1, y0, y1, k0, k1⟩ := nT
        unfold maxLen at hs
        go_enter Tryd.func17, Tryd.ntmps17
        go_wp2_with (go_at_call 12; refine HW.out.mono ?_; rintro e w1 ⟨rfl, hb1⟩)
        · go_ret3
          exact ⟨rfl, hb1.alloc hb1.size _⟩
        · rename_i hq _ _
          exact absurd (bne_iff_ne.mpr hk) (by rw [hq.2]; decide)
    · have ht : twB s = false := by unfold twB; rw [hb, decide_eq_false hl]; rfl
      rw [drift_no (.inl ht)]
      generalize Tw.run ⟨0, 0, 0⟩ s.data.toList = T at hw nT
      have HW := Lib.hid hw; clear hw hb f1 f2 ht
      obtain ⟨x0, x1, y0, y1, k0, k1⟩ := nT
      unfold maxLen at hs
      go_enter Tryd.func17, Tryd.ntmps17
      go_wp2_with (go_at_call 12; refine HW.out.mono ?_; rintro e w1 ⟨rfl, hb1⟩)
      go_ret3
      exact ⟨rfl, hb1.alloc hb1.size _⟩
set_option maxHeartbeats 1000000 in
theorem law_FnExactDriftOf (s : ByteArray) (w : World) (hs : s.size ≤ maxLen) (hd : Dirs w) :
    Calls Tryd.prog 5 #[.string s] w fun e w' => e = .returned (.bool true) ∧ Below w.heap.size w w' := by
  have hV : ∃ x y : Int, ∃ b, driftV s = .tuple #[.int .i64 x, .int .i64 y, .bool b] := by
    unfold driftV; split
    · exact ⟨_, _, _, rfl⟩
    · exact ⟨_, _, _, rfl⟩
  obtain ⟨x, y, b, hV⟩ := hV
  have h1 := fun w => driftOf_spec s w hs
  have h2 := fun w hd => driftOf_impl s w hd hs
  rw [hV] at h1 h2
  have H1 := Lib.hid h1; clear h1
  have H2 := Lib.hid h2; clear h2 hV
  have HD := Lib.hid hd; clear hd
  unfold maxLen at hs
  go_enter Tryd.func5, Tryd.ntmps5
  go_wp2_with fail
  · go_ret
    exact ⟨rfl, by go_grown⟩
  · refine (H1.out _).mono ?_
    rintro e w2 ⟨rfl, hb2⟩
    go_wp2_with fail
    refine (H2.out _ (Dirs.below hb2 HD.out.lt HD.out)).mono ?_
    rintro e w4 ⟨rfl, hb4⟩
    have hB4 := Below.up hb2 hb2.size hb4
    cases b
    all_goals
      go_wp2_with fail
      go_ret
      exact ⟨rfl, hB4⟩
end Go.Proofs.YtdkhibkebakepaaDoor
