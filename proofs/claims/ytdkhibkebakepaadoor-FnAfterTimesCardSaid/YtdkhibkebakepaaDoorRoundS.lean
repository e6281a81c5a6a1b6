/- RoundsOf and AfterTimes of the reference; the laws FnExactRoundsOf and FnExactAfterTimes answer true. Condition: the table of directions holds what the program's text lays. -/
import Derived.Test.YtdkhibkebakepaaDoorRounds
namespace Go.Proofs.YtdkhibkebakepaaDoor
open Go.RowKit
set_option linter.unusedVariables false
set_option linter.unusedSimpArgs false

theorem tt_l1 (s : ByteArray) (k : Nat) (w : World) (hn : Near (tt s k) 1000000) (hw : s.data.toList.all Tw.isW = true) (hs : s.size ≤ 1000) :
    Calls Tryd.prog 32 #[.agg #[.int .i64 (tt s k).x, .int .i64 (tt s k).y, .int .i64 (tt s k).k], .string s] w fun e w' => e = .returned (.agg #[.int .i64 (tt s (k + 1)).x, .int .i64 (tt s (k + 1)).y, .int .i64 (tt s (k + 1)).k]) ∧ Below w.heap.size w w' := l1Walk_any (tt s k) s w hn hw hs

theorem l1In_any (a b c : Int) (w : World) : Calls Tryd.prog 35 #[.int .i64 a, .int .i64 b, .int .i64 c] w fun e w' => e = .returned (.bool (decide (b ≤ a ∧ a ≤ c))) ∧ w = w' := by
  go_enter Tryd.func35, Tryd.ntmps35
  go_wp2
  all_goals (go_ret; exact ⟨ret_bool (by simp <;> omega), rfl⟩)

set_option maxHeartbeats 2000000 in
theorem roundsOf_spec (s : ByteArray) (w : World) (hs : s.size ≤ maxLen) :
    Calls Tryd.prog 15 #[.string s] w fun e w' => e = .returned (roundsV s) ∧ Below w.heap.size w w' := by
  have hc := fun w => wordOk_spec s w hs
  cases hb : Tw.wordB s.data.toList
  · have ht : twB s = false := by unfold twB; rw [hb]; rfl
    rw [roundsV_no (.inl ht)]
    rw [hb] at hc
    have HC := Lib.hid hc; clear hc hb ht
    go_enter Tryd.func15, Tryd.ntmps15
    go_wp2_with (go_at_call 31; refine (HC.out _).mono ?_; rintro e w' ⟨rfl, rfl⟩)
    go_ret2
    exact ⟨rfl, Below.refl _ _⟩
  · rw [hb] at hc
    unfold maxLen at hs
    by_cases hl : s.size ≤ 64
    · have ht : twB s = true := by unfold twB; rw [hb, decide_eq_true hl]; rfl
      have hV1 := fun n h => roundsV_yes (n := n) ht h
      have hV0 := fun h => roundsV_no (s := s) (.inr h)
      have HV1 := Lib.hid hV1; have HV0 := Lib.hid hV0; clear hV1 hV0
      have hw := wordB_all hb
      have HW := Lib.hid hw; clear hw
      have HC := Lib.hid hc; clear hc hb ht
      go_enter Tryd.func15, Tryd.ntmps15
      go_wp2_with (go_at_call 31; refine (HC.out _).mono ?_; rintro e w' ⟨rfl, rfl⟩)
      go_loopw [5] (fun i wr => ∃ k : Nat, k ≤ 4 ∧ i = .int .i64 ((k : Int) + 1) ∧ Hid (noneYet s k) ∧ TCell wr w.heap.size (tt s k) ∧ Below w.heap.size w wr) (fun i _ => 5 - (intOf i).toNat)
      case atStart =>
        exact ⟨0, by omega, rfl, Lib.hid (fun j h1 h2 => by omega), Cells3.new w _ _ _ _, by go_grown⟩
      case round =>
        obtain ⟨k, hk, rfl, hnn, ht, hB⟩ := hrel
        have hnr : Near (tt s k) 1000000 := (tt_near s hl k).mono (by omega)
        have HN := Lib.hid hnr; clear hnr
        have HT := Lib.hid ht
        have hlt := Cells3.lt ht
        obtain ⟨⟨ta, tb, tc⟩, td, te, tf⟩ := ht
        by_cases hk4 : k < 4
        · go_wp2_with (go_at_call 32; refine (tt_l1 s k _ HN.out HW.out (by omega)).mono ?_; rintro e w1 ⟨rfl, hb1⟩; obtain ⟨⟨ta1, tb1, tc1⟩, td1, te1, tf1⟩ := Cells3.below (by exact HT.out) hb1 (by exact hlt))
          all_goals have hB1 := Below.up hB hB.size hb1
          all_goals first
            | (have hh : Tw.homeB (tt s (k + 1)) = true := by
                 unfold Tw.homeB; rw [decide_eq_true_iff]; exact ⟨by assumption, by assumption, by assumption⟩
               have hv := HV1.out ((k : Int) + 1) (rounds_first hk4 hnn.out hh) (by omega)
               go_ret2
               exact ⟨by rw [hv]; exact ret2 rfl rfl, ((hB1.setCell (by simp) _).setCell (by simp) _).setCell (by simp) _⟩)
            | (have hno : Tw.homeB (tt s (k + 1)) = false := by
                 unfold Tw.homeB; rw [decide_eq_false_iff_not]; rintro ⟨a, b, c⟩; contradiction
               refine ⟨⟨k + 1, by omega, by go_num, Lib.hid (noneYet_succ hnn.out hno), ?_, ((hB1.setCell (by simp) _).setCell (by simp) _).setCell (by simp) _⟩, by simp [intOf]; omega⟩
               refine ⟨⟨?_, ?_, ?_⟩, ?_, ?_, ?_⟩ <;> simp [go_sem, ta1, tb1, tc1, td1, te1, tf1, *])
        · have e4 : k = 4 := by omega
          have hn4 := hnn.out
          rw [e4] at hn4
          have hv := HV0.out (rounds_none hn4)
          go_wp2_with fail
          go_ret2
          exact ⟨by rw [hv]; exact ret2 rfl rfl, hB⟩
    · have ht : twB s = false := by unfold twB; rw [hb, decide_eq_false hl]; rfl
      rw [roundsV_no (.inl ht)]
      have HC := Lib.hid hc; clear hc hb ht
      go_enter Tryd.func15, Tryd.ntmps15
      go_wp2_with (go_at_call 31; refine (HC.out _).mono ?_; rintro e w' ⟨rfl, rfl⟩)
      go_ret2
      exact ⟨rfl, Below.refl _ _⟩
set_option maxHeartbeats 1000000 in
theorem law_FnExactRoundsOf (s : ByteArray) (w : World) (hs : s.size ≤ maxLen) (hd : Dirs w) :
    Calls Tryd.prog 4 #[.string s] w fun e w' => e = .returned (.bool true) ∧ Below w.heap.size w w' := by
  have h1 := fun w => roundsOf_spec s w hs
  have h2 := fun w hd => roundsOf_impl s w hd hs
  unfold roundsV at h1 h2
  generalize roundsN s = n at h1 h2
  generalize roundsB s = b at h1 h2
  have H1 := Lib.hid h1; clear h1
  have H2 := Lib.hid h2; clear h2
  have HD := Lib.hid hd; clear hd
  unfold maxLen at hs
  go_enter Tryd.func4, Tryd.ntmps4
  go_wp2_with fail
  · go_ret
    exact ⟨rfl, by go_grown⟩
  · refine (H1.out _).mono ?_
    rintro e w2 ⟨rfl, hb2⟩
    go_wp2_with fail
    refine (H2.out _ (Dirs.below hb2 HD.out.lt HD.out)).mono ?_
    rintro e w4 ⟨rfl, hb4⟩
    have hB4 := Below.up hb2 hb2.size hb4
    cases b
    all_goals
      go_wp2_with fail
      go_ret
      exact ⟨rfl, hB4⟩
theorem afterT_near {s : ByteArray} {n : Int} : Near (afterT s n) 10000 := by
  unfold afterT
  split
  · rename_i h
    unfold afterB at h; rw [Bool.and_eq_true, decide_eq_true_iff] at h
    exact (tt_near s (twB_word h.1).2 _).mono (by omega)
  · unfold Near; simp only; omega
set_option maxRecDepth 100000 in
set_option maxHeartbeats 2000000 in
theorem afterTimes_spec (s : ByteArray) (n : Int) (w : World) (hs : s.size ≤ maxLen) (hn : (Lit.int .i64 n).wf = true) :
    Calls Tryd.prog 19 #[.string s, .int .i64 n] w fun e w' => e = .returned (.tuple #[.agg #[.int .i64 (afterT s n).x, .int .i64 (afterT s n).y, .int .i64 (afterT s n).k], .bool (afterB s n)]) ∧ Below w.heap.size w w' := by
  have hc := fun w => wordOk_spec s w hs
  cases hb : Tw.wordB s.data.toList
  · have ht : twB s = false := by unfold twB; rw [hb]; rfl
    obtain ⟨f1, f2⟩ := after_no (n := n) (.inl ht)
    rw [f1, f2]
    rw [hb] at hc
    have HC := Lib.hid hc; clear hc hb ht f1 f2
    go_enter Tryd.func19, Tryd.ntmps19
    go_wp2_with (go_at_call 31; refine (HC.out _).mono ?_; rintro e w' ⟨rfl, rfl⟩)
    refine bodyPost_ret (v := .tuple #[.agg #[.int .i64 0, .int .i64 0, .int .i64 0], .bool false]) (by simp [results, Tryd.results19, Tryd.f19, go_sem]) rfl ⟨rfl, by go_grown⟩
  · rw [hb] at hc
    unfold maxLen at hs
    by_cases hl : s.size ≤ 64
    · have ht : twB s = true := by unfold twB; rw [hb, decide_eq_true hl]; rfl
      by_cases hnn : 0 ≤ n ∧ n ≤ 150
      · obtain ⟨f1, f2⟩ := after_yes (n := n) ht hnn
        rw [f1, f2]
        obtain ⟨m, rfl⟩ : ∃ m : Nat, n = m := ⟨n.toNat, by omega⟩
        simp only [Int.toNat_natCast]
        obtain ⟨hn0, hn1⟩ := hnn
        have hw := wordB_all hb
        have HW := Lib.hid hw; clear hw
        have HC := Lib.hid hc; clear hc hb ht f1 f2
        go_enter Tryd.func19, Tryd.ntmps19
        go_wp2_with (first
          | (go_at_call 31; refine (HC.out _).mono ?_; rintro e w' ⟨rfl, rfl⟩)
          | (go_at_call 35; refine (l1In_any _ _ _ _).mono ?_; rintro e w' ⟨rfl, rfl⟩))
        go_loopw [7] (fun i wr => ∃ k : Nat, k ≤ m ∧ i = .int .i64 (k : Int) ∧ TCell wr (w.heap.size + 1) (tt s k) ∧ Cells3 wr w.heap.size (.int .i64 0) (.int .i64 0) (.int .i64 0) ∧ Below w.heap.size w wr) (fun i _ => m - (intOf i).toNat)
        case atStart =>
          exact ⟨0, by omega, rfl, (by have := Cells3.new (w.alloc (.cells #[.int .i64 0, .int .i64 0, .int .i64 0] 23)) (.int .i64 0) (.int .i64 0) (.int .i64 0) 23; rwa [World.size_alloc] at this), (Cells3.new w _ _ _ _).alloc _, by go_grown⟩
        case round =>
          obtain ⟨k, hk, rfl, ht, hr, hB⟩ := hrel
          have hnr : Near (tt s k) 1000000 := (tt_near s hl k).mono (by omega)
          have HN := Lib.hid hnr; clear hnr
          have HT := Lib.hid ht
          have HR := Lib.hid hr
          have hlt := Cells3.lt ht
          obtain ⟨⟨ta, tb, tc⟩, td, te, tf⟩ := ht
          by_cases hkm : k < m
          · go_wp2_with (go_at_call 32; refine (tt_l1 s k _ HN.out HW.out (by omega)).mono ?_; rintro e w1 ⟨rfl, hb1⟩; obtain ⟨⟨ta1, tb1, tc1⟩, td1, te1, tf1⟩ := Cells3.below (by exact HT.out) hb1 (by exact hlt))
            have hB1 := Below.up hB hB.size hb1
            have hT1 : TCell w1 (w.heap.size + 1) (tt s k) := HT.out.below hb1 hlt
            have hR1 := HR.out.below hb1 (by omega)
            exact ⟨⟨k + 1, by omega, by go_num, hT1.store _ _ _, ((hR1.other (by simp) _).other (by simp) _).other (by simp) _, ((hB1.setCell (by simp) _).setCell (by simp) _).setCell (by simp) _⟩, by simp [intOf]; omega⟩
          · have e : k = m := by omega
            subst e
            obtain ⟨⟨ra, rb, rc⟩, rd, re, rf⟩ := hr
            go_wp2_with fail
            refine bodyPost_ret (v := .tuple #[.agg #[.int .i64 (tt s k).x, .int .i64 (tt s k).y, .int .i64 (tt s k).k], .bool true]) (by simp [results, Tryd.results19, Tryd.f19, go_sem, ra, rb, rc]) rfl ⟨rfl, ?_⟩
            exact ((hB.setCell (by simp) _).setCell (by simp) _).setCell (by simp) _
      · obtain ⟨f1, f2⟩ := after_no (s := s) (n := n) (.inr hnn)
        rw [f1, f2]
        have HC := Lib.hid hc; clear hc hb ht f1 f2
        have e0 : decide (0 ≤ n ∧ n ≤ 150) = false := decide_eq_false hnn
        go_enter Tryd.func19, Tryd.ntmps19
        go_wp2_with (first
          | (go_at_call 31; refine (HC.out _).mono ?_; rintro e w' ⟨rfl, rfl⟩)
          | (go_at_call 35; refine (l1In_any _ _ _ _).mono ?_; rw [e0]; rintro e w' ⟨rfl, rfl⟩))
        refine bodyPost_ret (v := .tuple #[.agg #[.int .i64 0, .int .i64 0, .int .i64 0], .bool false]) (by simp [results, Tryd.results19, Tryd.f19, go_sem]) rfl ⟨rfl, by go_grown⟩
    · have ht : twB s = false := by unfold twB; rw [hb, decide_eq_false hl]; rfl
      obtain ⟨f1, f2⟩ := after_no (n := n) (.inl ht)
      rw [f1, f2]
      have HC := Lib.hid hc; clear hc hb ht f1 f2
      go_enter Tryd.func19, Tryd.ntmps19
      go_wp2_with (go_at_call 31; refine (HC.out _).mono ?_; rintro e w' ⟨rfl, rfl⟩)
      refine bodyPost_ret (v := .tuple #[.agg #[.int .i64 0, .int .i64 0, .int .i64 0], .bool false]) (by simp [results, Tryd.results19, Tryd.f19, go_sem]) rfl ⟨rfl, by go_grown⟩
set_option maxHeartbeats 1000000 in
theorem law_FnExactAfterTimes (s : ByteArray) (n : Int) (w : World) (hs : s.size ≤ maxLen) (hn : (Lit.int .i64 n).wf = true) (hd : Dirs w) :
    Calls Tryd.prog 6 #[.string s, .int .i64 n] w fun e w' => e = .returned (.bool true) ∧ Below w.heap.size w w' := by
  have h1 := fun w => afterTimes_spec s n w hs hn
  have h2 := fun w hd => afterTimes_impl s n w hd hs hn
  have H1 := Lib.hid h1; clear h1
  have H2 := Lib.hid h2; clear h2
  have HD := Lib.hid hd; clear hd
  generalize afterT s n = T at H1 H2
  generalize afterB s n = b at H1 H2
  unfold maxLen at hs
  go_enter Tryd.func6, Tryd.ntmps6
  go_wp2_with fail
  · go_ret
    exact ⟨rfl, by go_grown⟩
  · refine (H1.out _).mono ?_
    rintro e w2 ⟨rfl, hb2⟩
    have s2 := Cells3.new w2 (.int .i64 T.x) (.int .i64 T.y) (.int .i64 T.k) 23
    have hB2 := hb2.alloc hb2.size (.cells #[.int .i64 T.x, .int .i64 T.y, .int .i64 T.k] 23)
    clear hb2
    go_wp2_with fail
    refine (H2.out _ (Dirs.below hB2 HD.out.lt HD.out)).mono ?_
    rintro e w4 ⟨rfl, hb4⟩
    have s4 := s2.below hb4 (by exact s2.lt)
    have hB4 := Below.up hB2 hB2.size hb4
    have hl4 := s4.lt
    clear hb4 s2 hB2
    obtain ⟨⟨ta, tb, tc⟩, td, te, tf⟩ := s4
    go_wp2_with fail
    refine (eqTurtle_same T.x T.y T.k _).mono ?_
    rintro e w5 ⟨rfl, hb5⟩
    have hB5 := Below.up (hB4.alloc hB4.size (.cells #[.int .i64 T.x, .int .i64 T.y, .int .i64 T.k] 23)) (by have := hB4.size; simp; omega) hb5
    clear hb5
    go_wp2_with fail
    go_ret
    exact ⟨rfl, hB5⟩
end Go.Proofs.YtdkhibkebakepaaDoor
