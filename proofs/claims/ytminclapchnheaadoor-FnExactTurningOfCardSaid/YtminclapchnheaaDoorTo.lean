/- TurningOf of the program and of the reference; the law FnExactTurningOf answers true. Condition: the table of directions holds what the program's text lays. -/
import Derived.Test.YtminclapchnheaaDoorCl
namespace Go.Proofs.YtminclapchnheaaDoor
open Go.RowKit
set_option linter.unusedVariables false
set_option linter.unusedSimpArgs false

/-- A turn from one direction to another one. -/
def turnV (a b : Int) : Int := if (b - a + 4) % 4 = 1 then 1 else if (b - a + 4) % 4 = 3 then -1 else 0
/-- The turns of the first k steps. -/
def tnV (s : ByteArray) : Nat → Int
  | 0 => 0
  | k + 1 => tnV s k + turnV (Tw.dir (s.data.toList.getD k 0)) (Tw.dir (s.data.toList.getD ((k + 1) % s.size) 0))
theorem getD_at (s : ByteArray) (k : Nat) (h : k < s.size) : s.data.toList.getD k 0 = s[k] := by
  rw [List.getD_eq_getElem?_getD, List.getElem?_eq_getElem (by rw [bytes_len]; exact h)]; rfl
theorem turn_bd (a b : Int) : -1 ≤ turnV a b ∧ turnV a b ≤ 1 := by
  unfold turnV
  (repeat' split) <;> omega
theorem tn_bd (s : ByteArray) (k : Nat) : -(k : Int) ≤ tnV s k ∧ tnV s k ≤ k := by
  induction k with
  | zero => simp [tnV]
  | succ k ih =>
    have := turn_bd (Tw.dir (s.data.toList.getD k 0)) (Tw.dir (s.data.toList.getD ((k + 1) % s.size) 0))
    simp only [tnV]; omega
theorem tn_step (s : ByteArray) (k : Nat) (h : k < s.size) (hm : (k + 1) % s.size < s.size) : tnV s (k + 1) = tnV s k + turnV (Tw.dir s[k]) (Tw.dir s[(k + 1) % s.size]) := by
  simp only [tnV]; rw [getD_at s k h, getD_at s _ hm]
theorem same_of {P : Program} {f : FuncId} {args : Array Value} {w : World} {v : Value} (h : Calls P f args w fun e w' => e = .returned v ∧ w = w') : Calls P f args w fun e w' => e = .returned v ∧ w' = w :=
  h.mono fun _ _ ⟨a, b⟩ => ⟨a, b.symm⟩
theorem l4Turn_any (a b : Int) (w : World) (a0 : 0 ≤ a) (a1 : a ≤ 3) (b0 : 0 ≤ b) (b1 : b ≤ 3) : Calls Tryd.prog 39 #[.int .i64 a, .int .i64 b] w fun e w' => e = .returned (.int .i64 (turnV a b)) ∧ w = w' := by
  have hm : (b - a + 4) % 4 = 0 ∨ (b - a + 4) % 4 = 1 ∨ (b - a + 4) % 4 = 2 ∨ (b - a + 4) % 4 = 3 := by omega
  unfold turnV
  rcases hm with h | h | h | h
  all_goals
    rw [h]
    have ht : (b - a + 4).tmod 4 = (b - a + 4) % 4 := Int.tmod_eq_emod_of_nonneg (by omega)
    go_enter Tryd.func39, Tryd.ntmps39
    go_wp2
    go_ret
    exact ⟨rfl, rfl⟩
def turnPost (s : ByteArray) (w : World) (e : Ending) (w' : World) : Prop :=
  e = .returned (.tuple #[.int .i64 (if Tw.closedB s.data.toList then tnV s s.size else 0), .bool (Tw.closedB s.data.toList)]) ∧ Below w.heap.size w w'
set_option maxHeartbeats 600000 in
set_option maxRecDepth 100000 in
theorem turningOf_spec (s : ByteArray) (w : World) (hs : s.size ≤ maxLen) : Calls Tryd.prog 18 #[.string s] w (turnPost s w) := by
  have hc := closedOk_spec s w hs
  unfold turnPost
  cases hb : Tw.closedB s.data.toList
  · rw [hb] at hc
    have HC := Lib.hid hc; clear hc hb
    go_enter Tryd.func18, Tryd.ntmps18
    go_wp2_with (go_at_call 12; refine HC.out.mono ?_; rintro e w1 ⟨rfl, hb1⟩)
    go_ret2
    exact ⟨rfl, hb1⟩
  · have hw := ((Tw.closedB_iff _).1 hb).1
    have hlen := walkB_len hw
    have HA := Lib.hid (walkB_all hw)
    rw [hb] at hc
    have HC := Lib.hid hc; clear hc hb hw
    unfold maxLen at hs
    go_enter Tryd.func18, Tryd.ntmps18
    go_wp2_with (go_at_call 12; refine HC.out.mono ?_; rintro e w1 ⟨rfl, hb1⟩)
    go_loopw [4, 5] (fun n i wr => ∃ k : Nat, k ≤ s.size ∧ i = .int .i64 (k : Int) ∧ n = .int .i64 (tnV s k) ∧ Below w.heap.size w wr) (fun _ i _ => s.size - (intOf i).toNat)
    case atStart => exact ⟨0, by omega, rfl, rfl, hb1⟩
    case round =>
      obtain ⟨k, hk, rfl, rfl, hB⟩ := hrel
      by_cases hlt : k < s.size
      · have hm : (k + 1) % s.size < s.size := Nat.mod_lt _ (by omega)
        have hst := tn_step s k hlt hm
        have hmt : (((k : Int) + 1).tmod (s.size : Int)) = (((k + 1) % s.size : Nat) : Int) := by rw [Int.tmod_eq_emod_of_nonneg (by omega)]; simp
        have hme : (((k : Int) + 1) % (s.size : Int)) = (((k + 1) % s.size : Nat) : Int) := by simp
        generalize (k + 1) % s.size = m at *
        have h0 := step_dir HA.out hlt
        have h1 := step_dir HA.out hm
        have d0 := Tw.dir_bd s[k]
        have d1 := Tw.dir_bd s[m]
        have htb := tn_bd s k
        have hwr : IntKind.i64.wrap ((k : Int) + 1) = (k : Int) + 1 := IntWalk.i64_in _ (by omega)
        have hnz : ¬ (s.size : Int) = 0 := by omega
        have hmi : (m : Int) < (s.size : Int) := by omega
        have hwm : IntKind.i64.wrap (m : Int) = (m : Int) := IntWalk.i64_in _ (by omega)
        generalize tnV s k = t at *
        have HST := Lib.hid hst; clear hst
        go_wp2_with fail
        go_quiet (first
          | (go_at_call 40; refine Calls.quiet_of_same (same_of (l4Look_any _ _)))
          | (go_at_call 39; refine Calls.quiet_of_same (same_of (l4Turn_any _ _ _ (by omega) (by omega) (by omega) (by omega)))))
        have htu := turn_bd (Tw.dir s[k]) (Tw.dir s[m])
        have hw64 : wrap64 (t + turnV (Tw.dir s[k]) (Tw.dir s[m])) = tnV s (k + 1) := by rw [HST.out]; unfold wrap64; omega
        rw [hw64]
        go_wp2_with fail
        exact ⟨⟨k + 1, by omega, by go_num, rfl, below_drewN hB _⟩, by simp [intOf]; omega⟩
      · obtain rfl : k = s.size := by omega
        go_wp2_with fail
        go_ret2
        exact ⟨rfl, hB⟩
set_option maxHeartbeats 2000000 in
set_option maxRecDepth 100000 in
theorem turningOf_impl (s : ByteArray) (w : World) (hs : s.size ≤ maxLen) (hD : Dirs w) : Calls Tryd.prog 19 #[.string s] w (turnPost s w) := by
  have hc := closedOk_impl s w hs hD
  unfold turnPost
  cases hb : Tw.closedB s.data.toList
  · rw [hb] at hc
    have HC := Lib.hid hc; clear hc hb
    go_enter Tryd.func19, Tryd.ntmps19
    go_wp2_with (go_at_call 13; refine HC.out.mono ?_; rintro e w1 ⟨rfl, hb1⟩)
    go_ret2
    exact ⟨rfl, hb1⟩
  · have hw := ((Tw.closedB_iff _).1 hb).1
    have hlen := walkB_len hw
    have HA := Lib.hid (walkB_all hw)
    rw [hb] at hc
    have HC := Lib.hid hc; clear hc hb hw
    unfold maxLen at hs
    go_enter Tryd.func19, Tryd.ntmps19
    go_wp2_with (go_at_call 13; refine HC.out.mono ?_; rintro e w1 ⟨rfl, hb1⟩)
    go_loopw [4, 5] (fun n i wr => ∃ k : Nat, k ≤ s.size ∧ i = .int .i64 (k : Int) ∧ n = .int .i64 (tnV s k) ∧ Below w.heap.size w wr) (fun _ i _ => s.size - (intOf i).toNat)
    case atStart => exact ⟨0, by omega, rfl, rfl, hb1⟩
    case round =>
      obtain ⟨k, hk, rfl, rfl, hB⟩ := hrel
      by_cases hlt : k < s.size
      · have hm : (k + 1) % s.size < s.size := Nat.mod_lt _ (by omega)
        have hst := tn_step s k hlt hm
        have hmt : (((k : Int) + 1).tmod (s.size : Int)) = (((k + 1) % s.size : Nat) : Int) := by rw [Int.tmod_eq_emod_of_nonneg (by omega)]; simp
        have hme : (((k : Int) + 1) % (s.size : Int)) = (((k + 1) % s.size : Nat) : Int) := by simp
        generalize (k + 1) % s.size = m at *
        have h0 := step_dir HA.out hlt
        have h1 := step_dir HA.out hm
        have d0 := Tw.dir_bd s[k]
        have d1 := Tw.dir_bd s[m]
        have htb := tn_bd s k
        have hwr : IntKind.i64.wrap ((k : Int) + 1) = (k : Int) + 1 := IntWalk.i64_in _ (by omega)
        have hnz : ¬ (s.size : Int) = 0 := by omega
        have hmi : (m : Int) < (s.size : Int) := by omega
        generalize tnV s k = t at *
        have HST := Lib.hid hst; clear hst
        go_wp2_with (go_at_call 41; refine (directionOf_any _ _).mono ?_; rintro e w' ⟨rfl, rfl⟩)
        all_goals
          refine ⟨⟨k + 1, by omega, by go_num, int_eq ?_, hB⟩, by simp [intOf]; omega⟩
          rw [HST.out]
          try simp only [beq_iff_eq, beq_eq_false_iff_ne, ne_eq] at *
          unfold turnV
          (repeat' split) <;> omega
      · obtain rfl : k = s.size := by omega
        go_wp2_with fail
        go_ret2
        exact ⟨rfl, hB⟩
theorem law_FnExactTurningOf (s : ByteArray) (w : World) (hs : s.size ≤ maxLen) (hd : Dirs w) : Calls Tryd.prog 6 #[.string s] w fun e w' => e = .returned (.bool true) ∧ Below w.heap.size w w' := by
  have h1 := fun w => turningOf_spec s w hs
  have h2 := fun w hd => turningOf_impl s w hs hd
  unfold turnPost at h1 h2
  generalize Tw.closedB s.data.toList = b at h1 h2
  generalize (if b = true then tnV s s.size else 0) = n at h1 h2
  have H1 := Lib.hid h1; clear h1
  have H2 := Lib.hid h2; clear h2
  have HD := Lib.hid hd; clear hd
  unfold maxLen at hs
  go_enter Tryd.func6, Tryd.ntmps6
  go_wp2_with fail
  · go_ret
    exact ⟨rfl, Below.refl _ _⟩
  · refine (H1.out _).mono ?_
    rintro e w2 ⟨rfl, hb2⟩
    have HD2 := Lib.hid (HD.out.same hb2)
    go_wp2_with fail
    refine (H2.out _ HD2.out).mono ?_
    rintro e w4 ⟨rfl, hb4⟩
    have hB4 := Below.up hb2 hb2.size hb4
    go_wp2_with fail
    all_goals
      go_ret
      exact ⟨rfl, hB4⟩
end Go.Proofs.YtminclapchnheaaDoor
