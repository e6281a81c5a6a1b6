/- SimpleOk of the program; the law FnExactSimpleOk answers true. Condition: the table of directions holds what the program's text lays. -/
import Derived.Test.YtminclapchnheaaDoorAd
namespace Go.Proofs.YtminclapchnheaaDoor
open Go.RowKit
set_option linter.unusedVariables false
set_option linter.unusedSimpArgs false

theorem pe_near (s : ByteArray) (hlen : s.size ≤ 40) (i : Nat) (h : i ≤ s.size) : near (pe s i) := by
  have := pe_far s i h
  exact ⟨by omega, by omega, by omega, by omega⟩
theorem diff_simple (s : ByteArray) : Diff (pe s) s.size ↔ Tw.Simple s.data.toList := by
  unfold Diff Tw.Simple pe
  rw [bytes_len]
theorem simpV_size {s : ByteArray} (hc : Tw.closedB s.data.toList = true) (hlen : s.size ≤ 40) : ((Maps.size (Sd (pe s) s.size) : Int) == (s.size : Int)) = simpV s := by
  rw [Bool.eq_iff_iff, simpV_iff, beq_iff_eq]
  have h := Sd_size (pe s) s.size (fun i hi => pe_near s hlen i (by omega))
  rw [diff_simple] at h
  rw [show ((Maps.size (Sd (pe s) s.size) : Int) = (s.size : Int)) ↔ Maps.size (Sd (pe s) s.size) = s.size by omega, h]
  exact ⟨fun hh => ⟨hc, hh⟩, fun hh => hh.2⟩
set_option maxHeartbeats 2000000 in
set_option maxRecDepth 100000 in
theorem simpleOk_impl (s : ByteArray) (w : World) (hs : s.size ≤ maxLen) (hD : Dirs w) :
    Calls Tryd.prog 17 #[.string s] w fun e w' => e = .returned (.bool (simpV s)) ∧ Below w.heap.size w w' := by
  have hc := closedOk_impl s w hs hD
  have HD := Lib.hid hD; clear hD
  cases hb : Tw.closedB s.data.toList
  · rw [simpV_not hb]
    rw [hb] at hc
    have HC := Lib.hid hc; clear hc hb
    go_enter Tryd.func17, Tryd.ntmps17
    go_wp2_with fail
    refine HC.out.mono ?_
    rintro e w1 ⟨rfl, hb1⟩
    go_wp2_with fail
    go_ret
    exact ⟨rfl, hb1⟩
  · rw [hb] at hc
    have hw := ((Tw.closedB_iff _).1 hb).1
    have hlen := walkB_len hw
    have HP := Lib.hid (fun w hd => placesOf_own s w hd hlen (walkB_all hw))
    have HV := Lib.hid (simpV_size hb hlen)
    have HN := Lib.hid (pe_near s hlen)
    have HC := Lib.hid hc; clear hc hb hw
    go_enter Tryd.func17, Tryd.ntmps17
    go_wp2_with fail
    refine HC.out.mono ?_
    rintro e w1 ⟨rfl, hb1⟩
    have HD1 := Lib.hid (HD.out.same hb1)
    go_wp2_with fail
    refine (HP.out _ HD1.out).mono ?_
    rintro e w2 ⟨rfl, hp2, hb2⟩
    have hB2 := Below.up hb1 hb1.size hb2
    have HP2 := Lib.hid hp2; clear hp2
    clear hb2 HP
    go_wp2_with fail
    have hcell : ∀ i, i < s.size → w2.cell? ⟨w1.heap.size, i * 2, none⟩ = some (.int .i64 (pe s i).x) ∧ w2.cell? ⟨w1.heap.size, i * 2 + 1, none⟩ = some (.int .i64 (pe s i).y) :=
      fun i hi => HP2.out.at (pk_len s s.size (Nat.le_refl _)) (pk_at s i (by omega))
    refine (allDifferent_any (pe s) w1.heap.size s.size (s.size + 1) w2 (by omega) (fun i hi => HN.out i (by omega)) (HP2.out.lt _ rfl).2 hcell).mono ?_
    rintro e w3 ⟨rfl, hb3⟩
    rw [HV.out]
    have hB3 := Below.up hB2 hB2.size hb3
    clear hcell
    go_wp2_with fail
    go_ret
    exact ⟨rfl, hB3⟩
theorem law_FnExactSimpleOk (s : ByteArray) (w : World) (hs : s.size ≤ maxLen) (hd : Dirs w) : Calls Tryd.prog 5 #[.string s] w fun e w' => e = .returned (.bool true) ∧ Below w.heap.size w w' := by
  have h1 := fun w => simpleOk_spec s w hs
  have h2 := fun w hd => simpleOk_impl s w hs hd
  generalize simpV s = b at h1 h2
  have H1 := Lib.hid h1; clear h1
  have H2 := Lib.hid h2; clear h2
  have HD := Lib.hid hd; clear hd
  unfold maxLen at hs
  go_enter Tryd.func5, Tryd.ntmps5
  go_wp2_with fail
  · go_ret
    exact ⟨rfl, Below.refl _ _⟩
  · refine (H1.out _).mono ?_
    rintro e w2 ⟨rfl, hb2⟩
    have HD2 := Lib.hid (HD.out.same hb2)
    go_wp2_with fail
    refine (H2.out _ HD2.out).mono ?_
    rintro e w4 ⟨rfl, hb4⟩
    have hB4 := Below.up hb2 hb2.size hb4
    go_wp2_with fail
    all_goals
      go_ret
      exact ⟨rfl, hB4⟩
end Go.Proofs.YtminclapchnheaaDoor
