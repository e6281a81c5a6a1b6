/- The law FnSimpleOk answers true, for every list of bytes; the table of directions holds what the program's own text lays. -/
import Derived.Test.YtminclapchnheaaDoorLawM
import Derived.Test.YtminclapchnheaaDoorSi
namespace Go.Proofs.YtminclapchnheaaDoor
open Go.RowKit
set_option linter.unusedVariables false
set_option linter.unusedSimpArgs false

def enws : ByteArray := ⟨#[101, 110, 119, 115]⟩
theorem simple_enws : Tw.Simple [101, 110, 119, 115] := by
  intro i j hij hj
  have hj4 : j < 4 := hj
  have hc : (i = 0 ∧ j = 1) ∨ (i = 0 ∧ j = 2) ∨ (i = 0 ∧ j = 3) ∨ (i = 1 ∧ j = 2) ∨ (i = 1 ∧ j = 3) ∨ (i = 2 ∧ j = 3) := by omega
  have key : ∀ {p q : Tw.Pl}, ((p.x == q.x) && (p.y == q.y)) = false → p ≠ q := by
    intro p q h e
    subst e
    simp at h
  rcases hc with ⟨rfl, rfl⟩ | ⟨rfl, rfl⟩ | ⟨rfl, rfl⟩ | ⟨rfl, rfl⟩ | ⟨rfl, rfl⟩ | ⟨rfl, rfl⟩ <;> exact key (by decide)
theorem simp_enws : simpV enws = true := (simpV_iff _).2 ⟨by decide, simple_enws⟩
theorem simp_moved {s : ByteArray} (k : Nat) (h : simpV s = true) : simpV (mvB s k) = true := by
  obtain ⟨hc, hs⟩ := (simpV_iff _).1 h
  refine (simpV_iff _).2 ⟨mvB_closed k hc, ?_⟩
  unfold mvB
  rw [bs_list]
  exact Tw.moved_simple _ k ((Tw.closedB_iff _).1 hc).2.2 hs
theorem simp_back {s : ByteArray} (h : simpV s = true) : simpV (bwV s) = true := by
  obtain ⟨hc, hs⟩ := (simpV_iff _).1 h
  obtain ⟨hw, hn, he⟩ := (Tw.closedB_iff _).1 hc
  have hb := Tw.bwalk_closed _ hc
  rw [bwV_yes hw]
  refine (simpV_iff _).2 ⟨by rw [bs_list]; exact hb, ?_⟩
  rw [bs_list]
  exact Tw.bwalk_simple _ (walkB_all hw) he ((Tw.closedB_iff _).1 hb).2.2 hs
theorem bwV_size {s : ByteArray} (h : simpV s = true) : (bwV s).size = s.size := by
  obtain ⟨hc, hs⟩ := (simpV_iff _).1 h
  rw [bwV_yes ((Tw.closedB_iff _).1 hc).1, bs_size, Tw.bwalk_len, bytes_len]
set_option maxHeartbeats 4000000 in
set_option maxRecDepth 100000 in
theorem law_FnSimpleOk (a : Option Addr) (len cap : Nat) (zs : List Int) (w : World) (h : IsRow w a len cap zs) (hd : Dirs w) : Calls Tryd.prog 11 #[.slice a len cap] w fun e w' => e = .returned (.bool true) ∧ Below w.heap.size w w' := by
  have hdr := drawSimpleOk h
  have HDr := Lib.hid hdr; clear hdr h
  have HD := Lib.hid hd; clear hd
  have HEn : Hid (∀ w (hd : Dirs w), Calls Tryd.prog 17 #[.string ⟨#[101, 110, 119, 115]⟩] w fun e w' => e = .returned (.bool true) ∧ Below w.heap.size w w') := Lib.hid (fun w hd => by
    have := simpleOk_impl enws w (by decide) hd
    rw [simp_enws] at this
    exact this)
  go_enter Tryd.func11, Tryd.ntmps11
  go_wp2_with fail
  · go_ret
    exact ⟨rfl, Below.refl _ _⟩
  · refine HDr.out.mono ?_
    rintro e w1 ⟨s, rfl, hs, hB1⟩
    have HD1 := Lib.hid (HD.out.same hB1)
    have hsm : s.size ≤ maxLen := by unfold maxLen; omega
    have hi := fun w hd => simpleOk_impl s w hsm hd
    have hsp := fun w => simpleOk_spec s w hsm
    cases hb : simpV s
    · rw [hb] at hi hsp
      have HI := Lib.hid hi; clear hi
      have HSp := Lib.hid hsp; clear hsp
      clear hb hsm
      go_wp2_with fail
      refine (HI.out _ HD1.out).mono ?_
      rintro e w2 ⟨rfl, hb2⟩
      have HD2 := Lib.hid (HD1.out.same hb2)
      have hB2 := Below.up hB1 hB1.size hb2
      go_wp2_with fail
      refine (HSp.out _).mono ?_
      rintro e w3 ⟨rfl, hb3⟩
      have HD3 := Lib.hid (HD2.out.same hb3)
      have hB3 := Below.up hB2 hB2.size hb3
      go_wp2_with fail
      go_loopw [5] (fun i wr => i = .int .i64 0 ∧ wr = w3) (fun _ _ => 0)
      case atStart => exact ⟨rfl, rfl⟩
      case round =>
        obtain ⟨rfl, rfl⟩ := hrel
        by_cases h0 : 0 < s.size
        · go_wp2_with fail
          refine (HEn.out _ HD3.out).mono ?_
          rintro e w4 ⟨rfl, hb4⟩
          have hB4 := Below.up hB3 hB3.size hb4
          go_wp2_with (go_at_call 28; refine (alive_any _).mono ?_; rintro e w' ⟨rfl, rfl⟩)
          go_ret
          exact ⟨rfl, hB4⟩
        · go_wp2_with fail
          refine (HEn.out _ HD3.out).mono ?_
          rintro e w4 ⟨rfl, hb4⟩
          have hB4 := Below.up hB3 hB3.size hb4
          go_wp2_with (go_at_call 28; refine (alive_any _).mono ?_; rintro e w' ⟨rfl, rfl⟩)
          go_ret
          exact ⟨rfl, hB4⟩
    · rw [hb] at hi hsp
      have hc := ((simpV_iff _).1 hb).1
      have hmv : ∀ k : Nat, k < s.size → ∀ w (hd : Dirs w), Calls Tryd.prog 15 #[.string s, .int .i64 (k : Int)] w fun e w' => e = .returned (.string (mvB s k)) ∧ Below w.heap.size w w' := fun k hk w hd => by
        have := movedOn_impl s (k : Int) w hsm (wf_i64 (by omega) (by omega)) hd
        rw [mvV_yes hc (by omega) (by omega), show ((k : Int)).toNat = k from rfl] at this
        exact this
      have hms : ∀ k : Nat, ∀ w (hd : Dirs w), Calls Tryd.prog 17 #[.string (mvB s k)] w fun e w' => e = .returned (.bool true) ∧ Below w.heap.size w w' := fun k w hd => by
        have := simpleOk_impl (mvB s k) w (by rw [mvB_size]; exact hsm) hd
        rw [simp_moved k hb] at this
        exact this
      have hbk := fun w => backWalk_impl s w hsm
      have hbs : ∀ w (hd : Dirs w), Calls Tryd.prog 17 #[.string (bwV s)] w fun e w' => e = .returned (.bool true) ∧ Below w.heap.size w w' := fun w hd => by
        have := simpleOk_impl (bwV s) w (by rw [bwV_size hb]; exact hsm) hd
        rw [simp_back hb] at this
        exact this
      generalize bwV s = t at *
      have HI := Lib.hid hi; clear hi
      have HSp := Lib.hid hsp; clear hsp
      have HMv := Lib.hid hmv; clear hmv
      have HMs := Lib.hid hms; clear hms
      have HBk := Lib.hid hbk; clear hbk
      have HBs := Lib.hid hbs; clear hbs
      clear hb hsm hc
      go_wp2_with fail
      refine (HI.out _ HD1.out).mono ?_
      rintro e w2 ⟨rfl, hb2⟩
      have HD2 := Lib.hid (HD1.out.same hb2)
      have hB2 := Below.up hB1 hB1.size hb2
      go_wp2_with fail
      refine (HSp.out _).mono ?_
      rintro e w3 ⟨rfl, hb3⟩
      have HD3 := Lib.hid (HD2.out.same hb3)
      have hB3 := Below.up hB2 hB2.size hb3
      clear hb2 hb3
      go_wp2_with fail
      go_loopw [5] (fun i wr => ∃ k : Nat, k ≤ s.size ∧ i = .int .i64 (k : Int) ∧ Hid (Dirs wr) ∧ Below w.heap.size w wr) (fun i _ => s.size - (intOf i).toNat)
      case atStart => exact ⟨0, by omega, rfl, HD3, hB3⟩
      case round =>
        clear HD3 hB3
        obtain ⟨k, hk, rfl, HDr2, hB⟩ := hrel
        by_cases hlt : k < s.size
        · go_wp2_with fail
          refine (HMv.out k hlt _ HDr2.out).mono ?_
          rintro e w4 ⟨rfl, hb4⟩
          have HD4 := Lib.hid (HDr2.out.same hb4)
          have hB4 := Below.up hB hB.size hb4
          go_wp2_with fail
          refine (HMs.out k _ HD4.out).mono ?_
          rintro e w5 ⟨rfl, hb5⟩
          have HD5 := Lib.hid (HD4.out.same hb5)
          have hB5 := Below.up hB4 hB4.size hb5
          go_wp2_with fail
          exact ⟨⟨k + 1, by omega, by go_num, HD5, hB5⟩, by simp [intOf]; omega⟩
        · obtain rfl : k = s.size := by omega
          go_wp2_with fail
          refine (HBk.out _).mono ?_
          rintro e w4 ⟨rfl, hb4⟩
          have HD4 := Lib.hid (HDr2.out.same hb4)
          have hB4 := Below.up hB hB.size hb4
          go_wp2_with fail
          refine (HBs.out _ HD4.out).mono ?_
          rintro e w5 ⟨rfl, hb5⟩
          have HD5 := Lib.hid (HD4.out.same hb5)
          have hB5 := Below.up hB4 hB4.size hb5
          go_wp2_with fail
          refine (HEn.out _ HD5.out).mono ?_
          rintro e w6 ⟨rfl, hb6⟩
          have hB6 := Below.up hB5 hB5.size hb6
          go_wp2_with (go_at_call 28; refine (alive_any _).mono ?_; rintro e w' ⟨rfl, rfl⟩)
          go_ret
          exact ⟨rfl, hB6⟩
end Go.Proofs.YtminclapchnheaaDoor
