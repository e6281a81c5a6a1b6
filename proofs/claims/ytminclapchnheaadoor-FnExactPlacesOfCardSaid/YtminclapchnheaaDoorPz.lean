/- The law FnExactPlacesOf answers true. Condition: the table of directions holds what the program's text lays. -/
import Derived.Test.YtminclapchnheaaDoorPm
namespace Go.Proofs.YtminclapchnheaaDoor
open Go.RowKit
set_option linter.unusedVariables false
set_option linter.unusedSimpArgs false

set_option maxHeartbeats 2000000 in
set_option maxRecDepth 100000 in
theorem law_FnExactPlacesOf (s : ByteArray) (w : World) (hs : s.size ≤ maxLen) (hd : Dirs w) : Calls Tryd.prog 7 #[.string s] w fun e w' => e = .returned (.bool true) ∧ Below w.heap.size w w' := by
  have HD := Lib.hid hd; clear hd
  have HSp := Lib.hid (placesOf_spec s w hs)
  cases hb : Tw.walkB s.data.toList
  · have HI := Lib.hid (fun w => placesOf_no s w hs hb)
    have hz : plV s = [] := by unfold plV; rw [hb]; rfl
    have HZ := Lib.hid hz; clear hz hb
    unfold maxLen at hs
    go_enter Tryd.func7, Tryd.ntmps7
    go_wp2_with fail
    · go_ret
      exact ⟨rfl, Below.refl _ _⟩
    · refine HSp.out.mono ?_
      rintro e w1 ⟨v, rfl, hP, hb1⟩
      rw [HZ.out] at hP
      obtain ⟨q, cap, rfl⟩ := hP.nil
      clear hP
      go_wp2_with fail
      refine (HI.out _).mono ?_
      rintro e w2 ⟨rfl, rfl⟩
      go_wp2_with (first
        | (go_at_call 22; refine (eqIntSS_nil _ _ _).mono ?_; rintro e w' ⟨rfl, rfl⟩)
        | (go_at_call 23; refine (markIntSS_nil _ _).mono ?_; rintro e w' ⟨rfl, rfl⟩)
        | (go_at_call 24; refine (heldIntSS_nil _ _).mono ?_; rintro e w' ⟨rfl, rfl⟩)
        | (go_at_call 21; refine (HI.out _).mono ?_; rintro e w' ⟨rfl, rfl⟩))
      go_ret
      exact ⟨rfl, hb1⟩
  · have hlen := walkB_len hb
    have HI := Lib.hid (fun w hd => placesOf_impl s w hs hd hb)
    have hz : plV s = pk s s.size := by unfold plV pk; rw [hb, take_all]; rfl
    have HZ := Lib.hid hz; clear hz hb
    unfold maxLen at hs
    go_enter Tryd.func7, Tryd.ntmps7
    go_wp2_with fail
    · refine HSp.out.mono ?_
      rintro e w1 ⟨v, rfl, hP, hb1⟩
      rw [HZ.out] at hP
      have hpl := pk_len s s.size (Nat.le_refl _)
      obtain ⟨g0, cap0, rfl, hg0, hcap0, hcm0⟩ := hP.form (by intro h; rw [h] at hpl; simp at hpl)
      rw [hpl] at hP ⊢
      have HP := Lib.hid hP; clear hP hcap0 hpl
      have HD1 := Lib.hid (HD.out.same hb1)
      go_wp2_with fail
      refine (HI.out _ HD1.out).mono ?_
      rintro e w2 ⟨g, bl, rfl, hg, hR2, hb2⟩
      have HR2 := Lib.hid hR2; clear hR2
      have HP2 := Lib.hid (HP.out.below hb2)
      go_wp2_with fail
      refine (eqIntSS_any HR2.out.rd HP2.out.rd (by omega)).mono ?_
      rintro e w3 ⟨rfl, hb3⟩
      have HR3 := Lib.hid (HR2.out.below hb3)
      have hB3 := Below.up hb2 hb2.size hb3
      clear hb2 hb3 HR2 HP2
      go_wp2_with fail
      refine (markIntSS_any HR3.out (by omega) hg).mono ?_
      rintro e w4 ⟨rfl, hR4, hb4⟩
      have HR4 := Lib.hid hR4; clear hR4 HR3
      have hB4 := hB3.trans hb4
      have HD4 := Lib.hid (HD1.out.same hB4)
      clear hb4 hB3
      go_wp2_with fail
      refine (heldIntSS_any HR4.out (by omega)).mono ?_
      rintro e w' ⟨rfl, rfl⟩
      go_wp2_with fail
      refine (HI.out _ HD4.out).mono ?_
      rintro e w6 ⟨g', bl', rfl, hg', hR6, hb6⟩
      have HR6 := Lib.hid hR6; clear hR6
      have HR7 := Lib.hid (HR4.out.below hb6)
      have hB6 := Below.up hB4 hB4.size hb6
      have HP6 := Lib.hid (HP.out.below hB6)
      clear hb6
      go_wp2_with fail
      refine (eqIntSS_any HR6.out.rd HP6.out.rd (by omega)).mono ?_
      rintro e w8 ⟨rfl, hb8⟩
      have HR8 := Lib.hid (HR7.out.below hb8)
      have hB8 := Below.up hB6 hB6.size hb8
      have hBB := Below.up hb1 hb1.size hB8
      clear hb8 HR7 HR6 HP6 HR4
      go_wp2_with fail
      refine (heldIntSS_any HR8.out (by omega)).mono ?_
      rintro e w' ⟨rfl, rfl⟩
      go_wp2_with fail
      go_ret
      exact ⟨rfl, hBB⟩
end Go.Proofs.YtminclapchnheaaDoor
