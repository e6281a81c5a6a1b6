/- The law FnPlacesOf answers true, for every list of bytes; the table of directions holds what the program's own text lays. -/
import Derived.Test.YtminclapchnheaaDoorLawL
import Derived.Test.YtminclapchnheaaDoorPq
namespace Go.Proofs.YtminclapchnheaaDoor
open Go.RowKit
set_option linter.unusedVariables false
set_option linter.unusedSimpArgs false

theorem Rd.below {A C : World} {g n : Nat} {fx fy : Nat → Int} (h : Rd A g n fx fy) (hb : Below A.heap.size A C) : Rd C g n fx fy := fun i hi => by
  obtain ⟨b, b0, b1, b2⟩ := h i hi
  exact ⟨b, ((bcell hb).1 g i (cell_lt b0)).trans b0, ((bcell hb).1 b 0 (cell_lt b1)).trans b1, ((bcell hb).1 b 1 (cell_lt b2)).trans b2⟩
/-- The four steps. -/
theorem step_cases {s : ByteArray} {k : Nat} (hA : s.data.toList.all stepC = true) (h : k < s.size) :
    (s[k] = 101 ∧ (pe s (k + 1)).x = (pe s k).x + 1 ∧ (pe s (k + 1)).y = (pe s k).y) ∨ (s[k] = 119 ∧ (pe s (k + 1)).x = (pe s k).x - 1 ∧ (pe s (k + 1)).y = (pe s k).y) ∨
    (s[k] = 110 ∧ (pe s (k + 1)).x = (pe s k).x ∧ (pe s (k + 1)).y = (pe s k).y + 1) ∨ (s[k] = 115 ∧ (pe s (k + 1)).x = (pe s k).x ∧ (pe s (k + 1)).y = (pe s k).y - 1) := by
  have h0 := step_dir hA h
  rw [pe_step s k h]
  have e0 : Tw.dir 101 = 0 ∧ Tw.dir 110 = 1 ∧ Tw.dir 119 = 2 ∧ Tw.dir 115 = 3 := by decide
  have e1 : Tw.dx 0 = 1 ∧ Tw.dy 0 = 0 ∧ Tw.dx 1 = 0 ∧ Tw.dy 1 = 1 ∧ Tw.dx 2 = -1 ∧ Tw.dy 2 = 0 ∧ Tw.dx 3 = 0 ∧ Tw.dy 3 = -1 := by decide
  obtain ⟨d0, d1, d2, d3⟩ := e0
  obtain ⟨a0, b0, a1, b1, a2, b2, a3, b3⟩ := e1
  rcases Tw.dir_cases _ h0 with e | e | e | e
  · exact .inl ⟨e, by simp only [e, d0, a0], by simp only [e, d0, b0]; omega⟩
  · exact .inr (.inr (.inl ⟨e, by simp only [e, d1, a1]; omega, by simp only [e, d1, b1]⟩))
  · exact .inr (.inl ⟨e, by simp only [e, d2, a2]; omega, by simp only [e, d2, b2]; omega⟩)
  · exact .inr (.inr (.inr ⟨e, by simp only [e, d3, a3]; omega, by simp only [e, d3, b3]; omega⟩))
set_option maxHeartbeats 4000000 in
set_option maxRecDepth 100000 in
theorem law_FnPlacesOf (a : Option Addr) (len cap : Nat) (zs : List Int) (w : World) (h : IsRow w a len cap zs) (hd : Dirs w) : Calls Tryd.prog 10 #[.slice a len cap] w fun e w' => e = .returned (.bool true) ∧ Below w.heap.size w w' := by
  have hdr := drawPlacesOf h
  have HDr := Lib.hid hdr; clear hdr h
  have HD := Lib.hid hd; clear hd
  go_enter Tryd.func10, Tryd.ntmps10
  go_wp2_with fail
  · go_ret
    exact ⟨rfl, Below.refl _ _⟩
  · refine HDr.out.mono ?_
    rintro e w1 ⟨s, rfl, hs, hB1⟩
    have HD1 := Lib.hid (HD.out.same hB1)
    have hsm : s.size ≤ maxLen := by unfold maxLen; omega
    have HSp := Lib.hid (fun w => placesOf_spec s w hsm)
    cases hb : Tw.walkB s.data.toList
    · have HI := Lib.hid (fun w => placesOf_no s w hsm hb)
      have hwk := fun w => walkOk_impl s w hsm
      rw [hb] at hwk
      have HWk := Lib.hid hwk; clear hwk
      have hz : plV s = [] := by unfold plV; rw [hb]; rfl
      have HZ := Lib.hid hz; clear hz hb hsm
      go_wp2_with fail
      refine (HI.out _).mono ?_
      rintro e w2 ⟨rfl, rfl⟩
      go_wp2_with fail
      refine (HSp.out _).mono ?_
      rintro e w3 ⟨v, rfl, hP, hb3⟩
      rw [HZ.out] at hP
      obtain ⟨q, cap2, rfl⟩ := hP.nil
      have hB3 := Below.up hB1 hB1.size hb3
      clear hP
      go_wp2_with (first
        | (go_at_call 31; refine (sameRows_nil _ _ _).mono ?_; rintro e w' ⟨rfl, rfl⟩)
        | (go_at_call 32; refine (HWk.out _).mono ?_; rintro e w' ⟨rfl, rfl⟩)
        | (go_at_call 28; refine (alive_any _).mono ?_; rintro e w' ⟨rfl, rfl⟩))
      go_ret
      exact ⟨rfl, hB3⟩
    · have hlen := walkB_len hb
      have HA := Lib.hid (walkB_all hb)
      have HI := Lib.hid (fun w hd => placesOf_impl s w hsm hd hb)
      have hz : plV s = pk s s.size := by unfold plV pk; rw [hb, take_all]; rfl
      have HZ := Lib.hid hz; clear hz hb hsm
      go_wp2_with fail
      refine (HI.out _ HD1.out).mono ?_
      rintro e w2 ⟨g, bl, rfl, hg, hR2, hb2⟩
      have HR2 := Lib.hid hR2.rd; clear hR2
      have hB2 := Below.up hB1 hB1.size hb2
      go_wp2_with fail
      refine (HSp.out _).mono ?_
      rintro e w3 ⟨v, rfl, hP, hb3⟩
      rw [HZ.out] at hP
      have hpl := pk_len s s.size (Nat.le_refl _)
      obtain ⟨g0, cap0, rfl, hg0, hcap0, hcm0⟩ := hP.form (by intro h; rw [h] at hpl; simp at hpl)
      rw [hpl] at hP ⊢
      have HP := Lib.hid hP; clear hP hcap0 hpl
      have HR3 := Lib.hid (HR2.out.below hb3)
      have hB3 := Below.up hB2 hB2.size hb3
      clear hb2 hb3 HR2
      go_wp2_with fail
      refine (sameRows_any HR3.out HP.out.rd (by omega)).mono ?_
      rintro e w4 ⟨rfl, hb4⟩
      have HR4 := Lib.hid (HR3.out.below hb4)
      have hB4 := Below.up hB3 hB3.size hb4
      clear hb4 HR3 HP
      go_wp2_with fail
      go_loopw [5, 6, 7] (fun x y i wr => ∃ k : Nat, k ≤ s.size ∧ i = .int .i64 (k : Int) ∧ x = .int .i64 (pe s k).x ∧ y = .int .i64 (pe s k).y ∧ Hid (Rd wr g (s.size + 1) (fun i => (pe s i).x) (fun i => (pe s i).y)) ∧ Below w.heap.size w wr) (fun _ _ i _ => s.size - (intOf i).toNat)
      case atStart => exact ⟨0, by omega, rfl, by rw [pe_zero]; rfl, by rw [pe_zero]; rfl, HR4, hB4⟩
      case round =>
        clear HR4 hB4
        obtain ⟨k, hk, rfl, rfl, rfl, HR, hB⟩ := hrel
        have hfar := pe_far s k hk
        by_cases hlt : k < s.size
        · obtain ⟨b, b0, b1, b2⟩ := HR.out k (by omega)
          obtain ⟨c, c0, c1, c2⟩ := HR.out (k + 1) (by omega)
          have hcs := step_cases HA.out hlt
          have hI1 : (k : Int) < (s.size : Int) + 1 := by omega
          have hI2 : (k : Int) + 1 < (s.size : Int) + 1 := by omega
          have HRD := Lib.hid (fun m => HR.out.below (below_drewN (Below.refl _ wr) m))
          obtain ⟨x, hx⟩ : ∃ x, (pe s k).x = x := ⟨_, rfl⟩
          obtain ⟨y, hy⟩ : ∃ y, (pe s k).y = y := ⟨_, rfl⟩
          obtain ⟨x', hx'⟩ : ∃ x, (pe s (k + 1)).x = x := ⟨_, rfl⟩
          obtain ⟨y', hy'⟩ : ∃ y, (pe s (k + 1)).y = y := ⟨_, rfl⟩
          rw [hx, hy, hx', hy'] at hcs
          simp only [hx, hy, hx', hy'] at b1 b2 c1 c2 hfar
          rw [hx, hy]
          have HX := Lib.hid hx'
          have HY := Lib.hid hy'
          clear hx hy hx' hy' HR
          rcases hcs with ⟨hc, hx1, hy1⟩ | ⟨hc, hx1, hy1⟩ | ⟨hc, hx1, hy1⟩ | ⟨hc, hx1, hy1⟩
          · have hsc : (s[k].toNat : Int) = 101 := by rw [hc]; rfl
            subst hx1 hy1
            go_wp2_with fail
            go_quiet (fail)
            go_wp2_with fail
            go_quiet (fail)
            go_wp2_with fail
            exact ⟨⟨k + 1, by omega, by go_num, by rw [HX.out], by rw [HY.out], Lib.hid (HRD.out _), below_drewN hB _⟩, by simp [intOf]; omega⟩
          · have hsc : (s[k].toNat : Int) = 119 := by rw [hc]; rfl
            subst hx1 hy1
            go_wp2_with fail
            go_quiet (fail)
            go_wp2_with fail
            go_quiet (fail)
            go_wp2_with fail
            exact ⟨⟨k + 1, by omega, by go_num, by rw [HX.out], by rw [HY.out], Lib.hid (HRD.out _), below_drewN hB _⟩, by simp [intOf]; omega⟩
          · have hsc : (s[k].toNat : Int) = 110 := by rw [hc]; rfl
            subst hx1 hy1
            go_wp2_with fail
            go_quiet (fail)
            go_wp2_with fail
            go_quiet (fail)
            go_wp2_with fail
            exact ⟨⟨k + 1, by omega, by go_num, by rw [HX.out], by rw [HY.out], Lib.hid (HRD.out _), below_drewN hB _⟩, by simp [intOf]; omega⟩
          · have hsc : (s[k].toNat : Int) = 115 := by rw [hc]; rfl
            subst hx1 hy1
            go_wp2_with fail
            go_quiet (fail)
            go_wp2_with fail
            go_quiet (fail)
            go_wp2_with fail
            exact ⟨⟨k + 1, by omega, by go_num, by rw [HX.out], by rw [HY.out], Lib.hid (HRD.out _), below_drewN hB _⟩, by simp [intOf]; omega⟩
        · obtain rfl : k = s.size := by omega
          obtain ⟨b, b0, b1, b2⟩ := HR.out s.size (by omega)
          have hI1 : (s.size : Int) < (s.size : Int) + 1 := by omega
          obtain ⟨x, hx⟩ : ∃ x, (pe s s.size).x = x := ⟨_, rfl⟩
          obtain ⟨y, hy⟩ : ∃ y, (pe s s.size).y = y := ⟨_, rfl⟩
          simp only [hx, hy] at b1 b2 hfar
          rw [hx, hy]
          clear hx hy HR
          go_wp2_with fail
          go_ret
          exact ⟨rfl, hB⟩
end Go.Proofs.YtminclapchnheaaDoor
