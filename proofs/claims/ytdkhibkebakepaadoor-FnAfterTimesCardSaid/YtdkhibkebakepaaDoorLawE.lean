/- The law FnAfterTimes answers true. Condition: the table of directions holds what the program's text lays. -/
import Derived.Test.YtdkhibkebakepaaDoorLawD
namespace Go.Proofs.YtdkhibkebakepaaDoor
open Go.RowKit
set_option linter.unusedVariables false
set_option linter.unusedSimpArgs false

theorem tmod4 (u : Int) : u.tmod 4 = 0 ↔ u % 4 = 0 := by
  rw [← Int.dvd_iff_tmod_eq_zero, ← Int.dvd_iff_emod_eq_zero]
theorem tok_near2 {t : Tw.Tu} {n : Int} (h : Near t n) (hn : n ≤ 10000) : Tw.tokB t = true := tok_of' (h.mono hn)
theorem after_cases (s : ByteArray) (n : Int) (hs : s.size ≤ 40) (h0 : 0 ≤ n) (h1 : n ≤ 200) :
    (afterB s n = false ∧ afterT s n = ⟨0, 0, 0⟩) ∨
    ∃ T O F : Tw.Tu, Tw.wordB s.data.toList = true ∧ afterB s n = true ∧ afterT s n = T ∧ wfB T s = true ∧ wfT T s = O ∧
      ((afterB s (n + 1) = true ∧ afterT s (n + 1) = O ∧ afterB s (n + 4) = true ∧ afterT s (n + 4) = F ∧ F.k = T.k ∧ ((turnsV s).tmod 4 = 0 ∨ (((turnsV s).tmod 4 == 0) = false ∧ T = F))) ∨
       (afterB s (n + 1) = true ∧ afterT s (n + 1) = O ∧ afterB s (n + 4) = false ∧ afterT s (n + 4) = ⟨0, 0, 0⟩) ∨
       (afterB s (n + 1) = false ∧ afterT s (n + 1) = ⟨0, 0, 0⟩ ∧ afterB s (n + 4) = false ∧ afterT s (n + 4) = ⟨0, 0, 0⟩)) := by
  cases hb : twB s
  · exact .inl (after_no (.inl hb))
  · by_cases hn : n ≤ 150
    · obtain ⟨m, rfl⟩ : ∃ m : Nat, n = m := ⟨n.toNat, by omega⟩
      obtain ⟨f1, f2⟩ := after_yes (n := (m : Int)) hb ⟨h0, hn⟩
      rw [Int.toNat_natCast] at f2
      obtain ⟨hw, hl⟩ := twB_word hb
      have nT : Near (tt s m) 9600 := (tt_near s hl m).mono (by omega)
      have nO : Near (tt s (m + 1)) 9700 := by
        have := nT.run s.data.toList
        rw [bytes_len] at this
        exact Near.mono (t := tt s (m + 1)) this (by omega)
      have hwf := wf_told' (t := tt s m) (s := s) (tok_near2 nT (by omega)) hw (tok_near2 (t := tt s (m + 1)) nO (by omega))
      refine .inr ⟨tt s m, tt s (m + 1), tt s (m + 4), hw, f1, f2, hwf.1, hwf.2, ?_⟩
      have e1 : (m : Int) + 1 = ((m + 1 : Nat) : Int) := by omega
      have e4 : (m : Int) + 4 = ((m + 4 : Nat) : Int) := by omega
      rw [e1, e4]
      by_cases c4 : m + 4 ≤ 150
      · obtain ⟨a1, a2⟩ := after_yes (n := ((m + 1 : Nat) : Int)) hb (by omega)
        obtain ⟨b1, b2⟩ := after_yes (n := ((m + 4 : Nat) : Int)) hb (by omega)
        rw [Int.toNat_natCast] at a2 b2
        have hf := Tw.four s.data.toList (tt s m) ⟨nT.2.2.2.2.1, nT.2.2.2.2.2⟩
        have hlook := Tw.run_look s.data.toList ⟨0, 0, 0⟩ (wordB_all hw) ⟨by decide, by decide⟩
        simp only [Int.zero_add] at hlook
        have eh : (Tw.home : Tw.Tu) = ⟨0, 0, 0⟩ := rfl
        rw [eh, hlook] at hf
        rw [turnsV_word hw]
        refine .inl ⟨a1, a2, b1, b2, hf.1, ?_⟩
        by_cases hu : Tw.turns s.data.toList % 4 = 0
        · exact .inl ((tmod4 _).2 hu)
        · exact .inr ⟨by rw [beq_eq_false_iff_ne]; exact fun h => hu ((tmod4 _).1 h), (hf.2 hu).symm⟩
      · obtain ⟨b1, b2⟩ := after_no (s := s) (n := ((m + 4 : Nat) : Int)) (.inr (by omega))
        by_cases c1 : m + 1 ≤ 150
        · obtain ⟨a1, a2⟩ := after_yes (n := ((m + 1 : Nat) : Int)) hb (by omega)
          rw [Int.toNat_natCast] at a2
          exact .inr (.inl ⟨a1, a2, b1, b2⟩)
        · obtain ⟨a1, a2⟩ := after_no (s := s) (n := ((m + 1 : Nat) : Int)) (.inr (by omega))
          exact .inr (.inr ⟨a1, a2, b1, b2⟩)
    · exact .inl (after_no (.inr (by omega)))
set_option maxRecDepth 100000 in
set_option maxHeartbeats 8000000 in
theorem law_FnAfterTimes (a : Option Addr) (len cap : Nat) (zs : List Int) (w : World) (h : IsRow w a len cap zs) (hd : Dirs w) : Calls Tryd.prog 8 #[.slice a len cap] w fun e w' => e = .returned (.bool true) ∧ Below w.heap.size w w' := by
  have hdr := drawAfterTimes h
  have HDR := Lib.hid hdr; clear hdr h
  have HD := Lib.hid hd; clear hd
  go_enter Tryd.func8, Tryd.ntmps8
  go_wp2_with (go_at_call 23; refine HDR.out.mono ?_; rintro e w1 hp; obtain ⟨s, n, rfl, hs, hn0, hn1, hB1⟩ := hp)
  · go_ret
    exact ⟨rfl, Below.refl _ _⟩
  · have hm : s.size ≤ maxLen := by unfold maxLen; omega
    have c1 := fun w hd => afterTimes_impl s n w hd hm (WalkArith.wf_i64 (by omega))
    have c2 := fun w => afterTimes_spec s n w hm (WalkArith.wf_i64 (by omega))
    have c3 := fun w hd => afterTimes_impl s (n + 4) w hd hm (WalkArith.wf_i64 (by omega))
    have c4 := fun w hd => afterTimes_impl s (n + 1) w hd hm (WalkArith.wf_i64 (by omega))
    have c6 := fun w => turnsOf_impl s w hm
    rcases after_cases s n hs hn0 hn1 with ⟨f1, f2⟩ | ⟨T, O, F, hw, f1, f2, g1, g2, hc⟩
    · rw [f1, f2] at c1 c2
      have C1 := Lib.hid c1; have C2 := Lib.hid c2
      clear c1 c2 c3 c4 c6 f1 f2 hm
      refine (C1.out _ (Dirs.below hB1 HD.out.lt HD.out)).mono ?_
      rintro e w2 ⟨rfl, hb2⟩
      have hB2 := Below.up hB1 hB1.size hb2
      have t2 := Cells3.new w2 (.int .i64 0) (.int .i64 0) (.int .i64 0) 23
      go_wp2_with fail
      refine (C2.out _).mono ?_
      rintro e w3 ⟨rfl, hb3⟩
      have t3 := t2.below hb3 (by exact t2.lt)
      have hB3 := Below.up (hB2.alloc hB2.size (.cells #[.int .i64 0, .int .i64 0, .int .i64 0] 23)) (by have := hB2.size; simp; omega) hb3
      have hl3 := t3.lt
      clear hb3 t2 hB2 hb2
      obtain ⟨⟨ta, tb, tc⟩, td, te, tf⟩ := t3
      go_wp2_with (go_at_call 24; refine (alive_any _).mono ?_; rintro e w' ⟨rfl, rfl⟩)
      go_ret
      exact ⟨rfl, hB3.alloc hB3.size _⟩
    · have c5 := fun w hd => walkedFrom_impl_go T.x T.y T.k s w hd hm
      have et : (⟨T.x, T.y, T.k⟩ : Tw.Tu) = T := rfl
      rw [et, g1, g2] at c5
      rw [f1, f2] at c1 c2
      rw [hw] at c6
      generalize turnsV s = u at *
      generalize afterT s (n + 4) = F' at *
      generalize afterB s (n + 4) = b4 at *
      generalize afterT s (n + 1) = O' at *
      generalize afterB s (n + 1) = b1 at *
      clear g1 g2 f1 f2 hm hw et
      have HC := Lib.hid hc; clear hc
      have C1 := Lib.hid c1; have C2 := Lib.hid c2; have C3 := Lib.hid c3; have C4 := Lib.hid c4; have C5 := Lib.hid c5; have C6 := Lib.hid c6
      clear c1 c2 c3 c4 c5 c6
      refine (C1.out _ (Dirs.below hB1 HD.out.lt HD.out)).mono ?_
      rintro e w2 ⟨rfl, hb2⟩
      have hB2 := Below.up hB1 hB1.size hb2
      have t2 := Cells3.new w2 (.int .i64 T.x) (.int .i64 T.y) (.int .i64 T.k) 23
      go_wp2_with fail
      refine (C2.out _).mono ?_
      rintro e w3 ⟨rfl, hb3⟩
      have t3 := t2.below hb3 (by exact t2.lt)
      have hB3 := Below.up (hB2.alloc hB2.size (.cells #[.int .i64 T.x, .int .i64 T.y, .int .i64 T.k] 23)) (by have := hB2.size; simp; omega) hb3
      have hl3 := t3.lt
      clear hb3 t2 hB2 hb2
      have hB3' := hB3.alloc hB3.size (.cells #[.int .i64 T.x, .int .i64 T.y, .int .i64 T.k] 23)
      have T3 := Lib.hid t3
      obtain ⟨⟨ta, tb, tc⟩, td, te, tf⟩ := t3
      go_wp2_with fail
      refine (C3.out _ (Dirs.below hB3' HD.out.lt HD.out)).mono ?_
      rintro e w4 ⟨rfl, hb4⟩
      have hB4 := Below.up hB3' hB3'.size hb4
      have t4 := Cells3.below ((T3.out).alloc _) hb4 (by simp; omega)
      have hz4 := hb4.size
      simp only [World.size_alloc] at hz4
      clear hb4 T3 ta tb tc td te tf
      go_wp2_with fail
      have t4' := t4.alloc (.cells #[.int .i64 F'.x, .int .i64 F'.y, .int .i64 F'.k] 23)
      have u4 := Cells3.new w4 (.int .i64 F'.x) (.int .i64 F'.y) (.int .i64 F'.k) 23
      have hB4' := hB4.alloc hB4.size (.cells #[.int .i64 F'.x, .int .i64 F'.y, .int .i64 F'.k] 23)
      refine (C4.out _ (Dirs.below hB4' HD.out.lt HD.out)).mono ?_
      rintro e w5 ⟨rfl, hb5⟩
      have hB5 := Below.up hB4' hB4'.size hb5
      have t5 := t4'.below hb5 (by simp; omega)
      have u5 := u4.below hb5 (by simp)
      have hz5 := hb5.size
      simp only [World.size_alloc] at hz5
      clear hb5 t4' u4
      have hT5 := Lib.hid t5
      have hlt5 : w2.heap.size < w5.heap.size := by omega
      obtain ⟨⟨ta, tb, tc⟩, td, te, tf⟩ := t5
      go_wp2_with fail
      have t5' := hT5.out.alloc (.cells #[.int .i64 O'.x, .int .i64 O'.y, .int .i64 O'.k] 23)
      have u5' := u5.alloc (.cells #[.int .i64 O'.x, .int .i64 O'.y, .int .i64 O'.k] 23)
      have v5 := Cells3.new w5 (.int .i64 O'.x) (.int .i64 O'.y) (.int .i64 O'.k) 23
      have hB5' := hB5.alloc hB5.size (.cells #[.int .i64 O'.x, .int .i64 O'.y, .int .i64 O'.k] 23)
      clear ta tb tc td te tf hT5
      refine (C5.out _ (Dirs.below hB5' HD.out.lt HD.out)).mono ?_
      rintro e w6 ⟨rfl, hb6⟩
      have hB6 := Below.up hB5' hB5'.size hb6
      have t6 := t5'.below hb6 (by simp; omega)
      have u6 := u5'.below hb6 (by simp; omega)
      have v6 := v5.below hb6 (by simp)
      have hz6 := hb6.size
      simp only [World.size_alloc] at hz6
      clear hb6 t5' u5' v5
      obtain ⟨⟨ta, tb, tc⟩, td, te, tf⟩ := t6
      obtain ⟨⟨ua, ub, uc⟩, ud, ue, uf⟩ := u6
      obtain ⟨⟨va, vb, vc⟩, vd, ve, vf⟩ := v6
      have hlt6 : w2.heap.size < w6.heap.size := by omega
      have hlt6' : w4.heap.size < w6.heap.size := by omega
      have hlt6'' : w5.heap.size < w6.heap.size := by omega
      have hB7 := hB6.alloc hB6.size (.cells #[.int .i64 O.x, .int .i64 O.y, .int .i64 O.k] 23)
      rcases HC.out with ⟨rfl, rfl, rfl, rfl, hk, hu | ⟨hu, rfl⟩⟩ | ⟨rfl, rfl, rfl, rfl⟩ | ⟨rfl, rfl, rfl, rfl⟩
      all_goals
        go_wp2_with (go_at_call 26; refine (C6.out _).mono ?_; rintro e w' ⟨rfl, rfl⟩)
        go_ret
        exact ⟨rfl, hB7⟩
end Go.Proofs.YtdkhibkebakepaaDoor
