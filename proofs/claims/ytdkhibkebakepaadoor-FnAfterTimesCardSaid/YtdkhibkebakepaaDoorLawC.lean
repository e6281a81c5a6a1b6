/- The laws FnRoundsOf and FnFarthestOf answer true. Condition: the table of directions holds what the program's text lays. -/
import Derived.Test.YtdkhibkebakepaaDoorGen
namespace Go.Proofs.YtdkhibkebakepaaDoor
open Go.RowKit
set_option linter.unusedVariables false
set_option linter.unusedSimpArgs false

theorem rounds_cases {s : ByteArray} (hb : Tw.wordB s.data.toList = true) (hl : s.size ≤ 64) :
    (Tw.run ⟨0, 0, 0⟩ s.data.toList = ⟨0, 0, 0⟩ ∧ roundsN s = 1 ∧ roundsB s = true) ∨
    ((Tw.run ⟨0, 0, 0⟩ s.data.toList).k = 0 ∧ ¬ ((Tw.run ⟨0, 0, 0⟩ s.data.toList).x = 0 ∧ (Tw.run ⟨0, 0, 0⟩ s.data.toList).y = 0) ∧ roundsN s = -1 ∧ roundsB s = false) ∨
    ((Tw.run ⟨0, 0, 0⟩ s.data.toList).k = 2 ∧ roundsN s = 2 ∧ roundsB s = true) ∨
    (((Tw.run ⟨0, 0, 0⟩ s.data.toList).k = 1 ∨ (Tw.run ⟨0, 0, 0⟩ s.data.toList).k = 3) ∧ roundsN s = 4 ∧ roundsB s = true) := by
  have ht : twB s = true := by unfold twB; rw [hb, decide_eq_true hl]; rfl
  obtain ⟨r0, r2, r4⟩ := Tw.rounds_by s.data.toList
  have hk := Tw.run_k s.data.toList ⟨0, 0, 0⟩ ⟨by decide, by decide⟩
  have eh : (Tw.home : Tw.Tu) = ⟨0, 0, 0⟩ := rfl
  rw [eh] at r0 r2 r4
  have hB : ∀ n : Int, Tw.rounds s.data.toList = n → n ≠ 0 → roundsN s = n ∧ roundsB s = true := fun n hn h0 => by
    have e : roundsB s = true := by unfold roundsB; rw [ht, hn]; simp [h0]
    exact ⟨by unfold roundsN; rw [e, hn]; rfl, e⟩
  by_cases h0 : (Tw.run ⟨0, 0, 0⟩ s.data.toList).k = 0
  · have r := r0 h0
    by_cases hh : Tw.homeB (Tw.run ⟨0, 0, 0⟩ s.data.toList) = true
    · rw [hh] at r
      exact .inl ⟨(Tw.homeB_iff _).1 hh, hB 1 r (by decide)⟩
    · have hh' : Tw.homeB (Tw.run ⟨0, 0, 0⟩ s.data.toList) = false := by simpa using hh
      rw [hh'] at r
      have e : roundsB s = false := by unfold roundsB; rw [r]; simp
      refine .inr (.inl ⟨h0, fun ⟨a, b⟩ => ?_, by unfold roundsN; rw [e]; rfl, e⟩)
      unfold Tw.homeB at hh
      rw [decide_eq_true_iff] at hh
      exact hh ⟨a, b, h0⟩
  · by_cases h2 : (Tw.run ⟨0, 0, 0⟩ s.data.toList).k = 2
    · exact .inr (.inr (.inl ⟨h2, hB 2 (r2 h2) (by decide)⟩))
    · have h13 : (Tw.run ⟨0, 0, 0⟩ s.data.toList).k = 1 ∨ (Tw.run ⟨0, 0, 0⟩ s.data.toList).k = 3 := by omega
      exact .inr (.inr (.inr ⟨h13, hB 4 (r4 h13) (by decide)⟩))
theorem rounds_no {s : ByteArray} (hb : Tw.wordB s.data.toList = false) : roundsN s = -1 ∧ roundsB s = false := by
  have e : roundsB s = false := by unfold roundsB twB; rw [hb]; rfl
  exact ⟨by unfold roundsN; rw [e]; rfl, e⟩

set_option maxRecDepth 100000 in
set_option maxHeartbeats 4000000 in
theorem law_FnRoundsOf (a : Option Addr) (len cap : Nat) (zs : List Int) (w : World) (h : IsRow w a len cap zs) (hd : Dirs w) : Calls Tryd.prog 10 #[.slice a len cap] w fun e w' => e = .returned (.bool true) ∧ Below w.heap.size w w' := by
  have hdr := drawRoundsOf h
  have HDR := Lib.hid hdr; clear hdr h
  have HD := Lib.hid hd; clear hd
  go_enter Tryd.func10, Tryd.ntmps10
  go_wp2_with (go_at_call 28; refine HDR.out.mono ?_; rintro e w1 hp; obtain ⟨s, rfl, hs, hB1⟩ := hp)
  · go_ret
    exact ⟨rfl, Below.refl _ _⟩
  · have hm : s.size ≤ maxLen := by unfold maxLen; omega
    have hd1 := Dirs.below hB1 HD.out.lt HD.out
    have c1 := roundsOf_impl s w1 hd1 hm
    have c2 := fun w => roundsOf_spec s w hm
    have c3 := fun w => turnsOf_impl s w hm
    have c4 := fun w hd => walkedOf_impl s w hd hm
    unfold roundsV at c1 c2
    clear hd1
    cases hb : Tw.wordB s.data.toList
    · obtain ⟨q1, q2⟩ := rounds_no hb
      rw [q1, q2] at c1 c2
      rw [turnsV_not hb, hb] at c3
      have C1 := Lib.hid c1; have C2 := Lib.hid c2; have C3 := Lib.hid c3
      clear c1 c2 c3 c4 hb q1 q2 hm
      refine C1.out.mono ?_
      rintro e w2 ⟨rfl, hb2⟩
      have hB2 := Below.up hB1 hB1.size hb2
      go_wp2_with fail
      refine (C2.out _).mono ?_
      rintro e w3 ⟨rfl, hb3⟩
      have hB3 := Below.up hB2 hB2.size hb3
      go_wp2_with (first
        | (go_at_call 26; refine (C3.out _).mono ?_; rintro e w' ⟨rfl, rfl⟩)
        | (go_at_call 24; refine (alive_any _).mono ?_; rintro e w' ⟨rfl, rfl⟩))
      go_ret
      exact ⟨rfl, hB3⟩
    · obtain ⟨f1, f2, nT⟩ := home_told hb
      rw [f1, f2] at c4
      rw [turnsV_word hb, hb] at c3
      have g3 := Tw.run_look s.data.toList ⟨0, 0, 0⟩ (wordB_all hb) ⟨by decide, by decide⟩
      have g4 := Tw.turns_bd s.data.toList
      rw [bytes_len] at g4
      have g5 := look_tmod (Tw.turns s.data.toList) (by omega) (by omega)
      have hcs := rounds_cases hb (by omega)
      generalize Tw.turns s.data.toList = u at *
      simp only [Int.zero_add] at g3
      rw [← g3] at g5
      clear hb f1 f2 hm
      generalize Tw.run ⟨0, 0, 0⟩ s.data.toList = T at *
      obtain ⟨x0, x1, y0, y1, k0, k1⟩ := nT
      rcases hcs with ⟨rfl, q1, q2⟩ | ⟨hk, hxy, q1, q2⟩ | ⟨hk, q1, q2⟩ | ⟨hk, q1, q2⟩
      all_goals
        rw [q1, q2] at c1 c2
        have C1 := Lib.hid c1; have C2 := Lib.hid c2; have C3 := Lib.hid c3; have C4 := Lib.hid c4
        clear c1 c2 c3 c4 q1 q2
        refine C1.out.mono ?_
        rintro e w2 ⟨rfl, hb2⟩
        have hB2 := Below.up hB1 hB1.size hb2
        go_wp2_with fail
        refine (C2.out _).mono ?_
        rintro e w3 ⟨rfl, hb3⟩
        have hB3 := Below.up hB2 hB2.size hb3
        go_wp2_with (first
          | (go_at_call 26; refine (C3.out _).mono ?_; rintro e w' ⟨rfl, rfl⟩)
          | (go_at_call 13; refine (C4.out _ (Dirs.below hB3 HD.out.lt HD.out)).mono ?_; rintro e w4 ⟨rfl, hb4⟩))
        all_goals
          have hB4 := (Below.up hB3 hB3.size hb4).alloc (Below.up hB3 hB3.size hb4).size
          go_ret
          exact ⟨rfl, hB4 _⟩
theorem far_home (s : ByteArray) (h : roundsB s = true) : Tw.run ⟨0, 0, 0⟩ (Tw.rep s.data.toList (Tw.rounds s.data.toList).toNat) = ⟨0, 0, 0⟩ := by
  rw [Tw.run_rep]
  have hne : Tw.rounds s.data.toList ≠ 0 := by
    unfold roundsB at h; rw [Bool.and_eq_true, decide_eq_true_iff] at h; exact h.2
  have eh : (Tw.home : Tw.Tu) = ⟨0, 0, 0⟩ := rfl
  rw [← eh]
  unfold Tw.rounds at hne ⊢
  split at hne
  · rename_i h1; rw [if_pos h1]; exact (Tw.homeB_iff _).1 h1
  · rename_i h1
    split at hne
    · rename_i h2; rw [if_neg h1, if_pos h2]; exact (Tw.homeB_iff _).1 h2
    · rename_i h2
      split at hne
      · rename_i h3; rw [if_neg h1, if_neg h2, if_pos h3]; exact (Tw.homeB_iff _).1 h3
      · rename_i h3
        split at hne
        · rename_i h4; rw [if_neg h1, if_neg h2, if_neg h3, if_pos h4]; exact (Tw.homeB_iff _).1 h4
        · exact absurd rfl hne
theorem far_facts {s : ByteArray} (h : roundsB s = true) : ∃ R : Nat, (R = 1 ∨ R = 2 ∨ R = 3 ∨ R = 4) ∧ roundsN s = R ∧ 0 ≤ farN s ∧ 2 * farN s ≤ R * Tw.fs s.data.toList ∧ (farN s = 0 ↔ Tw.fs s.data.toList = 0) := by
  obtain ⟨R, hR0, hR4, e1, e2, e3, hw, hl⟩ := rounds_of h
  have hh := far_home s h
  rw [e1, Int.toNat_natCast] at hh
  rw [fl_all] at e3
  have m1 := Tw.most_half (Tw.rep s.data.toList R) hh
  have m2 := Tw.most_zero (Tw.rep s.data.toList R)
  rw [Tw.fs_rep] at m1 m2
  have eh : (Tw.home : Tw.Tu) = ⟨0, 0, 0⟩ := rfl
  rw [eh, ← e3] at m1 m2
  have m3 : 0 ≤ farN s := by rw [e3]; exact Tw.most_ge _ _ _
  refine ⟨R, by omega, e2, m3, m1, ?_⟩
  rw [m2]
  have hR : R = 1 ∨ R = 2 ∨ R = 3 ∨ R = 4 := by omega
  rcases hR with rfl | rfl | rfl | rfl <;> omega
set_option maxRecDepth 100000 in
set_option maxHeartbeats 4000000 in
theorem law_FnFarthestOf (a : Option Addr) (len cap : Nat) (zs : List Int) (w : World) (h : IsRow w a len cap zs) (hd : Dirs w) : Calls Tryd.prog 9 #[.slice a len cap] w fun e w' => e = .returned (.bool true) ∧ Below w.heap.size w w' := by
  have hdr := drawFarthestOf h
  have HDR := Lib.hid hdr; clear hdr h
  have HD := Lib.hid hd; clear hd
  go_enter Tryd.func9, Tryd.ntmps9
  go_wp2_with (go_at_call 27; refine HDR.out.mono ?_; rintro e w1 hp; obtain ⟨s, rfl, hs, hB1⟩ := hp)
  · go_ret
    exact ⟨rfl, Below.refl _ _⟩
  · have hm : s.size ≤ maxLen := by unfold maxLen; omega
    have c1 := fun w hd => farthestOf_impl s w hd hm
    have c2 := fun w => farthestOf_spec s w hm
    have c3 := fun w hd => roundsOf_impl s w hd hm
    unfold roundsV at c3
    cases hb : roundsB s
    · have q1 : roundsN s = -1 := by unfold roundsN; rw [hb]; rfl
      have q2 : farN s = -1 := by unfold farN; rw [hb]; rfl
      rw [q2, hb] at c1 c2
      rw [q1, hb] at c3
      have C1 := Lib.hid c1; have C2 := Lib.hid c2; have C3 := Lib.hid c3
      clear c1 c2 c3 hb q1 q2 hm
      refine (C1.out _ (Dirs.below hB1 HD.out.lt HD.out)).mono ?_
      rintro e w2 ⟨rfl, hb2⟩
      have hB2 := Below.up hB1 hB1.size hb2
      go_wp2_with fail
      refine (C2.out _).mono ?_
      rintro e w3 ⟨rfl, hb3⟩
      have hB3 := Below.up hB2 hB2.size hb3
      go_wp2_with fail
      refine (C3.out _ (Dirs.below hB3 HD.out.lt HD.out)).mono ?_
      rintro e w4 ⟨rfl, hb4⟩
      have hB4 := Below.up hB3 hB3.size hb4
      go_wp2_with (go_at_call 24; refine (alive_any _).mono ?_; rintro e w' ⟨rfl, rfl⟩)
      go_ret
      exact ⟨rfl, hB4⟩
    · obtain ⟨R, hR, q1, q3, q4, q5⟩ := far_facts hb
      have q6 := fs_bd s s.size
      rw [take_all] at q6
      rw [hb] at c1 c2
      rw [q1, hb] at c3
      have C1 := Lib.hid c1; have C2 := Lib.hid c2; have C3 := Lib.hid c3
      clear c1 c2 c3 hb q1 hm
      generalize farN s = n at *
      have hR4 : (R : Int) ≤ 4 := by omega
      have hn : n ≤ 1000 := by rcases hR with rfl | rfl | rfl | rfl <;> omega
      have Q4 := Lib.hid q4; have Q5 := Lib.hid q5
      clear q4 q5
      refine (C1.out _ (Dirs.below hB1 HD.out.lt HD.out)).mono ?_
      rintro e w2 ⟨rfl, hb2⟩
      have hB2 := Below.up hB1 hB1.size hb2
      go_wp2_with fail
      refine (C2.out _).mono ?_
      rintro e w3 ⟨rfl, hb3⟩
      have hB3 := Below.up hB2 hB2.size hb3
      go_wp2_with fail
      refine (C3.out _ (Dirs.below hB3 HD.out.lt HD.out)).mono ?_
      rintro e w4 ⟨rfl, hb4⟩
      have hB4 := Below.up hB3 hB3.size hb4
      go_wp2_with fail
      go_loop [10, 11] (fun n i => ∃ k : Nat, k ≤ s.size ∧ i = .int .i64 k ∧ n = .int .i64 (Tw.fs (s.data.toList.take k))) (fun _ i => s.size - (intOf i).toNat)
      case atStart => exact ⟨0, Nat.zero_le _, rfl, rfl⟩
      case round =>
        obtain ⟨k, hk, rfl, rfl⟩ := hrel
        have hfb := fs_bd s k
        by_cases hlt : k < s.size
        · have hst := fs_step s k hlt
          have HS := Lib.hid hst; clear hst
          go_wp2_with fail
          all_goals exact ⟨⟨k + 1, by omega, by go_num, int_eq (by rw [HS.out]; simp only [bne_iff_ne, beq_iff_eq, bne_eq_false_iff_eq, beq_eq_false_iff_ne, ne_eq] at *; simp [*]; try omega)⟩, by simp [intOf]; omega⟩
        · obtain rfl : k = s.size := by omega
          rw [take_all] at hfb ⊢
          generalize Tw.fs s.data.toList = f at *
          rcases hR with rfl | rfl | rfl | rfl
          all_goals
            have q4 := Q4.out
            have q5 := Q5.out
            go_wp2_with fail
            have e : (n == 0) = (f == 0) := by rw [Bool.eq_iff_iff, beq_iff_eq, beq_iff_eq]; exact q5
            go_ret
            exact ⟨ret_bool (by rw [e]; simp), hB4⟩
end Go.Proofs.YtdkhibkebakepaaDoor
