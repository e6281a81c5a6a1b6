/- The law FnDriftOf answers true; what DrawAfterTimes draws. Condition: the table of directions holds what the program's text lays. -/
import Derived.Test.YtdkhibkebakepaaDoorLawC
import Derived.WalkArith
namespace Go.Proofs.YtdkhibkebakepaaDoor
open Go.RowKit
set_option linter.unusedVariables false
set_option linter.unusedSimpArgs false

theorem wf_told' {t : Tw.Tu} {s : ByteArray} (h1 : Tw.tokB t = true) (h2 : Tw.wordB s.data.toList = true) (h3 : Tw.tokB (Tw.run t s.data.toList) = true) : wfB t s = true ∧ wfT t s = Tw.run t s.data.toList := by
  have h : wfB t s = true := by unfold wfB; rw [h1, h2, h3]; rfl
  exact ⟨h, by unfold wfT; rw [h]; rfl⟩
set_option maxHeartbeats 1000000 in
theorem drawDriftOf {a : Option Addr} {len cap : Nat} {zs : List Int} {w : World} (h : IsRow w a len cap zs) : Calls Tryd.prog 29 #[.slice a len cap] w (TextPost w 40) := by
  have ho := open_any h
  have HO := Lib.hid ho; clear ho h
  go_enter Tryd.func29, Tryd.ntmps29
  go_wp2_with (first
    | (go_at_call 39; refine HO.out.mono ?_; rintro e w1 hp; obtain ⟨R, a', len', cap', rfl, hR, hr, hB⟩ := hp)
    | (go_at_call 40; refine (word_any _ _ hr (by omega) (by omega) (by omega) (by omega) (by omega) (by omega)).mono ?_; rintro e w2 hp; obtain ⟨s, p', rfl, hs, hp0, hp1, hr2, hg2⟩ := hp)
    | (go_at_call 41; refine (pick_any _ hr2 (by omega) (by omega) (by omega) (by omega)).mono ?_; rintro e w3 hp; obtain ⟨v, v0, v1, rfl, hr3, hg3, hs3⟩ := hp))
  all_goals have hB2 := below_drawn hB hR hg2
  all_goals have hB3 := below_drawn hB2 hR hg3
  · rename_i hv0
    rw [hv0]
    go_loopw [4, 5] (fun o i wr => ∃ (k : Nat) (s' : ByteArray), k ≤ 4 ∧ i = .int .i64 k ∧ o = .string s' ∧ s'.size ≤ 15 + k ∧ Below w.heap.size w wr) (fun _ i _ => 4 - (intOf i).toNat)
    case atStart => exact ⟨0, s, by omega, rfl, rfl, by omega, hB3⟩
    case round =>
      obtain ⟨k, s', hk, rfl, rfl, hs', hB4⟩ := hrel
      by_cases hlt : k < 4
      · go_wp2_with (go_at_call 44; refine (turnsOf_spec s' _ (by unfold maxLen; omega)).mono ?_; rintro e w' ⟨rfl, rfl⟩)
        · exact ⟨⟨k + 1, s' ++ ⟨#[76]⟩, by omega, by go_num, rfl, by rw [ByteArray.size_append]; show s'.size + 1 ≤ _; omega, hB4⟩, by simp [intOf]; omega⟩
        · exact ⟨⟨k + 1, s', by omega, by go_num, rfl, by omega, hB4⟩, by simp [intOf]; omega⟩
        · exact ⟨⟨k + 1, s', by omega, by go_num, rfl, by omega, hB4⟩, by simp [intOf]; omega⟩
      · go_wp2_with fail
        go_ret
        exact ⟨s', rfl, by omega, hB4⟩
  · go_ret
    exact ⟨s, rfl, by omega, hB3⟩
set_option maxHeartbeats 1000000 in
theorem drawAfterTimes {a : Option Addr} {len cap : Nat} {zs : List Int} {w : World} (h : IsRow w a len cap zs) : Calls Tryd.prog 23 #[.slice a len cap] w fun e w' => ∃ (s : ByteArray) (n : Int), e = .returned (.tuple #[.string s, .int .i64 n]) ∧ s.size ≤ 40 ∧ 0 ≤ n ∧ n ≤ 200 ∧ Below w.heap.size w w' := by
  have ho := open_any h
  have HO := Lib.hid ho; clear ho h
  go_enter Tryd.func23, Tryd.ntmps23
  go_wp2_with (first
    | (go_at_call 39; refine HO.out.mono ?_; rintro e w1 hp; obtain ⟨R, a', len', cap', rfl, hR, hr, hB⟩ := hp)
    | (go_at_call 40; refine (word_any _ _ hr (by omega) (by omega) (by omega) (by omega) (by omega) (by omega)).mono ?_; rintro e w2 hp; obtain ⟨s, p', rfl, hs, hp0, hp1, hr2, hg2⟩ := hp))
  have hB2 := below_drawn hB hR hg2
  refine (pick_any _ hr2 (by omega) (by omega) (by omega) (by omega)).mono ?_
  rintro e w3 hp
  obtain ⟨v, v0, v1, rfl, hr3, hg3, hs3⟩ := hp
  have hB3 := below_drawn hB2 hR hg3
  go_wp2_with fail
  refine (pick_any _ hr3 (by omega) (by omega) (by omega) (by omega)).mono ?_
  rintro e w4 hp
  obtain ⟨v', v0', v1', rfl, hr4, hg4, hs4⟩ := hp
  have hB4 := below_drawn hB3 hR hg4
  go_wp2_with fail
  go_ret2
  exact ⟨s, _, rfl, by omega, by omega, by omega, hB4⟩
theorem drift_cases (s : ByteArray) (hs : s.size ≤ 64) : (driftV s = .tuple #[.int .i64 0, .int .i64 0, .bool false]) ∨
    ∃ x y : Int, -64 ≤ x ∧ x ≤ 64 ∧ -64 ≤ y ∧ y ≤ 64 ∧ driftV s = .tuple #[.int .i64 x, .int .i64 y, .bool true] ∧ ∀ n : Nat, n ≤ 150 → afterB s n = true ∧ afterT s n = ⟨n * x, n * y, 0⟩ := by
  cases hb : twB s
  · exact .inl (drift_no (.inl hb))
  · by_cases hk : (Tw.run ⟨0, 0, 0⟩ s.data.toList).k = 0
    · have n0 : Near ⟨0, 0, 0⟩ 0 := by unfold Near; simp only; omega
      have nT : Near (Tw.run ⟨0, 0, 0⟩ s.data.toList) 64 := (n0.run _).mono (by rw [bytes_len]; omega)
      obtain ⟨x0, x1, y0, y1, -, -⟩ := nT
      refine .inr ⟨_, _, x0, x1, y0, y1, drift_yes hb hk, fun n hn => ?_⟩
      obtain ⟨f1, f2⟩ := after_yes (n := n) hb (by omega)
      refine ⟨f1, ?_⟩
      rw [f2, Int.toNat_natCast]
      exact Tw.drift s.data.toList hk n
    · exact .inl (drift_no (.inr hk))
set_option maxRecDepth 100000 in
set_option maxHeartbeats 4000000 in
theorem law_FnDriftOf (a : Option Addr) (len cap : Nat) (zs : List Int) (w : World) (h : IsRow w a len cap zs) (hd : Dirs w) : Calls Tryd.prog 11 #[.slice a len cap] w fun e w' => e = .returned (.bool true) ∧ Below w.heap.size w w' := by
  have hdr := drawDriftOf h
  have HDR := Lib.hid hdr; clear hdr h
  have HD := Lib.hid hd; clear hd
  go_enter Tryd.func11, Tryd.ntmps11
  go_wp2_with (go_at_call 29; refine HDR.out.mono ?_; rintro e w1 hp; obtain ⟨s, rfl, hs, hB1⟩ := hp)
  · go_ret
    exact ⟨rfl, Below.refl _ _⟩
  · have hm : s.size ≤ maxLen := by unfold maxLen; omega
    have c1 := fun w hd => driftOf_impl s w hd hm
    have c2 := fun w => driftOf_spec s w hm
    rcases drift_cases s (by omega) with hv | ⟨x, y, x0, x1, y0, y1, hv, hat⟩
    · rw [hv] at c1 c2
      have C1 := Lib.hid c1; have C2 := Lib.hid c2
      clear c1 c2 hv hm
      refine (C1.out _ (Dirs.below hB1 HD.out.lt HD.out)).mono ?_
      rintro e w2 ⟨rfl, hb2⟩
      have hB2 := Below.up hB1 hB1.size hb2
      go_wp2_with fail
      refine (C2.out _).mono ?_
      rintro e w3 ⟨rfl, hb3⟩
      have hB3 := Below.up hB2 hB2.size hb3
      go_wp2_with (go_at_call 24; refine (alive_any _).mono ?_; rintro e w' ⟨rfl, rfl⟩)
      go_ret
      exact ⟨rfl, hB3⟩
    · rw [hv] at c1 c2
      have a2 : ∀ w, Dirs w → Calls Tryd.prog 20 #[.string s, .int .i64 2] w fun e w' => e = .returned (.tuple #[.agg #[.int .i64 (2 * x), .int .i64 (2 * y), .int .i64 0], .bool true]) ∧ Below w.heap.size w w' := fun w hd => by
        have := afterTimes_impl s 2 w hd hm (by decide)
        obtain ⟨f1, f2⟩ := hat 2 (by omega)
        have e : ((2 : Nat) : Int) = 2 := rfl
        rw [e] at f1 f2
        rw [f1, f2] at this
        exact this
      have a3 : ∀ w, Dirs w → Calls Tryd.prog 20 #[.string s, .int .i64 3] w fun e w' => e = .returned (.tuple #[.agg #[.int .i64 (3 * x), .int .i64 (3 * y), .int .i64 0], .bool true]) ∧ Below w.heap.size w w' := fun w hd => by
        have := afterTimes_impl s 3 w hd hm (by decide)
        obtain ⟨f1, f2⟩ := hat 3 (by omega)
        have e : ((3 : Nat) : Int) = 3 := rfl
        rw [e] at f1 f2
        rw [f1, f2] at this
        exact this
      have a10 : ∀ w, Dirs w → Calls Tryd.prog 20 #[.string s, .int .i64 10] w fun e w' => e = .returned (.tuple #[.agg #[.int .i64 (10 * x), .int .i64 (10 * y), .int .i64 0], .bool true]) ∧ Below w.heap.size w w' := fun w hd => by
        have := afterTimes_impl s 10 w hd hm (by decide)
        obtain ⟨f1, f2⟩ := hat 10 (by omega)
        have e : ((10 : Nat) : Int) = 10 := rfl
        rw [e] at f1 f2
        rw [f1, f2] at this
        exact this
      have C1 := Lib.hid c1; have C2 := Lib.hid c2
      have A2 := Lib.hid a2; have A3 := Lib.hid a3; have A10 := Lib.hid a10
      clear c1 c2 hv hm hat a2 a3 a10
      refine (C1.out _ (Dirs.below hB1 HD.out.lt HD.out)).mono ?_
      rintro e w2 ⟨rfl, hb2⟩
      have hB2 := Below.up hB1 hB1.size hb2
      go_wp2_with fail
      refine (C2.out _).mono ?_
      rintro e w3 ⟨rfl, hb3⟩
      have hB3 := Below.up hB2 hB2.size hb3
      clear hb2 hb3
      go_wp2_with fail
      have q3 := Cells3.new w3 (.int .i64 2) (.int .i64 3) (.int .i64 10) 3
      have hB4 := hB3.alloc hB3.size (.cells #[.int .i64 2, .int .i64 3, .int .i64 10] 3)
      have hz := hB3.size
      generalize w3.heap.size = b at q3 hz ⊢
      generalize w3.alloc (.cells #[.int .i64 2, .int .i64 3, .int .i64 10] 3) = W0 at q3 hB4 ⊢
      go_loopw [57] (fun i wr => ∃ j : Nat, j ≤ 3 ∧ i = .int .i64 j ∧ Cells3 wr b (.int .i64 2) (.int .i64 3) (.int .i64 10) ∧ Below w.heap.size w wr) (fun i _ => 3 - (intOf i).toNat)
      case atStart => exact ⟨0, by omega, rfl, q3, hB4⟩
      case round =>
        obtain ⟨j, hj, rfl, hq, hB⟩ := hrel
        have hD := Dirs.below hB HD.out.lt HD.out
        have hDD := Lib.hid hD; clear hD
        have hqq := Lib.hid hq
        have hlt := hq.lt
        have hzB := hB.size
        obtain ⟨⟨qa, qb, qc⟩, qd, qe, qf⟩ := hq
        have hj4 : j = 0 ∨ j = 1 ∨ j = 2 ∨ j = 3 := by omega
        rcases hj4 with rfl | rfl | rfl | rfl
        · go_wp2_with (go_at_call 20; refine (A2.out _ hDD.out).mono ?_; rintro e w5 ⟨rfl, hb5⟩)
          have hB5 := Below.up hB hzB hb5
          exact ⟨⟨1, by omega, rfl, (hqq.out.below hb5 hlt).alloc _, hB5.alloc hB5.size _⟩, by simp [intOf]⟩
        · go_wp2_with (go_at_call 20; refine (A3.out _ hDD.out).mono ?_; rintro e w5 ⟨rfl, hb5⟩)
          have hB5 := Below.up hB hzB hb5
          exact ⟨⟨2, by omega, rfl, (hqq.out.below hb5 hlt).alloc _, hB5.alloc hB5.size _⟩, by simp [intOf]⟩
        · go_wp2_with (go_at_call 20; refine (A10.out _ hDD.out).mono ?_; rintro e w5 ⟨rfl, hb5⟩)
          have hB5 := Below.up hB hzB hb5
          exact ⟨⟨3, by omega, rfl, (hqq.out.below hb5 hlt).alloc _, hB5.alloc hB5.size _⟩, by simp [intOf]⟩
        · go_wp2_with (go_at_call 24; refine (alive_any _).mono ?_; rintro e w' ⟨rfl, rfl⟩)
          go_ret
          exact ⟨rfl, hB⟩
end Go.Proofs.YtdkhibkebakepaaDoor
