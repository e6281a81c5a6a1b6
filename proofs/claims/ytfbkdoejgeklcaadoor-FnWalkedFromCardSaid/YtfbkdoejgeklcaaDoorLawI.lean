/- The law FnWalkedFrom answers true. Condition: the table of directions holds what the program's text lays. -/
import Derived.Test.YtfbkdoejgeklcaaDoorLawH
import Derived.Test.YtfbkdoejgeklcaaDoorDrawT
namespace Go.Proofs.YtfbkdoejgeklcaaDoor
open Go.RowKit
set_option linter.unusedVariables false
set_option linter.unusedSimpArgs false

def FromPost (w : World) (e : Ending) (w' : World) : Prop := ∃ (x y k : Int) (s : ByteArray), e = .returned (.tuple #[.agg #[.int .i64 x, .int .i64 y, .int .i64 k], .string s]) ∧ s.size ≤ 40 ∧ Below w.heap.size w w'
set_option maxRecDepth 100000 in
theorem drawWalkedFrom {a : Option Addr} {len cap : Nat} {zs : List Int} {w : World} (h : IsRow w a len cap zs) : Calls Tryd.prog 19 #[.slice a len cap] w (FromPost w) := by
  have HO := Lib.hid h; clear h
  go_enter Tryd.func19, Tryd.ntmps19
  go_wp2_with fail
  refine (open_any (HO.out.same ((Below.refl _ _).alloc (Nat.le_refl _) _))).mono ?_
  rintro e w1 hp; obtain ⟨R, a1, len1, cap1, rfl, hR, hr1, hB1⟩ := hp
  rw [World.size_alloc] at hR hB1
  have q1 := (Cells3.new w (.int .i64 0) (.int .i64 0) (.int .i64 0) 24).below hB1 (by omega)
  have hz1 := hB1.size
  rw [World.size_alloc] at hz1
  have hB : Below w.heap.size w w1 := ((Below.refl _ _).alloc (Nat.le_refl _) _).trans (hB1.mono (by omega))
  go_wp2_with fail
  refine (turtle_any _ hr1 (by omega) (by omega) (by omega) (by omega)).mono ?_
  rintro e w2 hp; obtain ⟨x, y, k, p', rfl, x0, x1, y0, y1, k0, k1, hp0, hp1, hr2, hg2⟩ := hp
  have q2 := q1.block (hg2.block _ q1.lt (fun e => by cases e; omega))
  have hB2 : Below w.heap.size w w2 := hB.grown hg2 hB.size (fun k hk => by cases hk; omega)
  clear q1 hr1
  go_wp2_with fail
  refine (word_any _ _ hr2 (by omega) (by omega) (by omega) (by omega) (by omega) (by omega)).mono ?_
  rintro e w3 hp; obtain ⟨s, p2, rfl, hs, hp2, hp3, hr3, hg3⟩ := hp
  have q3 := q2.block (hg3.block _ q2.lt (fun e => by cases e; omega))
  have hB3 : Below w.heap.size w w3 := hB2.grown hg3 hB2.size (fun k hk => by cases hk; omega)
  obtain ⟨⟨qa, qb, qc⟩, qd, qe, qf⟩ := q3
  clear q2 hr2 hr3
  go_wp2_with fail
  refine bodyPost_ret (v := .tuple #[.agg #[.int .i64 x, .int .i64 y, .int .i64 k], .string s]) (by simp [results, Tryd.results19, go_sem, qa, qb, qc]) rfl ?_
  refine ⟨x, y, k, s, rfl, by omega, ?_⟩
  exact ((hB3.setCell (by simp) _).setCell (by simp) _).setCell (by simp) _
theorem wf_parts {t : Tw.Tu} {s : ByteArray} (h : wfB t s = true) : Tw.tokB t = true ∧ Tw.wordB s.data.toList = true ∧ Tw.tokB (Tw.run t s.data.toList) = true ∧ wfT t s = Tw.run t s.data.toList := by
  have h' := h
  unfold wfB at h'
  rw [Bool.and_eq_true, Bool.and_eq_true] at h'
  exact ⟨h'.1.1, h'.1.2, h'.2, by unfold wfT; rw [h]; rfl⟩
theorem rx_step (j x y : Int) (h0 : 0 ≤ j) (h1 : j ≤ 2) : Tw.rx (j + 1) x y = -(Tw.ry j x y) ∧ Tw.ry (j + 1) x y = Tw.rx j x y := by
  have hj : j = 0 ∨ j = 1 ∨ j = 2 := by omega
  rcases hj with rfl | rfl | rfl <;> simp [Tw.rx, Tw.ry]
theorem rx_bd (j x y n : Int) (hx : -n ≤ x ∧ x ≤ n) (hy : -n ≤ y ∧ y ≤ n) : (-n ≤ Tw.rx j x y ∧ Tw.rx j x y ≤ n) ∧ (-n ≤ Tw.ry j x y ∧ Tw.ry j x y ≤ n) := by
  unfold Tw.rx Tw.ry
  constructor <;> (repeat' split) <;> omega
theorem both_on {t : Tw.Tu} {s n : ByteArray} (h : wfB t s = true) (hA : wfB t (s ++ n) = true) (hB : wfB (wfT t s) n = true) : wfT t (s ++ n) = wfT (wfT t s) n := by
  obtain ⟨_, _, _, e1⟩ := wf_parts h
  obtain ⟨_, _, _, e2⟩ := wf_parts hA
  obtain ⟨_, _, _, e3⟩ := wf_parts hB
  rw [e3, e2, e1, app_list, Tw.run_append]
set_option maxRecDepth 100000 in
set_option maxHeartbeats 8000000 in
theorem law_FnWalkedFrom (a : Option Addr) (len cap : Nat) (zs : List Int) (a2 : Option Addr) (len2 cap2 : Nat) (zs2 : List Int) (w : World) (h : IsRow w a len cap zs) (h2 : IsRow w a2 len2 cap2 zs2) (hd : Dirs w) : Calls Tryd.prog 6 #[.slice a len cap, .slice a2 len2 cap2] w fun e w' => e = .returned (.bool true) ∧ Below w.heap.size w w' := by
  have hdr := drawWalkedFrom h
  have HDR := Lib.hid hdr; clear hdr h
  have HD := Lib.hid hd; clear hd
  have H2 := Lib.hid h2; clear h2
  go_enter Tryd.func6, Tryd.ntmps6
  go_wp2_with fail
  · go_ret
    exact ⟨rfl, Below.refl _ _⟩
  · refine HDR.out.mono ?_
    rintro e w1 hp; obtain ⟨x, y, k, s, rfl, hs, hB1⟩ := hp
    have hm : s.size ≤ maxLen := by unfold maxLen; omega
    have c1 := fun w hd => walkedFrom_impl_go x y k s w hd hm
    have c2 := fun w => walkedFrom_spec_go x y k s w hm
    have t1 := Cells3.new w1 (.int .i64 x) (.int .i64 y) (.int .i64 k) 24
    have hB1' := hB1.alloc hB1.size (.cells #[.int .i64 x, .int .i64 y, .int .i64 k] 24)
    go_wp2_with fail
    cases hb : wfB ⟨x, y, k⟩ s
    · have hT : wfT ⟨x, y, k⟩ s = ⟨0, 0, 0⟩ := by unfold wfT; rw [hb]; rfl
      rw [hb, hT] at c1 c2
      have C1 := Lib.hid c1; have C2 := Lib.hid c2
      clear c1 c2 hb hT hm
      refine (C1.out _ (Dirs.below hB1' HD.out.lt HD.out)).mono ?_
      rintro e w2 ⟨rfl, hb2⟩
      have hB2 := Below.up hB1' hB1'.size hb2
      have t2 := t1.below hb2 (by simp)
      have hz2 := hb2.size
      simp only [World.size_alloc] at hz2
      clear hb2 t1
      have T2 := Lib.hid t2
      obtain ⟨⟨ta, tb, tc⟩, td, te, tf⟩ := t2
      have hlt2 : w1.heap.size < w2.heap.size := by omega
      go_wp2_with fail
      have u2 := Cells3.new w2 (.int .i64 0) (.int .i64 0) (.int .i64 0) 24
      have hB2' := hB2.alloc hB2.size (.cells #[.int .i64 0, .int .i64 0, .int .i64 0] 24)
      refine (C2.out _).mono ?_
      rintro e w3 ⟨rfl, hb3⟩
      have hB3 := Below.up hB2' hB2'.size hb3
      have u3 := u2.below hb3 (by simp)
      have hz3 := hb3.size
      simp only [World.size_alloc] at hz3
      have hlt3 : w2.heap.size < w3.heap.size := by omega
      clear hb3 u2 ta tb tc td te tf
      obtain ⟨⟨ua, ub, uc⟩, ud, ue, uf⟩ := u3
      go_wp2_with (go_at_call 14; refine (alive_any _).mono ?_; rintro e w' ⟨rfl, rfl⟩)
      go_ret
      exact ⟨rfl, hB3.alloc hB3.size _⟩
    · obtain ⟨k1, k2, k3, k4⟩ := wf_parts hb
      have hn0 : 0 ≤ k ∧ k ≤ 3 ∧ -10000 ≤ x ∧ x ≤ 10000 ∧ -10000 ≤ y ∧ y ≤ 10000 := by
        unfold Tw.tokB at k1; rw [decide_eq_true_iff] at k1; simp only at k1; omega
      have hrf := Tw.run_from ⟨x, y, k⟩ s.data.toList ⟨hn0.1, hn0.2.1⟩
      have eh : (Tw.home : Tw.Tu) = ⟨0, 0, 0⟩ := rfl
      rw [eh, ← k4] at hrf
      have n0 : Near ⟨0, 0, 0⟩ 0 := by unfold Near; simp only; omega
      have nH : Near (Tw.run ⟨0, 0, 0⟩ s.data.toList) 64 := (n0.run _).mono (by rw [bytes_len]; omega)
      have g1 := wf_told (t := ⟨0, 0, 0⟩) (s := s) (tok_of (n0.mono (by omega))) k2 (tok_of (nH.mono (by omega)))
      have c5 := fun w hd => walkedOf_impl s w hd hm
      rw [g1.1, g1.2] at c5
      have hbo := fun n => both_on (t := ⟨x, y, k⟩) (s := s) (n := n) hb
      rw [hb] at c1 c2
      clear k1 k2 k3 k4 n0 g1 eh hb
      generalize wfT ⟨x, y, k⟩ s = T at *
      generalize Tw.run ⟨0, 0, 0⟩ s.data.toList = H at *
      have HBO := Lib.hid hbo
      have HRF := Lib.hid hrf
      have C1 := Lib.hid c1; have C2 := Lib.hid c2; have C5 := Lib.hid c5
      clear c1 c2 c5 hbo hrf
      refine (C1.out _ (Dirs.below hB1' HD.out.lt HD.out)).mono ?_
      rintro e w2 ⟨rfl, hb2⟩
      have hB2 := Below.up hB1' hB1'.size hb2
      have t2 := t1.below hb2 (by simp)
      have hz2 := hb2.size
      simp only [World.size_alloc] at hz2
      clear hb2 t1
      have T2 := Lib.hid t2
      obtain ⟨⟨ta, tb, tc⟩, td, te, tf⟩ := t2
      have hlt2 : w1.heap.size < w2.heap.size := by omega
      go_wp2_with fail
      have t2' := T2.out.alloc (.cells #[.int .i64 T.x, .int .i64 T.y, .int .i64 T.k] 24)
      have u2 := Cells3.new w2 (.int .i64 T.x) (.int .i64 T.y) (.int .i64 T.k) 24
      have hB2' := hB2.alloc hB2.size (.cells #[.int .i64 T.x, .int .i64 T.y, .int .i64 T.k] 24)
      clear ta tb tc td te tf T2
      refine (C2.out _).mono ?_
      rintro e w3 ⟨rfl, hb3⟩
      have hB3 := Below.up hB2' hB2'.size hb3
      have t3 := t2'.below hb3 (by simp; omega)
      have u3 := u2.below hb3 (by simp)
      have hz3 := hb3.size
      simp only [World.size_alloc] at hz3
      have hlt3 : w2.heap.size < w3.heap.size := by omega
      have hlt3' : w1.heap.size < w3.heap.size := by omega
      clear hb3 u2 t2'
      have hB3' := hB3.alloc hB3.size (.cells #[.int .i64 T.x, .int .i64 T.y, .int .i64 T.k] 24)
      have t3' := Lib.hid (t3.alloc (.cells #[.int .i64 T.x, .int .i64 T.y, .int .i64 T.k] 24)); have u3' := Lib.hid (u3.alloc (.cells #[.int .i64 T.x, .int .i64 T.y, .int .i64 T.k] 24))
      obtain ⟨⟨ta, tb, tc⟩, td, te, tf⟩ := t3
      obtain ⟨⟨ua, ub, uc⟩, ud, ue, uf⟩ := u3
      go_wp2_with fail
      clear ta tb tc td te tf ua ub uc ud ue uf
      refine (drawWordOk (H2.out.same hB3')).mono ?_
      rintro e w4 hp; obtain ⟨n, rfl, hn, hb4⟩ := hp
      have hB4 := Below.up hB3' hB3'.size hb4
      have t4 := t3'.out.below hb4 (by simp; omega)
      have u4 := u3'.out.below hb4 (by simp; omega)
      have hz4 := hb4.size
      simp only [World.size_alloc] at hz4
      have hlt4 : w2.heap.size < w4.heap.size := by omega
      have hlt4' : w1.heap.size < w4.heap.size := by omega
      clear hb4 t3' u3'
      have T4 := Lib.hid t4; have U4 := Lib.hid u4
      obtain ⟨⟨ta, tb, tc⟩, td, te, tf⟩ := t4
      have hmn : (s ++ n).size ≤ maxLen := by rw [ByteArray.size_append]; unfold maxLen; omega
      have hmn' : n.size ≤ maxLen := by unfold maxLen; omega
      have hbn := HBO.out n
      have c3 := fun w hd => walkedFrom_impl_go x y k (s ++ n) w hd hmn
      have c4 := fun w hd => walkedFrom_impl_go T.x T.y T.k n w hd hmn'
      have et : (⟨T.x, T.y, T.k⟩ : Tw.Tu) = T := rfl
      rw [et] at c4
      clear et hmn hmn' HBO
      generalize wfT ⟨x, y, k⟩ (s ++ n) = VA at *
      generalize wfB ⟨x, y, k⟩ (s ++ n) = bA at *
      generalize wfT T n = VB at *
      generalize wfB T n = bB at *
      have C3 := Lib.hid c3; have C4 := Lib.hid c4; have HBN := Lib.hid hbn
      clear c3 c4 hbn
      go_wp2_with fail
      clear ta tb tc td te tf
      refine (C3.out _ (Dirs.below hB4 HD.out.lt HD.out)).mono ?_
      rintro e w5 ⟨rfl, hb5⟩
      have hB5 := Below.up hB4 hB4.size hb5
      have t5 := T4.out.below hb5 (by omega)
      have u5 := U4.out.below hb5 (by omega)
      have hz5 := hb5.size
      have hlt5 : w2.heap.size < w5.heap.size := by omega
      have hlt5' : w1.heap.size < w5.heap.size := by omega
      clear hb5 T4 U4
      have hB5' := hB5.alloc hB5.size (.cells #[.int .i64 VA.x, .int .i64 VA.y, .int .i64 VA.k] 24)
      have T5 := Lib.hid (t5.alloc (.cells #[.int .i64 VA.x, .int .i64 VA.y, .int .i64 VA.k] 24)); have U5 := Lib.hid (u5.alloc (.cells #[.int .i64 VA.x, .int .i64 VA.y, .int .i64 VA.k] 24))
      have v5 := Cells3.new w5 (.int .i64 VA.x) (.int .i64 VA.y) (.int .i64 VA.k) 24
      obtain ⟨⟨ua, ub, uc⟩, ud, ue, uf⟩ := u5
      go_wp2_with fail
      clear ua ub uc ud ue uf
      refine (C4.out _ (Dirs.below hB5' HD.out.lt HD.out)).mono ?_
      rintro e w6 ⟨rfl, hb6⟩
      have hB6 := Below.up hB5' hB5'.size hb6
      have t6 := T5.out.below hb6 (by simp; omega)
      have u6 := U5.out.below hb6 (by simp; omega)
      have v6 := v5.below hb6 (by simp)
      have hz6 := hb6.size
      simp only [World.size_alloc] at hz6
      have hlt6 : w2.heap.size < w6.heap.size := by omega
      have hlt6' : w1.heap.size < w6.heap.size := by omega
      have hlt6'' : w5.heap.size < w6.heap.size := by omega
      clear hb6 T5 U5 v5
      have hB6' := hB6.alloc hB6.size (.cells #[.int .i64 VB.x, .int .i64 VB.y, .int .i64 VB.k] 24)
      have T6 := Lib.hid (t6.alloc (.cells #[.int .i64 VB.x, .int .i64 VB.y, .int .i64 VB.k] 24)); have U6 := Lib.hid (u6.alloc (.cells #[.int .i64 VB.x, .int .i64 VB.y, .int .i64 VB.k] 24))
      obtain ⟨⟨va, vb, vc⟩, vd, ve, vf⟩ := v6
      have hcs : (bA = true ∧ bB = true ∧ VA = VB) ∨ (bA = true ∧ bB = false) ∨ bA = false := by
        cases bA
        · exact .inr (.inr rfl)
        · cases bB
          · exact .inr (.inl ⟨rfl, rfl⟩)
          · exact .inl ⟨rfl, rfl, HBN.out rfl rfl⟩
      rcases hcs with ⟨rfl, rfl, rfl⟩ | ⟨rfl, rfl⟩ | rfl
      all_goals
        go_wp2_with fail
        clear va vb vc vd ve vf
        refine (C5.out _ (Dirs.below hB6' HD.out.lt HD.out)).mono ?_
        rintro e w7 ⟨rfl, hb7⟩
        have hB7 := Below.up hB6' hB6'.size hb7
        have t7 := T6.out.below hb7 (by simp; omega)
        have u7 := U6.out.below hb7 (by simp; omega)
        have hz7 := hb7.size
        simp only [World.size_alloc] at hz7
        have hlt7 : w2.heap.size < w7.heap.size := by omega
        have hlt7' : w1.heap.size < w7.heap.size := by omega
        clear hb7
        have hB7' := hB7.alloc hB7.size (.cells #[.int .i64 H.x, .int .i64 H.y, .int .i64 H.k] 24)
        have t8 := t7.alloc (.cells #[.int .i64 H.x, .int .i64 H.y, .int .i64 H.k] 24)
        have u8 := u7.alloc (.cells #[.int .i64 H.x, .int .i64 H.y, .int .i64 H.k] 24)
        have h8 := Cells3.new w7 (.int .i64 H.x) (.int .i64 H.y) (.int .i64 H.k) 24
        go_wp2_with fail
        generalize w7.alloc (.cells #[.int .i64 H.x, .int .i64 H.y, .int .i64 H.k] 24) = W8 at hB7' t8 u8 h8 ⊢
        obtain ⟨⟨ta, tb, tc⟩, td, te, tf⟩ := t8
        obtain ⟨⟨ua, ub, uc⟩, ud, ue, uf⟩ := u8
        obtain ⟨⟨ha, hb', hc'⟩, hd', he', hf'⟩ := h8
        go_loop [18, 19, 20] (fun e n i => ∃ j : Nat, (j : Int) ≤ k ∧ i = .int .i64 (j : Int) ∧ e = .int .i64 (Tw.rx j H.x H.y) ∧ n = .int .i64 (Tw.ry j H.x H.y)) (fun _ _ i => 4 - (intOf i).toNat)
        case atStart => exact ⟨0, by omega, rfl, by simp [Tw.rx], by simp [Tw.ry]⟩
        case round =>
          obtain ⟨j, hj, rfl, rfl, rfl⟩ := hrel
          obtain ⟨hx0, hx1, hy0, hy1, hk0, hk1⟩ := nH
          have hbd := rx_bd j H.x H.y 64 (by omega) (by omega)
          by_cases hjk : (j : Int) < k
          · have hst := rx_step j H.x H.y (by omega) (by omega)
            have HST := Lib.hid hst; clear hst
            generalize hE : Tw.rx j H.x H.y = E at *
            generalize hN : Tw.ry j H.x H.y = N at *
            have HE := Lib.hid hE; have HN := Lib.hid hN
            clear hE hN
            go_wp2_with fail
            exact ⟨⟨j + 1, by omega, by go_num, int_eq (HST.out.1).symm, int_eq (HST.out.2).symm⟩, by simp [intOf]; omega⟩
          · have e : (j : Int) = k := by omega
            rw [e] at hbd ⊢
            have hf := HRF.out
            have f1 : T.x = x + Tw.rx k H.x H.y := by rw [hf]; rfl
            have f2 : T.y = y + Tw.ry k H.x H.y := by rw [hf]; rfl
            have f3 : T.k = (k + H.k) % 4 := by rw [hf]; rfl
            have F1 := Lib.hid f1; have F2 := Lib.hid f2; have F3 := Lib.hid f3
            clear f1 f2 f3 hf
            generalize Tw.rx k H.x H.y = E at *
            generalize Tw.ry k H.x H.y = N at *
            rw [F1.out] at ua
            rw [F2.out] at ub
            rw [F3.out] at uc
            go_wp2_with fail
            go_ret
            exact ⟨rfl, hB7'⟩
  · go_ret
    exact ⟨rfl, Below.refl _ _⟩
end Go.Proofs.YtfbkdoejgeklcaaDoor
