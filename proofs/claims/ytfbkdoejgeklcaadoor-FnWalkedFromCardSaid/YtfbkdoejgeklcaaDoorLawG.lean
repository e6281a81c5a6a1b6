/- The laws FnBackOf and FnWalkedOf answer true. Condition: the table of directions holds what the program's text lays. -/
import Derived.Test.YtfbkdoejgeklcaaDoorFrom
import Derived.Test.YtfbkdoejgeklcaaDoorDrawW
import Derived.Test.YtfbkdoejgeklcaaDoorLawA2
namespace Go.Proofs.YtfbkdoejgeklcaaDoor
open Go.RowKit
set_option linter.unusedVariables false
set_option linter.unusedSimpArgs false

theorem tok_of {t : Tw.Tu} (h : Near t 10000) : Tw.tokB t = true := by
  unfold Tw.tokB; rw [decide_eq_true_iff]; exact h
theorem wf_told {t : Tw.Tu} {s : ByteArray} (h1 : Tw.tokB t = true) (h2 : Tw.wordB s.data.toList = true) (h3 : Tw.tokB (Tw.run t s.data.toList) = true) : wfB t s = true ∧ wfT t s = Tw.run t s.data.toList := by
  have h : wfB t s = true := by unfold wfB; rw [h1, h2, h3]; rfl
  exact ⟨h, by unfold wfT; rw [h]; rfl⟩

set_option maxRecDepth 100000 in
set_option maxHeartbeats 2000000 in
theorem law_FnBackOf (a : Option Addr) (len cap : Nat) (zs : List Int) (w : World) (h : IsRow w a len cap zs) (hd : Dirs w) : Calls Tryd.prog 4 #[.slice a len cap] w fun e w' => e = .returned (.bool true) ∧ Below w.heap.size w w' := by
  have hdr := drawBackOf h
  have HDR := Lib.hid hdr; clear hdr h
  have HD := Lib.hid hd; clear hd
  go_enter Tryd.func4, Tryd.ntmps4
  go_wp2_with (go_at_call 11; refine HDR.out.mono ?_; rintro e w1 hp; obtain ⟨s, rfl, hs, hB1⟩ := hp)
  · go_ret
    exact ⟨rfl, Below.refl _ _⟩
  · have hm : s.size ≤ maxLen := by unfold maxLen; omega
    have c1 := fun w => backOf_spec s w hm
    have c2 := fun w => backOf_impl s w hm
    cases hb : Tw.wordB s.data.toList
    · rw [backV_not hb] at c1 c2
      have C1 := Lib.hid c1; clear c1
      have C2 := Lib.hid c2; clear c2 hb hm
      go_wp2_with (first
        | (go_at_call 13; refine (C1.out _).mono ?_; rintro e w' ⟨rfl, rfl⟩)
        | (go_at_call 12; refine (C2.out _).mono ?_; rintro e w2 ⟨rfl, hb2⟩)
        | (go_at_call 14; refine (alive_any _).mono ?_; rintro e w' ⟨rfl, rfl⟩))
      go_ret
      exact ⟨rfl, Below.up hB1 hB1.size hb2⟩
    · rw [backV_yes hb (by omega)] at c1 c2
      have hne := back_ne s.data.toList
      have hall := wordB_all hb
      have hbl : (bs (Tw.back s.data.toList)).size = s.size + 4 := by rw [bs_size, Tw.back_len, bytes_len]
      have hbm : (bs (Tw.back s.data.toList)).size ≤ maxLen := by rw [hbl]; unfold maxLen; omega
      obtain ⟨T, hT⟩ : ∃ T, T = Tw.run ⟨3, -2, 1⟩ s.data.toList := ⟨_, rfl⟩
      have n0 : Near ⟨3, -2, 1⟩ 3 := by unfold Near; simp only; omega
      have nT : Near T 10000 := by rw [hT]; exact (n0.run _).mono (by rw [bytes_len]; omega)
      have f1 := wf_told (t := ⟨3, -2, 1⟩) (s := s) (tok_of (n0.mono (by omega))) hb (by rw [← hT]; exact tok_of nT)
      rw [← hT] at f1
      have hrb : Tw.run T (bs (Tw.back s.data.toList)).data.toList = ⟨3, -2, 1⟩ := by
        rw [bs_list, hT]; exact Tw.run_back _ _ hall (by simp only; omega)
      have f2 := wf_told (t := ⟨T.x, T.y, T.k⟩) (s := bs (Tw.back s.data.toList)) (tok_of nT) (back_wordB hb (by omega)) (by show Tw.tokB (Tw.run T _) = true; rw [hrb]; exact tok_of (n0.mono (by omega)))
      have hrb' : Tw.run ⟨T.x, T.y, T.k⟩ (bs (Tw.back s.data.toList)).data.toList = ⟨3, -2, 1⟩ := hrb
      rw [hrb'] at f2
      have c3 := fun w hd => walkedFrom_impl_go 3 (-2) 1 s w hd hm
      have c4 := fun w hd => walkedFrom_impl_go T.x T.y T.k (bs (Tw.back s.data.toList)) w hd hbm
      rw [f1.1, f1.2] at c3
      rw [f2.1, f2.2] at c4
      obtain ⟨bk, hbk⟩ : ∃ b, b = bs (Tw.back s.data.toList) := ⟨_, rfl⟩
      rw [← hbk] at c1 c2 c4 hne hbl
      have C1 := Lib.hid c1; clear c1
      have C2 := Lib.hid c2; clear c2
      have C3 := Lib.hid c3; clear c3
      have C4 := Lib.hid c4; clear c4
      have HBL := Lib.hid hbl; clear hbl
      have hbl1 : bk.size ≤ 100 := by rw [HBL.out]; omega
      clear hb hm hall hbm hT nT n0 f1 f2 hrb hrb' hbk
      go_wp2_with (first
        | (go_at_call 13; refine (C1.out _).mono ?_; rintro e w' ⟨rfl, rfl⟩)
        | (go_at_call 12; refine (C2.out _).mono ?_; rintro e w2 ⟨rfl, hb2⟩))
      have hB2 := Below.up hB1 hB1.size hb2
      have t2 := Cells3.new w2 (.int .i64 3) (.int .i64 (-2)) (.int .i64 1) 24
      have hB2' := hB2.alloc hB2.size (.cells #[.int .i64 3, .int .i64 (-2), .int .i64 1] 24)
      clear hb2 hB2
      refine (C3.out _ (Dirs.below hB2' HD.out.lt HD.out)).mono ?_
      rintro e w3 ⟨rfl, hb3⟩
      have t3 := t2.below hb3 (by exact t2.lt)
      have hB3 := Below.up hB2' hB2'.size hb3
      clear hb3 t2 hB2' C3
      have t3' := t3.alloc (.cells #[.int .i64 T.x, .int .i64 T.y, .int .i64 T.k] 24)
      have hB3' := hB3.alloc hB3.size (.cells #[.int .i64 T.x, .int .i64 T.y, .int .i64 T.k] 24)
      go_wp2_with fail
      refine (C4.out _ (Dirs.below hB3' HD.out.lt HD.out)).mono ?_
      rintro e w4 ⟨rfl, hb4⟩
      have t4 := t3'.below hb4 (by exact t3'.lt)
      have hB4 := Below.up hB3' hB3'.size hb4
      have hl4 := t4.lt
      clear hb4 t3 t3' hB3 hB3' C4
      obtain ⟨⟨ta, tb, tc⟩, td, te, tf⟩ := t4
      have hbe := HBL.out
      go_wp2_with fail
      go_ret
      exact ⟨by simp [hbe], hB4.alloc hB4.size _⟩
end Go.Proofs.YtfbkdoejgeklcaaDoor
