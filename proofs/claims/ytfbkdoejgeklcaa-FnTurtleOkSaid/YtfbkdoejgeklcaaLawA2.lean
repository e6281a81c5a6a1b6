/- The laws FnWordOk, FnTurnsOf, FnTurtleOk: each answers true, for every list of bytes. No condition. -/
import Derived.Test.YtfbkdoejgeklcaaTurns
import Derived.Test.YtfbkdoejgeklcaaDrawW
import Derived.Test.YtfbkdoejgeklcaaBack
namespace Go.Proofs.Ytfbkdoejgeklcaa
open Go.RowKit
set_option linter.unusedVariables false
set_option linter.unusedSimpArgs false

theorem w_empty : Tw.wordB [] = true := by decide
theorem w_L : Tw.wordB [76] = true := by decide
theorem w_R : Tw.wordB [82] = true := by decide
theorem w_f : Tw.wordB [102] = false := by decide
theorem w_X : Tw.wordB [88] = false := by decide
theorem w_FLR : Tw.wordB [70, 76, 82] = true := by decide
theorem alive_any (w : World) : Calls Try.prog 21 #[] w fun e w' => e = .returned (.bool true) ∧ w = w' := by
  have e1 := w_X
  have e2 := w_FLR
  go_enter Try.func21, Try.ntmps21
  go_wp2_with (go_at_call 15; refine (wordOk_impl _ _ (by decide)).mono ?_; rintro e w' ⟨rfl, rfl⟩)
  go_ret
  exact ⟨by simp [e1, e2], rfl⟩
theorem law_FnWordOk (a : Option Addr) (len cap : Nat) (zs : List Int) (w : World) (h : IsRow w a len cap zs) : Calls Try.prog 8 #[.slice a len cap] w fun e w' => e = .returned (.bool true) ∧ Below w.heap.size w w' := by
  have hd := drawWordOk h
  have HD := Lib.hid hd; clear hd h
  have e0 := w_empty
  have e1 := w_L
  have e2 := w_R
  have e3 := w_f
  go_enter Try.func8, Try.ntmps8
  go_wp2_with (first
    | (go_at_call 20; refine HD.out.mono ?_; rintro e w1 hp; obtain ⟨s, rfl, hs, hB1⟩ := hp)
    | (go_at_call 14; refine (wordOk_spec s _ (by unfold maxLen; omega)).mono ?_; rintro e w' ⟨rfl, rfl⟩)
    | (go_at_call 15; refine (wordOk_impl _ _ (by first | decide | (unfold maxLen; omega))).mono ?_; rintro e w' ⟨rfl, rfl⟩)
    | (go_at_call 21; refine (alive_any _).mono ?_; rintro e w' ⟨rfl, rfl⟩))
  · go_ret
    exact ⟨rfl, Below.refl _ _⟩
  · go_ret
    exact ⟨by simp [e0, e1, e2, e3], hB1⟩
theorem word_L (s : ByteArray) (c : UInt8) (hc : Tw.isW c = true) (h : Tw.wordB s.data.toList = true) (hs : s.size ≤ 200) : Tw.wordB (s ++ ⟨#[c]⟩).data.toList = true := by
  refine wordB_true (by rw [ByteArray.size_append]; show s.size + 1 ≤ 256; omega) ?_
  rw [app_list, List.all_append, wordB_all h]
  show (true && [c].all Tw.isW) = true
  simp [hc]
theorem turns_L (s : ByteArray) (c : UInt8) : Tw.turns (s ++ ⟨#[c]⟩).data.toList = Tw.turns s.data.toList + Tw.tn c := by
  rw [app_list, Tw.turns_append]
  show _ + Tw.turns [c] = _
  rw [Tw.turns_cons, Tw.turns_nil]; omega
theorem turns_l (s : ByteArray) : Tw.turns (s ++ ⟨#[76]⟩).data.toList = Tw.turns s.data.toList + 1 := turns_L s 76
theorem turns_r (s : ByteArray) : Tw.turns (s ++ ⟨#[82]⟩).data.toList = Tw.turns s.data.toList - 1 := by
  rw [turns_L]; show _ + -1 = _; omega
theorem back_wordB {s : ByteArray} (h : Tw.wordB s.data.toList = true) (hl : s.size + 4 ≤ 256) : Tw.wordB (bs (Tw.back s.data.toList)).data.toList = true := by
  refine wordB_true (by rw [bs_size, Tw.back_len, bytes_len]; exact hl) ?_
  rw [bs_list]
  exact Tw.back_word _ (wordB_all h)
theorem back_ne (l : List UInt8) : (bs (Tw.back l)).toList.isEmpty = false := by
  have : (bs (Tw.back l)).toList = Tw.back l := by rw [ByteArray.toList_eq]; exact bs_list _
  rw [this]; rfl
set_option maxRecDepth 100000 in
set_option maxHeartbeats 1000000 in
theorem law_FnTurnsOf (a : Option Addr) (len cap : Nat) (zs : List Int) (w : World) (h : IsRow w a len cap zs) : Calls Try.prog 10 #[.slice a len cap] w fun e w' => e = .returned (.bool true) ∧ Below w.heap.size w w' := by
  have hd := drawTurnsOf h
  have HD := Lib.hid hd; clear hd h
  go_enter Try.func10, Try.ntmps10
  go_wp2_with (go_at_call 23; refine HD.out.mono ?_; rintro e w1 hp; obtain ⟨s, rfl, hs, hB1⟩ := hp)
  · go_ret
    exact ⟨rfl, Below.refl _ _⟩
  · have hm : s.size ≤ maxLen := by unfold maxLen; omega
    have c1 := fun w => turnsOf_spec s w hm
    have c2 := fun w => turnsOf_impl s w hm
    cases hb : Tw.wordB s.data.toList
    · rw [turnsV_not hb, hb] at c1 c2
      have C1 := Lib.hid c1; clear c1
      have C2 := Lib.hid c2; clear c2 hb hm
      go_wp2_with (first
        | (go_at_call 16; refine (C1.out _).mono ?_; rintro e w' ⟨rfl, rfl⟩)
        | (go_at_call 17; refine (C2.out _).mono ?_; rintro e w' ⟨rfl, rfl⟩)
        | (go_at_call 21; refine (alive_any _).mono ?_; rintro e w' ⟨rfl, rfl⟩))
      go_ret
      exact ⟨rfl, hB1⟩
    · have hL := word_L s 76 rfl hb (by omega)
      have hR := word_L s 82 rfl hb (by omega)
      have hK := back_wordB hb (by omega)
      have c3 := fun w => turnsOf_impl (s ++ ⟨#[76]⟩) w (by rw [ByteArray.size_append]; show s.size + 1 ≤ _; unfold maxLen; omega)
      have c4 := fun w => turnsOf_impl (s ++ ⟨#[82]⟩) w (by rw [ByteArray.size_append]; show s.size + 1 ≤ _; unfold maxLen; omega)
      have c5 := fun w => backOf_impl s w hm
      have c6 := fun w => turnsOf_impl (bs (Tw.back s.data.toList)) w (by rw [bs_size, Tw.back_len, bytes_len]; unfold maxLen; omega)
      rw [turnsV_word hb, hb] at c1 c2
      rw [turnsV_word hL, hL, turns_l] at c3
      rw [turnsV_word hR, hR, turns_r] at c4
      rw [turnsV_word hK, hK, bs_list, Tw.turns_back] at c6
      rw [backV_yes hb (by omega)] at c5
      have htb := Tw.turns_bd s.data.toList
      rw [bytes_len] at htb
      have hne := back_ne s.data.toList
      have C1 := Lib.hid c1; clear c1
      have C2 := Lib.hid c2; clear c2
      have C3 := Lib.hid c3; clear c3
      have C4 := Lib.hid c4; clear c4
      have C5 := Lib.hid c5; clear c5
      have C6 := Lib.hid c6; clear c6 hb hm hL hR hK
      go_wp2_with (first
        | (go_at_call 16; refine (C1.out _).mono ?_; rintro e w' ⟨rfl, rfl⟩)
        | (go_at_call_of 17 (Value.string s); refine (C2.out _).mono ?_; rintro e w' ⟨rfl, rfl⟩)
        | (go_at_call_of 17 (ByteArray.mk #[76]); refine (C3.out _).mono ?_; rintro e w' ⟨rfl, rfl⟩)
        | (go_at_call_of 17 (ByteArray.mk #[82]); refine (C4.out _).mono ?_; rintro e w' ⟨rfl, rfl⟩)
        | (go_at_call_of 17 (Value.string (bs (Tw.back s.data.toList))); refine (C6.out _).mono ?_; rintro e w' ⟨rfl, rfl⟩)
        | (go_at_call 19; refine (C5.out _).mono ?_; rintro e w2 ⟨rfl, hb2⟩)
        | (go_at_call 21; refine (alive_any _).mono ?_; rintro e w' ⟨rfl, rfl⟩))
      go_ret
      exact ⟨rfl, Below.up hB1 hB1.size hb2⟩
end Go.Proofs.Ytfbkdoejgeklcaa
