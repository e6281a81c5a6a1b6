/- BackOf of the program and of the reference tell the same of every text. No condition. -/
import Derived.Test.YtfbkdoejgeklcaaDoorWordOk
import Derived.Test.YtfbkdoejgeklcaaDoorBytes
namespace Go.Proofs.YtfbkdoejgeklcaaDoor
open Go.RowKit
set_option linter.unusedVariables false
set_option linter.unusedSimpArgs false

theorem swap_of (c : UInt8) : ((Tw.swap c).toNat : Int) = if (c.toNat : Int) = 76 then 82 else if (c.toNat : Int) = 82 then 76 else (c.toNat : Int) := by
  have e2 : c = 76 ↔ (c.toNat : Int) = 76 := byte_eq c 76 (by omega)
  have e3 : c = 82 ↔ (c.toNat : Int) = 82 := byte_eq c 82 (by omega)
  unfold Tw.swap
  simp only [e2, e3]
  split
  · rfl
  · split
    · rfl
    · rfl
theorem otherTurn_any (c : UInt8) (w : World) : Calls Tryd.prog 29 #[.int .u8 (c.toNat : Int)] w fun e w' => e = .returned (.int .u8 ((Tw.swap c).toNat : Int)) ∧ w = w' := by
  have hs := swap_of c
  have HS := Lib.hid hs; clear hs
  go_enter Tryd.func29, Tryd.ntmps29
  go_wp2
  all_goals
    go_ret
    exact ⟨ret_int (by rw [HS.out]; simp only [bne_iff_ne, beq_iff_eq, bne_eq_false_iff_eq, beq_eq_false_iff_ne, ne_eq] at *; simp [*]), rfl⟩

/-- What BackOf tells. -/
def backV (s : ByteArray) : ByteArray := if Tw.wordB s.data.toList && decide (s.size + 4 ≤ 256) then bs (Tw.back s.data.toList) else ByteArray.empty
theorem backV_yes {s : ByteArray} (h : Tw.wordB s.data.toList = true) (hl : s.size + 4 ≤ 256) : backV s = bs (Tw.back s.data.toList) := by unfold backV; rw [h, decide_eq_true hl]; rfl
theorem backV_not {s : ByteArray} (h : Tw.wordB s.data.toList = false) : backV s = ByteArray.empty := by unfold backV; rw [h]; rfl
theorem backV_long {s : ByteArray} (h : ¬ s.size + 4 ≤ 256) : backV s = ByteArray.empty := by unfold backV; rw [decide_eq_false h, Bool.and_false]; rfl

theorem back_wordB {s : ByteArray} (h : Tw.wordB s.data.toList = true) (hl : s.size + 4 ≤ 256) : Tw.wordB (bs (Tw.back s.data.toList)).data.toList = true := by
  refine wordB_true (by rw [bs_size, Tw.back_len, bytes_len]; exact hl) ?_
  rw [bs_list]
  exact Tw.back_word _ (wordB_all h)
theorem back_ne (l : List UInt8) : (bs (Tw.back l)).toList.isEmpty = false := by
  have : (bs (Tw.back l)).toList = Tw.back l := by rw [ByteArray.toList_eq]; exact bs_list _
  rw [this]; rfl
/-- What has been written when the letters from k on are done. -/
def midB (s : ByteArray) (k : Nat) : List UInt8 := [76, 76] ++ ((s.data.toList.drop k).reverse.map Tw.swap)
theorem midB_start (s : ByteArray) : midB s s.size = [76, 76] := by unfold midB; rw [← bytes_len, List.drop_length]; rfl
theorem midB_end (s : ByteArray) : midB s 0 ++ [76, 76] = Tw.back s.data.toList := by unfold midB Tw.back; rw [List.drop_zero]
theorem midB_step (s : ByteArray) (k : Nat) (h : k < s.size) : midB s k = midB s (k + 1) ++ [Tw.swap s[k]] := by
  unfold midB
  have e : s.data.toList.drop k = s[k] :: s.data.toList.drop (k + 1) := by
    rw [List.drop_eq_getElem_cons (by rw [bytes_len]; exact h)]; rfl
  rw [e, List.reverse_cons, List.map_append, ← List.append_assoc]
  rfl
theorem midB_len (s : ByteArray) (k : Nat) (h : k ≤ s.size) : (midB s k).length = s.size - k + 2 := by
  unfold midB; rw [List.length_append, List.length_map, List.length_reverse, List.length_drop, bytes_len]; simp; omega

theorem Tryd.infoByte : (Tryd.prog.info? 5).map (fun i => (i.zero, i.size, i.bytes)) = some (some (.int .u8 0), 1, 1) := by kernel_rfl

set_option maxHeartbeats 800000 in
set_option maxRecDepth 100000 in
theorem backOf_impl (s : ByteArray) (w : World) (hs : s.size ≤ maxLen) :
    Calls Tryd.prog 12 #[.string s] w fun e w' => e = .returned (.string (backV s)) ∧ Below w.heap.size w w' := by
  have hc := wordOk_impl s w hs
  cases hb : Tw.wordB s.data.toList
  · have hz := backV_not hb
    have HZ := Lib.hid hz; clear hz
    rw [hb] at hc
    have HC := Lib.hid hc; clear hc hb
    unfold maxLen at hs
    go_enter Tryd.func12, Tryd.ntmps12
    go_wp2_with (go_at_call 25; refine HC.out.mono ?_; rintro e w' ⟨rfl, rfl⟩)
    go_ret
    rw [HZ.out]
    exact ⟨rfl, Below.refl _ _⟩
  · by_cases hl : s.size + 4 ≤ 256
    · have hz := backV_yes hb hl
      have HZ := Lib.hid hz; clear hz
      rw [hb] at hc
      have HC := Lib.hid hc; clear hc hb
      unfold maxLen at hs
      obtain ⟨i0, hi, hz0, hz1, hz2⟩ := info_parts Tryd.infoByte
      have HI := Lib.hid hi; clear hi
      have HZ0 := Lib.hid hz0; clear hz0
      have HZ1 := Lib.hid hz1; clear hz1
      have HZ2 := Lib.hid hz2; clear hz2
      go_enter Tryd.func12, Tryd.ntmps12
      go_wp2_with (first
        | (go_at_call 25; refine HC.out.mono ?_; rintro e w' ⟨rfl, rfl⟩)
        | (at_make; refine wpList_make_own _ rfl _ _ 30 rfl w.heap.size 5 i0 (.int .u8 0) 1 Tryd.underlying30 HI.out HZ0.out HZ1.out _ _ _ (s.size + 4) rfl rfl (by omega) (by rw [HZ2.out]; omega) (by unfold maxLen; omega) (Nat.le_refl _) ?_; intro w1 hown1 hgrow1)
        | (at_builtin; refine wpList_append_own _ rfl (.tmp 18) (.tmp 19) 30 rfl w.heap.size 5 i0 (.int .u8 0) 1 1 Tryd.underlying30 HI.out HZ0.out HZ1.out HZ2.out rfl (by decide) _ _ _ rfl (hown1.alloc _) ⟨w1.heap.size, 0, none⟩ 2 2 [.int .u8 76, .int .u8 76] rfl rfl (cell_two_new _ _ _ _) (oneCell_two _ _) (by unfold maxLen; omega) (by omega) (by have := hgrow1.size; simp; omega) ?_; intro v2 w2 hown2 hgrow2 _))
      have HB2 : Buf w2 w.heap.size 5 v2 [76, 76] := Buf.two (l := []) hown2 rfl rfl
      have hB1 : Below w.heap.size w w1 := (Below.refl _ _).grown hgrow1 (Nat.le_refl _) (fun k h => by cases h)
      have hz1 := hB1.size
      have hB2 : Below w.heap.size w w2 := (hB1.alloc hz1 _).grown hgrow2 (by simp; omega) (fun k h => by cases h; exact Nat.le_refl _)
      clear hown1 hgrow1 hown2 hgrow2 hB1 hz1
      go_loopw [3, 4] (fun v i wr => ∃ (k : Nat) (l : List UInt8), k ≤ s.size ∧ i = .int .i64 ((k : Int) - 1) ∧ Hid (l = midB s k) ∧ l.length ≤ s.size + 2 ∧ Buf wr w.heap.size 5 v l ∧ Below w.heap.size w wr) (fun _ i _ => (intOf i + 1).toNat)
      case atStart => exact ⟨s.size, [76, 76], Nat.le_refl _, rfl, Lib.hid (midB_start s).symm, by simp, HB2, hB2⟩
      case round =>
        obtain ⟨k, l, hk, rfl, HL, hll, hbuf, hB⟩ := hrel
        have hzr := hB.size
        by_cases hk0 : 1 ≤ k
        · obtain ⟨j, rfl⟩ : ∃ j, k = j + 1 := ⟨k - 1, by omega⟩
          have e : ((j + 1 : Nat) : Int) - 1 = (j : Int) := by omega
          rw [e]
          have hlt : j < s.size := by omega
          go_wp2_with (first
            | (go_at_call 29; refine (otherTurn_any _ _).mono ?_; rintro e w' ⟨rfl, rfl⟩)
            | (at_builtin; refine wpList_append_own _ rfl (.tmp 28) (.tmp 33) 30 rfl w.heap.size 5 i0 (.int .u8 0) 1 1 Tryd.underlying30 HI.out HZ0.out HZ1.out HZ2.out rfl (by decide) _ _ _ rfl (hbuf.own.alloc _) ⟨wr.heap.size, 0, none⟩ 1 1 [.int .u8 ((Tw.swap s[j]).toNat : Int)] rfl rfl (cell_one_new _ _ _) (oneCell_one _) (by unfold maxLen; omega) (by omega) (by simp; omega) ?_; intro v3 w3 hown3 hgrow3 _))
          have hB3 : Below w.heap.size w w3 := (hB.alloc hzr _).grown hgrow3 (by simp; omega) (hbuf.lt)
          have HB3 : Buf w3 w.heap.size 5 v3 (l ++ [Tw.swap s[j]]) := Buf.one hown3 rfl
          have hl3 : Hid (l ++ [Tw.swap s[j]] = midB s j) := Lib.hid (by rw [HL.out, midB_step s j hlt])
          have hl4 : (l ++ [Tw.swap s[j]]).length ≤ s.size + 2 := by rw [hl3.out, midB_len s j (by omega)]; omega
          exact ⟨⟨j, l ++ [Tw.swap s[j]], by omega, rfl, hl3, hl4, HB3, hB3⟩, by simp [intOf]⟩
        · obtain rfl : k = 0 := by omega
          have e : ((0 : Nat) : Int) - 1 = -1 := by omega
          rw [e]
          clear e
          go_wp2_with (at_builtin; refine wpList_append_own _ rfl (.tmp 35) (.tmp 36) 30 rfl w.heap.size 5 i0 (.int .u8 0) 1 1 Tryd.underlying30 HI.out HZ0.out HZ1.out HZ2.out rfl (by decide) _ _ _ rfl (hbuf.own.alloc _) ⟨wr.heap.size, 0, none⟩ 2 2 [.int .u8 76, .int .u8 76] rfl rfl (cell_two_new _ _ _ _) (oneCell_two _ _) (by unfold maxLen; omega) (by omega) (by simp; omega) ?_; intro v3 w3 hown3 hgrow3 _; have hcv := Buf.text (P := Tryd.prog) (dst := 9) (Buf.two hown3 (c := 76) (d := 76) rfl rfl) Tryd.underlying30 Tryd.underlying5 Tryd.underlying9)
          have hB3 : Below w.heap.size w w3 := (hB.alloc hzr _).grown hgrow3 (by simp; omega) (hbuf.lt)
          go_ret
          exact ⟨by rw [HZ.out, ← midB_end, ← HL.out]; rfl, hB3⟩
    · have hz := backV_long hl
      have HZ := Lib.hid hz; clear hz
      have hlen := wordB_len hb
      rw [hb] at hc
      have HC := Lib.hid hc; clear hc hb
      unfold maxLen at hs
      go_enter Tryd.func12, Tryd.ntmps12
      go_wp2_with (go_at_call 25; refine HC.out.mono ?_; rintro e w' ⟨rfl, rfl⟩)
      go_ret
      rw [HZ.out]
      exact ⟨rfl, Below.refl _ _⟩
set_option maxRecDepth 100000 in
theorem backOf_spec (s : ByteArray) (w : World) (hs : s.size ≤ maxLen) :
    Calls Tryd.prog 13 #[.string s] w fun e w' => e = .returned (.string (backV s)) ∧ w = w' := by
  have hc := wordOk_spec s w hs
  cases hb : Tw.wordB s.data.toList
  · have hz := backV_not hb
    have HZ := Lib.hid hz; clear hz
    rw [hb] at hc
    have HC := Lib.hid hc; clear hc hb
    unfold maxLen at hs
    go_enter Tryd.func13, Tryd.ntmps13
    go_wp2_with (go_at_call 22; refine HC.out.mono ?_; rintro e w' ⟨rfl, rfl⟩)
    go_ret
    rw [HZ.out]
    exact ⟨rfl, rfl⟩
  · by_cases hl : s.size + 4 ≤ 256
    · have hz := backV_yes hb hl
      have HZ := Lib.hid hz; clear hz
      rw [hb] at hc
      have HW := Lib.hid (wordB_all hb)
      have HC := Lib.hid hc; clear hc hb
      unfold maxLen at hs
      go_enter Tryd.func13, Tryd.ntmps13
      go_wp2_with (go_at_call 22; refine HC.out.mono ?_; rintro e w' ⟨rfl, rfl⟩)
      go_loop [3, 4] (fun o i => ∃ (k : Nat) (l : List UInt8), k ≤ s.size ∧ i = .int .i64 ((k : Int) - 1) ∧ Hid (l = midB s k) ∧ (bs l).size ≤ s.size + 2 ∧ o = .string (bs l)) (fun _ i => (intOf i + 1).toNat)
      case atStart => exact ⟨s.size, [76, 76], Nat.le_refl _, rfl, Lib.hid (midB_start s).symm, by rw [bs_size]; simp, rfl⟩
      case round =>
        obtain ⟨k, l, hk, rfl, HL, hll, rfl⟩ := hrel
        by_cases hk0 : 1 ≤ k
        · obtain ⟨j, rfl⟩ : ∃ j, k = j + 1 := ⟨k - 1, by omega⟩
          have e : ((j + 1 : Nat) : Int) - 1 = (j : Int) := by omega
          rw [e]
          have hlt : j < s.size := by omega
          have hw := isW_of s[j]
          rw [List.all_eq_true.1 HW.out _ (byte_mem s j hlt)] at hw
          have HWJ := Lib.hid (of_decide_eq_true hw.symm); clear hw
          have HSW := Lib.hid (swap_of s[j])
          go_wp2
          all_goals
            have hl3 : Hid (l ++ [Tw.swap s[j]] = midB s j) := Lib.hid (by rw [HL.out, midB_step s j hlt])
            have hl4 : (bs (l ++ [Tw.swap s[j]])).size ≤ s.size + 2 := by rw [bs_size, hl3.out, midB_len s j (by omega)]; omega
            refine ⟨⟨j, l ++ [Tw.swap s[j]], by omega, rfl, hl3, hl4, str_eq ?_⟩, by simp [intOf]⟩
            rw [← bs_append]
            have h1 := HSW.out
            have h2 := HWJ.out
            simp only [bne_iff_ne, beq_iff_eq, bne_eq_false_iff_eq, beq_eq_false_iff_ne, ne_eq] at *
            have e3 : ∀ n : Nat, n < 256 → ((Tw.swap s[j]).toNat : Int) = n → Tw.swap s[j] = UInt8.ofNat n := fun n hn h => (byte_eq _ n hn).2 h
            first
              | rw [e3 82 (by omega) (by rw [h1]; simp [*])]; rfl
              | rw [e3 76 (by omega) (by rw [h1]; simp [*])]; rfl
              | rw [e3 70 (by omega) (by rw [h1, if_neg (by assumption), if_neg (by assumption)]; omega)]; rfl
        · obtain rfl : k = 0 := by omega
          have e : ((0 : Nat) : Int) - 1 = -1 := by omega
          rw [e]
          clear e
          go_wp2
          go_ret
          exact ⟨by rw [HZ.out, ← midB_end, ← HL.out, ← bs_append]; rfl, rfl⟩
    · have hz := backV_long hl
      have HZ := Lib.hid hz; clear hz
      have hlen := wordB_len hb
      rw [hb] at hc
      have HC := Lib.hid hc; clear hc hb
      unfold maxLen at hs
      go_enter Tryd.func13, Tryd.ntmps13
      go_wp2_with (go_at_call 22; refine HC.out.mono ?_; rintro e w' ⟨rfl, rfl⟩)
      go_ret
      rw [HZ.out]
      exact ⟨rfl, rfl⟩
end Go.Proofs.YtfbkdoejgeklcaaDoor
