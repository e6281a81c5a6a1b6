/- BackWalk of the program and of the reference tell the way back; the law FnExactBackWalk answers true. No condition. -/
import Derived.Test.YtminclapchnheaaDoorWk
import Derived.Test.YtminclapchnheaaDoorBytes
namespace Go.Proofs.YtminclapchnheaaDoor
open Go.RowKit
set_option linter.unusedVariables false
set_option linter.unusedSimpArgs false

/-- The way back as a text. -/
def bwV (s : ByteArray) : ByteArray := if Tw.walkB s.data.toList then bs (Tw.bwalk s.data.toList) else bs []
theorem bwV_yes {s : ByteArray} (h : Tw.walkB s.data.toList = true) : bwV s = bs (Tw.bwalk s.data.toList) := if_pos h
theorem bwV_not {s : ByteArray} (h : Tw.walkB s.data.toList = false) : bwV s = bs [] := if_neg (by simp [h])
/-- The way back from the end down to step k. -/
def midW (s : ByteArray) (k : Nat) : List UInt8 := (s.data.toList.drop k).reverse.map Tw.opp
theorem midW_start (s : ByteArray) : midW s s.size = [] := by unfold midW; rw [← bytes_len, List.drop_length]; rfl
theorem midW_end (s : ByteArray) : midW s 0 = Tw.bwalk s.data.toList := by unfold midW Tw.bwalk; rw [List.drop_zero]
theorem midW_step (s : ByteArray) (k : Nat) (h : k < s.size) : midW s k = midW s (k + 1) ++ [Tw.opp s[k]] := by
  unfold midW
  have e : s.data.toList.drop k = s[k] :: s.data.toList.drop (k + 1) := by
    rw [List.drop_eq_getElem_cons (by rw [bytes_len]; exact h)]; rfl
  rw [e, List.reverse_cons, List.map_append]
  rfl
theorem midW_len (s : ByteArray) (k : Nat) (h : k ≤ s.size) : (midW s k).length = s.size - k := by
  unfold midW; rw [List.length_map, List.length_reverse, List.length_drop, bytes_len]
theorem step_dir {s : ByteArray} {k : Nat} (ha : s.data.toList.all stepC = true) (h : k < s.size) : 0 ≤ Tw.dir s[k] := by
  have := List.all_eq_true.1 ha _ (byte_mem s k h)
  unfold stepC at this; rwa [decide_eq_true_iff] at this

theorem Tryd.infoByte : (Tryd.prog.info? 5).map (fun i => (i.zero, i.size, i.bytes)) = some (some (.int .u8 0), 1, 1) := by kernel_rfl

/-- The four letters: what a step is and what leads back. -/
theorem four_letters {c : UInt8} (h : 0 ≤ Tw.dir c) : (Tw.dir c = 0 ∧ Tw.opp c = 119) ∨ (Tw.dir c = 1 ∧ Tw.opp c = 115) ∨ (Tw.dir c = 2 ∧ Tw.opp c = 101) ∨ (Tw.dir c = 3 ∧ Tw.opp c = 110) := by
  rcases Tw.dir_cases c h with rfl | rfl | rfl | rfl
  · exact .inl ⟨by decide, by decide⟩
  · exact .inr (.inl ⟨by decide, by decide⟩)
  · exact .inr (.inr (.inl ⟨by decide, by decide⟩))
  · exact .inr (.inr (.inr ⟨by decide, by decide⟩))
set_option maxHeartbeats 2000000 in
set_option maxRecDepth 100000 in
theorem backWalk_impl (s : ByteArray) (w : World) (hs : s.size ≤ maxLen) :
    Calls Tryd.prog 27 #[.string s] w fun e w' => e = .returned (.string (bwV s)) ∧ Below w.heap.size w w' := by
  have hc := walkOk_impl s w hs
  cases hb : Tw.walkB s.data.toList
  · rw [bwV_not hb]
    rw [hb] at hc
    have HC := Lib.hid hc; clear hc hb
    go_enter Tryd.func27, Tryd.ntmps27
    go_wp2_with (go_at_call 32; refine HC.out.mono ?_; rintro e w' ⟨rfl, rfl⟩)
    go_ret
    exact ⟨rfl, Below.refl _ _⟩
  · rw [bwV_yes hb]
    have hlen := walkB_len hb
    have HA := Lib.hid (walkB_all hb)
    rw [hb] at hc
    have HC := Lib.hid hc; clear hc hb
    unfold maxLen at hs
    obtain ⟨i0, hi, hz0, hz1, hz2⟩ := info_parts Tryd.infoByte
    have HI := Lib.hid hi; clear hi
    have HZ0 := Lib.hid hz0; clear hz0
    have HZ1 := Lib.hid hz1; clear hz1
    have HZ2 := Lib.hid hz2; clear hz2
    go_enter Tryd.func27, Tryd.ntmps27
    go_wp2_with (first
      | (go_at_call 32; refine HC.out.mono ?_; rintro e w' ⟨rfl, rfl⟩)
      | (at_make; refine wpList_make_own _ rfl _ _ 31 rfl w.heap.size 5 i0 (.int .u8 0) 1 Tryd.underlying31 HI.out HZ0.out HZ1.out _ _ _ s.size rfl rfl (by omega) (by rw [HZ2.out]; omega) (by unfold maxLen; omega) (Nat.le_refl _) ?_; intro w1 hown1 hgrow1))
    have HB1 : Buf w1 w.heap.size 5 _ [] := hown1
    have hB1 : Below w.heap.size w w1 := (Below.refl _ _).grown hgrow1 (Nat.le_refl _) (fun k h => by cases h)
    clear hown1 hgrow1
    go_loopw [3, 4] (fun v i wr => ∃ (k : Nat) (l : List UInt8), k ≤ s.size ∧ i = .int .i64 ((k : Int) - 1) ∧ Hid (l = midW s k) ∧ l.length ≤ s.size ∧ Buf wr w.heap.size 5 v l ∧ Below w.heap.size w wr) (fun _ i _ => (intOf i + 1).toNat)
    case atStart => exact ⟨s.size, [], Nat.le_refl _, rfl, Lib.hid (midW_start s).symm, by simp, HB1, hB1⟩
    case round =>
      obtain ⟨k, l, hk, rfl, HL, hll, hbuf, hB⟩ := hrel
      have hzr := hB.size
      by_cases hk0 : 1 ≤ k
      · obtain ⟨j, rfl⟩ : ∃ j, k = j + 1 := ⟨k - 1, by omega⟩
        have e : ((j + 1 : Nat) : Int) - 1 = (j : Int) := by omega
        rw [e]
        have hlt : j < s.size := by omega
        have h0 := step_dir HA.out hlt
        have hd := fun w => directionOf_any s[j] w
        rcases four_letters h0 with ⟨h1, h2⟩ | ⟨h1, h2⟩ | ⟨h1, h2⟩ | ⟨h1, h2⟩
        all_goals
          rw [h1] at hd
          have HDI := Lib.hid hd; have HO := Lib.hid h2
          clear hd h0 h1 h2
          go_wp2_with (first
            | (go_at_call 41; refine (HDI.out _).mono ?_; rintro e w' ⟨rfl, rfl⟩)
            | (at_builtin; refine wpList_append_own _ rfl (.tmp 18) (.tmp 26) 31 rfl w.heap.size 5 i0 (.int .u8 0) 1 1 Tryd.underlying31 HI.out HZ0.out HZ1.out HZ2.out rfl (by decide) _ _ _ rfl (hbuf.own.alloc _) ⟨wr.heap.size, 0, none⟩ 1 1 [.int .u8 _] rfl rfl (cell_one_new _ _ _) (oneCell_one _) (by unfold maxLen; omega) (by omega) (by simp; omega) ?_; intro v3 w3 hown3 hgrow3 _))
          have hB3 : Below w.heap.size w w3 := (hB.alloc hzr _).grown hgrow3 (by simp; omega) (hbuf.lt)
          have HB3 : Buf w3 w.heap.size 5 v3 (l ++ [Tw.opp s[j]]) := Buf.one hown3 (by rw [HO.out]; rfl)
          have hl3 : Hid (l ++ [Tw.opp s[j]] = midW s j) := Lib.hid (by rw [HL.out, midW_step s j hlt])
          have hl4 : (l ++ [Tw.opp s[j]]).length ≤ s.size := by rw [hl3.out, midW_len s j (by omega)]; omega
          exact ⟨⟨j, l ++ [Tw.opp s[j]], by omega, rfl, hl3, hl4, HB3, hB3⟩, by simp [intOf]⟩
      · obtain rfl : k = 0 := by omega
        have e : ((0 : Nat) : Int) - 1 = -1 := by omega
        rw [e]
        clear e
        have hcv := Buf.text (P := Tryd.prog) (src := 31) (dst := 9) hbuf Tryd.underlying31 Tryd.underlying5 Tryd.underlying9
        go_wp2_with fail
        go_ret
        exact ⟨by rw [← midW_end, ← HL.out]; rfl, hB⟩
end Go.Proofs.YtminclapchnheaaDoor
