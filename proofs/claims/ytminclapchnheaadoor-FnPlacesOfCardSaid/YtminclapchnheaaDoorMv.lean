/- MovedOn of the program and of the reference; the law FnExactMovedOn answers true. Condition: the table of directions holds what the program's text lays. -/
import Derived.Test.YtminclapchnheaaDoorCl
import Derived.Test.YtminclapchnheaaDoorBw
import Derived.Laws.IdiomStrings
namespace Go.Proofs.YtminclapchnheaaDoor
open Go.RowKit
set_option linter.unusedVariables false
set_option linter.unusedSimpArgs false

theorem mv_l1In_any (a b c : Int) (w : World) : Calls Tryd.prog 35 #[.int .i64 a, .int .i64 b, .int .i64 c] w fun e w' => e = .returned (.bool (decide (b ≤ a ∧ a ≤ c))) ∧ w = w' := by
  go_enter Tryd.func35, Tryd.ntmps35
  go_wp2
  all_goals (go_ret; exact ⟨ret_bool (by simp <;> omega), rfl⟩)
/-- Moved on by so many steps, as a text. -/
def mvB (s : ByteArray) (k : Nat) : ByteArray := bs (Tw.moved s.data.toList k)
theorem ext_list (s : ByteArray) (a b : Nat) : (s.extract a b).data.toList = (s.data.toList.drop a).take (b - a) := by
  rw [ByteArray.data_extract, Array.toList_extract]
  try rfl
theorem mvB_ext (s : ByteArray) (k : Nat) (h : k ≤ s.size) : s.extract k s.size ++ s.extract 0 k = mvB s k := by
  apply ba_ext
  rw [app_list, ext_list, ext_list]
  unfold mvB Tw.moved
  rw [bs_list, Nat.sub_zero, List.drop_zero]
  rw [List.take_of_length_le (by rw [List.length_drop, bytes_len]; omega)]
/-- What MovedOn answers. -/
def mvV (s : ByteArray) (n : Int) : ByteArray := if Tw.closedB s.data.toList = true ∧ 0 ≤ n ∧ n < s.size then mvB s n.toNat else bs []
theorem mvV_yes {s : ByteArray} {n : Int} (h : Tw.closedB s.data.toList = true) (h0 : 0 ≤ n) (h1 : n < s.size) : mvV s n = mvB s n.toNat := if_pos ⟨h, h0, h1⟩
theorem mvV_not {s : ByteArray} {n : Int} (h : ¬(Tw.closedB s.data.toList = true ∧ 0 ≤ n ∧ n < s.size)) : mvV s n = bs [] := if_neg h
set_option maxHeartbeats 2000000 in
set_option maxRecDepth 100000 in
theorem movedOn_spec (s : ByteArray) (n : Int) (w : World) (hs : s.size ≤ maxLen) (hn : (Lit.int .i64 n).wf = true) : Calls Tryd.prog 14 #[.string s, .int .i64 n] w fun e w' => e = .returned (.string (mvV s n)) ∧ Below w.heap.size w w' := by
  have hc := closedOk_spec s w hs
  unfold maxLen at hs
  cases hb : Tw.closedB s.data.toList
  · rw [mvV_not (by rw [hb]; simp)]
    rw [hb] at hc
    have HC := Lib.hid hc; clear hc hb
    go_enter Tryd.func14, Tryd.ntmps14
    go_wp2_with (go_at_call 12; refine HC.out.mono ?_; rintro e w1 ⟨rfl, hb1⟩)
    go_ret
    exact ⟨rfl, hb1⟩
  · rw [hb] at hc
    have HC := Lib.hid hc; clear hc
    have hlen := walkB_len ((Tw.closedB_iff _).1 hb).1
    have HL := fun w => mv_l1In_any n 0 ((s.size : Int) - 1) w
    by_cases h : 0 ≤ n ∧ n < s.size
    · rw [mvV_yes hb h.1 h.2]
      have e1 : decide (0 ≤ n ∧ n ≤ (s.size : Int) - 1) = true := decide_eq_true (by omega)
      rw [e1] at HL
      have HL := Lib.hid HL
      obtain ⟨h0, h1⟩ := h
      obtain ⟨k, rfl⟩ : ∃ k : Nat, n = k := ⟨n.toNat, by omega⟩
      have HB := Lib.hid hb; clear hb e1
      rw [← mvB_ext s _ (by omega)]
      have hA : ∀ wx, (Instr.slice 9 (.string s) none (some (.int .i64 (k : Int))) none).run Tryd.prog wx = .ok (.string (s.extract 0 k)) wx := fun wx => by have := run_slice_string_h (P := Tryd.prog) wx 9 s Tryd.underlying9 .i64 (k : Int) (by omega) (by omega); simpa using this
      have hE : ∀ wx, (Instr.slice 9 (.string s) (some (.int .i64 (k : Int))) none none).run Tryd.prog wx = .ok (.string (s.extract k s.size)) wx := fun wx => by have := run_slice_string_l (P := Tryd.prog) wx 9 s Tryd.underlying9 .i64 (k : Int) (by omega) (by omega); simpa using this
      go_enter Tryd.func14, Tryd.ntmps14
      go_wp2_with (first
        | (go_at_call 12; refine HC.out.mono ?_; rintro e w1 ⟨rfl, hb1⟩)
        | (go_at_call 35; refine (HL.out _).mono ?_; rintro e w2 ⟨rfl, rfl⟩))
      go_quiet (fail)
      go_wp2_with fail
      go_ret
      exact ⟨rfl, below_drewN hb1 _⟩
    · rw [mvV_not (fun hh => h hh.2)]
      have e1 : decide (0 ≤ n ∧ n ≤ (s.size : Int) - 1) = false := decide_eq_false (by omega)
      rw [e1] at HL
      have HL := Lib.hid HL
      have HB := Lib.hid hb; clear hb e1
      go_enter Tryd.func14, Tryd.ntmps14
      go_wp2_with (first
        | (go_at_call 12; refine HC.out.mono ?_; rintro e w1 ⟨rfl, hb1⟩)
        | (go_at_call 35; refine (HL.out _).mono ?_; rintro e w2 ⟨rfl, rfl⟩))
      go_ret
      exact ⟨rfl, hb1⟩
theorem mv_add (b off i : Nat) : (⟨b, off, none⟩ : Addr).add i = ⟨b, off + i, none⟩ := by
  unfold Addr.add; split <;> simp_all
/-! What a draw leaves: the reader has moved on, nothing else that was there has turned. -/
/-- n bytes from block b on. -/
def Bytes (w : World) (b : Nat) (l : List UInt8) : Prop := ∀ i (h : i < l.length), w.cell? ⟨b, i, none⟩ = some (.int .u8 (l[i].toNat : Int))
theorem byte_ones (l : List UInt8) : ∀ u ∈ byteVals l, u.oneCell' = true := fun u hu => by
  unfold byteVals at hu
  rw [List.mem_map] at hu
  obtain ⟨c, _, rfl⟩ := hu
  rfl
theorem mv_tail {l : List UInt8} {b : Nat} {w w1 : World} (hb : Bytes w b l) (hbl : b < w.heap.size) (hB : Below w.heap.size w w1) (k : Nat) : ∀ j u, (byteVals (l.drop k))[j]? = some u → w1.cell? ((⟨b, k, none⟩ : Addr).add j) = some u := by
  intro j u hu
  unfold byteVals at hu
  rw [List.getElem?_map] at hu
  obtain ⟨c, hc, rfl⟩ := Option.map_eq_some_iff.1 hu
  obtain ⟨hj, rfl⟩ := List.getElem?_eq_some_iff.1 hc
  rw [List.length_drop] at hj
  have := hb (k + j) (by omega)
  rw [mv_add, (bcell hB).1 b (k + j) hbl, this, List.getElem_drop]
theorem mv_head {l : List UInt8} {b : Nat} {w w1 : World} (hb : Bytes w b l) (hbl : b < w.heap.size) (hB : Below w.heap.size w w1) (k : Nat) : ∀ j u, (byteVals (l.take k))[j]? = some u → w1.cell? ((⟨b, 0, none⟩ : Addr).add j) = some u := by
  intro j u hu
  unfold byteVals at hu
  rw [List.getElem?_map] at hu
  obtain ⟨c, hc, rfl⟩ := Option.map_eq_some_iff.1 hu
  obtain ⟨hj, rfl⟩ := List.getElem?_eq_some_iff.1 hc
  rw [List.length_take] at hj
  have := hb j (by omega)
  rw [mv_add, Nat.zero_add, (bcell hB).1 b j hbl, this, List.getElem_take]
theorem below_made {w w1 : World} (h : w.grownBy w1 none) : Below w.heap.size w w1 := (Below.refl _ w).grown h (Nat.le_refl _) (fun k h => by cases h)
set_option maxHeartbeats 2000000 in
set_option maxRecDepth 100000 in
theorem movedRound_any (l : List UInt8) (b cap k : Nat) (w : World) (hb : Bytes w b l) (hl : l.length ≤ 40) (hk : k < l.length) (hcap : l.length ≤ cap) (hcm : cap ≤ maxLen) :
    Calls Tryd.prog 36 #[.slice (some ⟨b, 0, none⟩) l.length cap, .int .i64 (k : Int)] w fun e w' => ∃ v, e = .returned v ∧ Buf w' w.heap.size 5 v (Tw.moved l k) ∧ Below w.heap.size w w' := by
  have hbl : b < w.heap.size := cell_lt (hb 0 (by omega))
  have HBy := Lib.hid hb; clear hb
  obtain ⟨i0, hi, hz0, hz1, hz2⟩ := info_parts Tryd.infoByte
  have HI := Lib.hid hi; clear hi
  have HZ0 := Lib.hid hz0; clear hz0
  have HZ1 := Lib.hid hz1; clear hz1
  have HZ2 := Lib.hid hz2; clear hz2
  unfold maxLen at hcm
  go_enter Tryd.func36, Tryd.ntmps36
  go_wp2_with (first
    | (at_make; refine wpList_make_own _ rfl _ _ 31 rfl w.heap.size 5 i0 (.int .u8 0) 1 Tryd.underlying31 HI.out HZ0.out HZ1.out _ _ _ l.length rfl rfl (by omega) (by rw [HZ2.out]; omega) (by unfold maxLen; omega) (Nat.le_refl _) ?_; intro w1 hown1 hgrow1; have HO1 := Lib.hid hown1; clear hown1; have hB1 : Below w.heap.size w w1 := below_made hgrow1; have hz1 := hB1.size; have HN1 := Lib.hid (mv_tail HBy.out hbl hB1 k))
    | (at_builtin; (refine wpList_append_own _ rfl (.tmp 9) (.tmp 12) 31 rfl w.heap.size 5 i0 (.int .u8 0) 1 1 Tryd.underlying31 HI.out HZ0.out HZ1.out HZ2.out rfl (by decide) _ _ _ rfl HO1.out ⟨b, k, none⟩ _ _ (byteVals (l.drop k)) rfl (by rw [byteVals_len]; simp only [List.length_drop, List.length_take, Nat.mul_one]; try omega) HN1.out (byte_ones _) (by simp only [maxLen]; omega) (by omega) (by omega) ?_); intro v2 w2 hown2 hgrow2 _; have HO2 := Lib.hid hown2; clear hown2; have hB2 : Below w.heap.size w w2 := hB1.grown hgrow2 hz1 (fun j hj => by cases hj; exact Nat.le_refl _); have hz2' := hB2.size; have HN2 := Lib.hid (mv_head HBy.out hbl hB2 k))
    | (at_builtin; (refine wpList_append_own _ rfl (.tmp 14) (.tmp 17) 31 rfl w.heap.size 5 i0 (.int .u8 0) 1 1 Tryd.underlying31 HI.out HZ0.out HZ1.out HZ2.out rfl (by decide) _ _ _ rfl HO2.out ⟨b, 0, none⟩ _ _ (byteVals (l.take k)) rfl (by rw [byteVals_len]; simp only [List.length_drop, List.length_take, Nat.mul_one]; try omega) HN2.out (byte_ones _) (by simp only [maxLen]; omega) (by omega) (by omega) ?_); intro v3 w3 hown3 hgrow3 _; have HO3 := Lib.hid hown3; clear hown3))
  have hB3 : Below w.heap.size w w3 := hB2.grown hgrow3 hz2' (fun j hj => (World.ownsRow.lt HO2.out j hj).1)
  have hbuf : Buf w3 w.heap.size 5 v3 (Tw.moved l k) := by
    have h := HO3.out
    have e1 : 0 + (l.length - k) + k = (Tw.moved l k).length := by rw [Tw.moved_len]; omega
    rw [e1, List.nil_append, ← byteVals_append] at h
    exact h
  go_ret
  exact ⟨v3, rfl, hbuf, hB3⟩
set_option maxHeartbeats 2000000 in
set_option maxRecDepth 100000 in
theorem movedOn_impl (s : ByteArray) (n : Int) (w : World) (hs : s.size ≤ maxLen) (hn : (Lit.int .i64 n).wf = true) (hD : Dirs w) : Calls Tryd.prog 15 #[.string s, .int .i64 n] w fun e w' => e = .returned (.string (mvV s n)) ∧ Below w.heap.size w w' := by
  have hc := closedOk_impl s w hs hD
  unfold maxLen at hs
  cases hb : Tw.closedB s.data.toList
  · rw [mvV_not (by rw [hb]; simp)]
    rw [hb] at hc
    have HC := Lib.hid hc; clear hc hb
    go_enter Tryd.func15, Tryd.ntmps15
    go_wp2_with (go_at_call 13; refine HC.out.mono ?_; rintro e w1 ⟨rfl, hb1⟩)
    go_ret
    exact ⟨rfl, hb1⟩
  · rw [hb] at hc
    have HC := Lib.hid hc; clear hc
    have hlen := walkB_len ((Tw.closedB_iff _).1 hb).1
    by_cases h : 0 ≤ n ∧ n < s.size
    · rw [mvV_yes hb h.1 h.2]
      obtain ⟨h0, h1⟩ := h
      obtain ⟨k, rfl⟩ : ∃ k : Nat, n = k := ⟨n.toNat, by omega⟩
      have HB := Lib.hid hb; clear hb
      have hcv := fun wx => run_bytes_of_string (P := Tryd.prog) wx 9 31 5 s Tryd.underlying9 Tryd.underlying31 Tryd.underlying5
      go_enter Tryd.func15, Tryd.ntmps15
      go_wp2_with (first
        | (go_at_call 13; refine HC.out.mono ?_; rintro e w1 ⟨rfl, hb1⟩))
      have hg1 := grownCap_ge w1 s.size 0 5
      have hg2 := grownCap_le_maxLen w1 s.size 0 5 (by unfold maxLen; omega)
      generalize grownCap w1 s.size 0 5 = c at *
      have hby : Bytes (w1.alloc (.cells (bytesRow s c) 5 ((bytesRow s c).size, (bytesRow s c).size + 1))).drew w1.heap.size s.data.toList := by
        intro i hi
        rw [bytes_len] at hi
        have h1 := World.cell?_alloc_mark w1 (bytesRow s c) 5 ((bytesRow s c).size, (bytesRow s c).size + 1) i
        rw [bytesRow_at s c i hi] at h1
        exact h1
      have hB2 : Below w.heap.size w (w1.alloc (.cells (bytesRow s c) 5 ((bytesRow s c).size, (bytesRow s c).size + 1))).drew := (hb1.alloc hb1.size _).drew
      have hlen' : s.data.toList.length = s.size := bytes_len s
      have hmr := movedRound_any s.data.toList w1.heap.size c k _ hby (by omega) (by omega) (by omega) hg2
      rw [hlen'] at hmr
      clear hby hcv
      refine hmr.mono ?_
      rintro e w3 ⟨v, rfl, hbuf, hb3⟩
      have hB3 := Below.up hB2 hB2.size hb3
      have hcv := Buf.text (P := Tryd.prog) (src := 31) (dst := 9) hbuf Tryd.underlying31 Tryd.underlying5 Tryd.underlying9
      clear hmr
      go_wp2_with fail
      go_ret
      exact ⟨rfl, hB3⟩
    · rw [mvV_not (fun hh => h hh.2)]
      have HB := Lib.hid hb; clear hb
      go_enter Tryd.func15, Tryd.ntmps15
      by_cases h0 : n < 0
      · go_wp2_with (first
          | (go_at_call 13; refine HC.out.mono ?_; rintro e w1 ⟨rfl, hb1⟩))
        go_ret
        exact ⟨rfl, hb1⟩
      · have h1 : (s.size : Int) ≤ n := by omega
        go_wp2_with (first
          | (go_at_call 13; refine HC.out.mono ?_; rintro e w1 ⟨rfl, hb1⟩))
        go_ret
        exact ⟨rfl, hb1⟩
theorem law_FnExactMovedOn (s : ByteArray) (n : Int) (w : World) (hs : s.size ≤ maxLen) (hn : (Lit.int .i64 n).wf = true) (hd : Dirs w) : Calls Tryd.prog 4 #[.string s, .int .i64 n] w fun e w' => e = .returned (.bool true) ∧ Below w.heap.size w w' := by
  have h1 := fun w => movedOn_spec s n w hs hn
  have h2 := fun w hd => movedOn_impl s n w hs hn hd
  generalize mvV s n = b at h1 h2
  have H1 := Lib.hid h1; clear h1
  have H2 := Lib.hid h2; clear h2
  have HD := Lib.hid hd; clear hd
  unfold maxLen at hs
  go_enter Tryd.func4, Tryd.ntmps4
  go_wp2_with fail
  · go_ret
    exact ⟨rfl, Below.refl _ _⟩
  · refine (H1.out _).mono ?_
    rintro e w2 ⟨rfl, hb2⟩
    have HD2 := Lib.hid (HD.out.same hb2)
    go_wp2_with fail
    refine (H2.out _ HD2.out).mono ?_
    rintro e w4 ⟨rfl, hb4⟩
    have hB4 := Below.up hb2 hb2.size hb4
    go_wp2_with fail
    all_goals
      go_ret
      exact ⟨rfl, hB4⟩
end Go.Proofs.YtminclapchnheaaDoor
