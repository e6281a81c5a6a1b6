/- WalkOk and BackWalk of the program and of the reference. No condition. -/
import Derived.Test.YtminclapchnheaaDoorWordOk
import Derived.Test.YtminclapchnheaaDoorTwW
import Derived.Shelf.Small.Strs
namespace Go.Proofs
def Tryd.layIndexByte_ren : Go.Shelf.Ren := ⟨fun | 137 => 53 | 217 => 56 | 266 => 57 | n => n, fun | 9 => 9 | 5 => 5 | 3 => 3 | n => n, fun | n => n⟩
theorem Tryd.layIndexByte : Go.Proofs.Lays.n137 Tryd.prog Tryd.layIndexByte_ren := {
  mixed := by kernel_rfl
  f137 := Tryd.func53.trans (congrArg some (by kernel_rfl))
  f217 := Tryd.func56.trans (congrArg some (by kernel_rfl))
  f266 := Tryd.func57.trans (congrArg some (by kernel_rfl))
  t3 := Tryd.underlying3
  a3 := Tryd.isAgg3
  z3 := Tryd.sizeOf3
  v3 := Tryd.zeroValue3
  t5 := Tryd.underlying5
  a5 := Tryd.isAgg5
  z5 := Tryd.sizeOf5
  v5 := Tryd.zeroValue5
  t9 := Tryd.underlying9
  a9 := Tryd.isAgg9
  z9 := Tryd.sizeOf9
  v9 := Tryd.zeroValue9 }
end Go.Proofs
namespace Go.Proofs.YtminclapchnheaaDoor
open Go.RowKit
set_option linter.unusedVariables false
set_option linter.unusedSimpArgs false

theorem index_dir (c : UInt8) : Lib.indexByte [101, 110, 119, 115] c = Tw.dir c := by
  unfold Tw.dir
  simp only [Lib.indexByte, beq_iff_eq]
  by_cases h1 : c = 101
  · subst h1; decide
  · by_cases h2 : c = 110
    · subst h2; decide
    · by_cases h3 : c = 119
      · subst h3; decide
      · by_cases h4 : c = 115
        · subst h4; decide
        · simp [h1, h2, h3, h4, eq_comm]
theorem directionOf_any (c : UInt8) (w : World) :
    Calls Tryd.prog 41 #[.int .u8 (c.toNat : Int)] w fun e w' => e = .returned (.int .i64 (Tw.dir c)) ∧ w = w' := by
  have h := fun w => Any.strings_IndexByte Tryd.layIndexByte ⟨#[101, 110, 119, 115]⟩ (c.toNat : Int) w
  have e : Lib.indexByte (⟨#[101, 110, 119, 115]⟩ : ByteArray).data.toList (c.toNat : Int).toNat.toUInt8 = Tw.dir c := by
    rw [← index_dir]; simp
  rw [e] at h
  have H := Lib.hid h; clear h e
  go_enter Tryd.func41, Tryd.ntmps41
  go_wp2_with (go_at_call 53; refine (H.out _).mono ?_; rintro e w' ⟨rfl, rfl⟩)
  go_ret
  exact ⟨rfl, rfl⟩
theorem l4Look_any (c : UInt8) (w : World) :
    Calls Tryd.prog 40 #[.int .u8 (c.toNat : Int)] w fun e w' => e = .returned (.int .i64 (Tw.dir c)) ∧ w = w' := by
  have e1 : c = 101 ↔ (c.toNat : Int) = 101 := byte_eq c 101 (by omega)
  have e2 : c = 110 ↔ (c.toNat : Int) = 110 := byte_eq c 110 (by omega)
  have e3 : c = 119 ↔ (c.toNat : Int) = 119 := byte_eq c 119 (by omega)
  have e4 : c = 115 ↔ (c.toNat : Int) = 115 := byte_eq c 115 (by omega)
  go_enter Tryd.func40, Tryd.ntmps40
  go_wp2
  all_goals
    go_ret
    refine ⟨ret_int ?_, rfl⟩
    unfold Tw.dir
    simp only [e1, e2, e3, e4]
    try simp only [bne_iff_ne, beq_iff_eq, bne_eq_false_iff_eq, beq_eq_false_iff_ne, ne_eq] at *
    (repeat' split) <;> omega
/-- Is each letter a step? -/
def stepC (c : UInt8) : Bool := decide (0 ≤ Tw.dir c)
theorem walkB_of (s : ByteArray) : Tw.walkB s.data.toList = (s.data.toList.all stepC && decide (s.size ≤ 40)) := by unfold Tw.walkB; rw [bytes_len]; rfl
theorem walkB_all {s : ByteArray} (h : Tw.walkB s.data.toList = true) : s.data.toList.all stepC = true := by rw [walkB_of, Bool.and_eq_true] at h; exact h.1
theorem walkB_len {s : ByteArray} (h : Tw.walkB s.data.toList = true) : s.size ≤ 40 := by rw [walkB_of, Bool.and_eq_true, decide_eq_true_iff] at h; exact h.2
theorem walkB_long {s : ByteArray} (h : 40 < s.size) : Tw.walkB s.data.toList = false := by rw [walkB_of, decide_eq_false (by omega), Bool.and_false]
theorem walkB_true {s : ByteArray} (h : s.size ≤ 40) (ha : s.data.toList.all stepC = true) : Tw.walkB s.data.toList = true := by rw [walkB_of, ha, decide_eq_true h]; rfl
theorem walkB_bad {s : ByteArray} {k : Nat} (h : k < s.size) (hb : Tw.dir s[k] < 0) : Tw.walkB s.data.toList = false := by
  rw [walkB_of]
  have : s.data.toList.all stepC = false := by
    rw [List.all_eq_false]
    exact ⟨_, byte_mem s k h, by unfold stepC; simp; omega⟩
  rw [this]; rfl
theorem all_next (s : ByteArray) (k : Nat) (h : k < s.size) (ha : (s.data.toList.take k).all stepC = true) (hb : 0 ≤ Tw.dir s[k]) : (s.data.toList.take (k + 1)).all stepC = true := by
  rw [take_snoc s k h, List.all_append, ha]
  simp [stepC, hb]
set_option maxHeartbeats 1000000 in
theorem walkOk_impl (s : ByteArray) (w : World) (hs : s.size ≤ maxLen) :
    Calls Tryd.prog 32 #[.string s] w fun e w' => e = .returned (.bool (Tw.walkB s.data.toList)) ∧ w = w' := by
  unfold maxLen at hs
  go_enter Tryd.func32, Tryd.ntmps32
  go_wp2_with fail
  · go_ret
    exact ⟨ret_bool (walkB_long (by omega)).symm, rfl⟩
  · go_loop [3] (fun i => ∃ k : Nat, k ≤ s.size ∧ i = .int .i64 k ∧ Hid ((s.data.toList.take k).all stepC = true)) (fun i => s.size - (intOf i).toNat)
    case atStart => exact ⟨0, Nat.zero_le _, rfl, Lib.hid (by simp)⟩
    case round =>
      obtain ⟨k, hk, rfl, HA⟩ := hrel
      by_cases hlt : k < s.size
      · have hd := Tw.dir_bd s[k]
        go_wp2_with (go_at_call 41; refine (directionOf_any s[k] _).mono ?_; rintro e w' ⟨rfl, rfl⟩)
        · go_ret
          exact ⟨ret_bool (walkB_bad hlt (by omega)).symm, rfl⟩
        · rename_i hstep
          exact ⟨⟨k + 1, by omega, by go_num, Lib.hid (all_next s k hlt HA.out hstep)⟩, by simp [intOf]; omega⟩
      · go_wp2_with fail
        have e : k = s.size := by omega
        have ha := HA.out
        rw [e, take_all] at ha
        go_ret
        exact ⟨ret_bool (walkB_true (by omega) ha).symm, rfl⟩
set_option maxHeartbeats 1000000 in
theorem walkOk_spec (s : ByteArray) (w : World) (hs : s.size ≤ maxLen) :
    Calls Tryd.prog 26 #[.string s] w fun e w' => e = .returned (.bool (Tw.walkB s.data.toList)) ∧ w = w' := by
  unfold maxLen at hs
  go_enter Tryd.func26, Tryd.ntmps26
  go_wp2_with fail
  go_loop [3] (fun i => ∃ k : Nat, k ≤ s.size ∧ i = .int .i64 k ∧ Hid ((s.data.toList.take k).all stepC = true)) (fun i => s.size - (intOf i).toNat)
  case atStart => exact ⟨0, Nat.zero_le _, rfl, Lib.hid (by simp)⟩
  case round =>
    obtain ⟨k, hk, rfl, HA⟩ := hrel
    by_cases hlt : k < s.size
    · have hd := Tw.dir_bd s[k]
      go_wp2_with (go_at_call 40; refine (l4Look_any s[k] _).mono ?_; rintro e w' ⟨rfl, rfl⟩)
      · go_ret
        exact ⟨ret_bool (walkB_bad hlt (by omega)).symm, rfl⟩
      · rename_i hstep
        exact ⟨⟨k + 1, by omega, by go_num, Lib.hid (all_next s k hlt HA.out hstep)⟩, by simp [intOf]; omega⟩
    · go_wp2_with fail
      have e : k = s.size := by omega
      have ha := HA.out
      rw [e, take_all] at ha
      go_ret
      exact ⟨ret_bool (by rw [walkB_of, ha, Bool.true_and]; congr 1; apply propext; omega), rfl⟩
end Go.Proofs.YtminclapchnheaaDoor
