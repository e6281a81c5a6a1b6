/- WordOk of the program and of the reference tell the same of every text. No condition. -/
import Derived.Test.YtminclapchnheaaDoorBase
namespace Go.Proofs.YtminclapchnheaaDoor
set_option linter.unusedVariables false
set_option linter.unusedSimpArgs false
open Go.RowKit

theorem isW_of (c : UInt8) : Tw.isW c = decide ((c.toNat : Int) = 70 ∨ (c.toNat : Int) = 76 ∨ (c.toNat : Int) = 82) := by
  have h1 := byte_eq c 70 (by omega)
  have h2 := byte_eq c 76 (by omega)
  have h3 := byte_eq c 82 (by omega)
  rw [Bool.eq_iff_iff]
  simp only [Tw.isW, Bool.or_eq_true, beq_iff_eq, decide_eq_true_eq]
  have e1 : c = 70 ↔ (c.toNat : Int) = 70 := h1
  have e2 : c = 76 ↔ (c.toNat : Int) = 76 := h2
  have e3 : c = 82 ↔ (c.toNat : Int) = 82 := h3
  rw [e1, e2, e3, or_assoc]
theorem all_step {f : UInt8 → Bool} {s : ByteArray} {k : Nat} (h : k < s.size) (ha : (s.data.toList.take k).all f = true) (hc : f s[k] = true) : (s.data.toList.take (k + 1)).all f = true := by
  rw [take_snoc s k h, List.all_append, ha, List.all_cons, hc]; rfl
theorem all_not {f : UInt8 → Bool} {s : ByteArray} {k : Nat} (h : k < s.size) (hc : f s[k] = false) : s.data.toList.all f = false := by
  rw [List.all_eq_false]
  exact ⟨s[k], byte_mem s k h, by simp [hc]⟩
theorem wordB_of (s : ByteArray) : Tw.wordB s.data.toList = (s.data.toList.all Tw.isW && decide (s.size ≤ 256)) := by unfold Tw.wordB; rw [bytes_len]
theorem wordB_true {s : ByteArray} (h : s.size ≤ 256) (ha : s.data.toList.all Tw.isW = true) : Tw.wordB s.data.toList = true := by rw [wordB_of, ha]; simpa using h
theorem wordB_long {s : ByteArray} (h : 256 < s.size) : Tw.wordB s.data.toList = false := by rw [wordB_of, decide_eq_false (by omega)]; simp
theorem wordB_len {s : ByteArray} (h : Tw.wordB s.data.toList = true) : s.size ≤ 256 := by rw [wordB_of, Bool.and_eq_true, decide_eq_true_iff] at h; exact h.2
theorem wordB_all {s : ByteArray} (h : Tw.wordB s.data.toList = true) : s.data.toList.all Tw.isW = true := by rw [wordB_of, Bool.and_eq_true] at h; exact h.1
theorem wordB_not {s : ByteArray} {k : Nat} (h : k < s.size) (hc : Tw.isW s[k] = false) : Tw.wordB s.data.toList = false := by rw [wordB_of, all_not h hc]; rfl

theorem wordOk_impl (s : ByteArray) (w : World) (hs : s.size ≤ maxLen) :
    Calls Tryd.prog 49 #[.string s] w fun e w' => e = .returned (.bool (Tw.wordB s.data.toList)) ∧ w = w' := by
  unfold maxLen at hs
  by_cases hl : 256 < s.size
  · have hf := wordB_long hl
    have HF := Lib.hid hf; clear hf
    go_enter Tryd.func49, Tryd.ntmps49
    go_wp2
    go_ret
    exact ⟨ret_bool HF.out.symm, rfl⟩
  · go_enter Tryd.func49, Tryd.ntmps49
    go_wp2
    go_loop [3] (fun i => ∃ k : Nat, k ≤ s.size ∧ i = .int .i64 k ∧ Hid ((s.data.toList.take k).all Tw.isW = true)) (fun i => s.size - (intOf i).toNat)
    case atStart => exact ⟨0, Nat.zero_le _, rfl, Lib.hid (by simp)⟩
    case round =>
      obtain ⟨k, hk, rfl, HA⟩ := hrel
      by_cases hlt : k < s.size
      · have hi := isW_of s[k]
        have HI := Lib.hid hi; clear hi
        go_wp2
        case roundEnd => exact ⟨⟨k + 1, by omega, by go_num, Lib.hid (all_step hlt HA.out (by rw [HI.out, decide_eq_true_iff]; simp only [beq_iff_eq] at *; omega))⟩, by simp [intOf]; omega⟩
        case roundEnd => exact ⟨⟨k + 1, by omega, by go_num, Lib.hid (all_step hlt HA.out (by rw [HI.out, decide_eq_true_iff]; simp only [beq_iff_eq] at *; omega))⟩, by simp [intOf]; omega⟩
        case roundEnd => exact ⟨⟨k + 1, by omega, by go_num, Lib.hid (all_step hlt HA.out (by rw [HI.out, decide_eq_true_iff]; simp only [beq_iff_eq] at *; omega))⟩, by simp [intOf]; omega⟩
        go_ret
        exact ⟨ret_bool (wordB_not hlt (by rw [HI.out, decide_eq_false_iff_not]; simp only [beq_eq_false_iff_ne, ne_eq] at *; omega)).symm, rfl⟩
      · go_wp2
        go_ret
        have e : k = s.size := by omega
        have ha := HA.out
        rw [e, take_all] at ha
        exact ⟨ret_bool (wordB_true (by omega) ha).symm, rfl⟩
end Go.Proofs.YtminclapchnheaaDoor
