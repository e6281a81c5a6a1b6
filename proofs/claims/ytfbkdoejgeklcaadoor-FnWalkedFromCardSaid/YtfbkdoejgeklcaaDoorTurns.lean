/- TurnsOf, TurtleOk and Constants of the program and of the reference. No condition but that numbers fit. -/
import Derived.Test.YtfbkdoejgeklcaaDoorWordOk
namespace Go.Proofs.YtfbkdoejgeklcaaDoor
open Go.RowKit
set_option linter.unusedVariables false
set_option linter.unusedSimpArgs false

theorem tn_of (c : UInt8) : Tw.tn c = if (c.toNat : Int) = 76 then 1 else if (c.toNat : Int) = 82 then -1 else 0 := by
  have e2 : c = 76 ↔ (c.toNat : Int) = 76 := byte_eq c 76 (by omega)
  have e3 : c = 82 ↔ (c.toNat : Int) = 82 := byte_eq c 82 (by omega)
  unfold Tw.tn
  simp only [e2, e3]
theorem turns_step (s : ByteArray) (k : Nat) (h : k < s.size) : Tw.turns (s.data.toList.take (k + 1)) = Tw.turns (s.data.toList.take k) + (if (s[k].toNat : Int) = 76 then 1 else if (s[k].toNat : Int) = 82 then -1 else 0) := by
  rw [take_snoc s k h, Tw.turns_append, Tw.turns_cons, Tw.turns_nil, tn_of]; omega
theorem turns_take_bd (s : ByteArray) (k : Nat) : -(k : Int) ≤ Tw.turns (s.data.toList.take k) ∧ Tw.turns (s.data.toList.take k) ≤ k := by
  have := Tw.turns_bd (s.data.toList.take k)
  have h := List.length_take_le k s.data.toList
  omega
/-- What TurnsOf tells: how many more letters L than R, of a word. -/
def turnsV (s : ByteArray) : Int := if Tw.wordB s.data.toList then Tw.turns s.data.toList else 0
theorem turnsV_word {s : ByteArray} (h : Tw.wordB s.data.toList = true) : turnsV s = Tw.turns s.data.toList := if_pos h
theorem turnsV_not {s : ByteArray} (h : Tw.wordB s.data.toList = false) : turnsV s = 0 := if_neg (by simp [h])

theorem turnsOf_impl (s : ByteArray) (w : World) (hs : s.size ≤ maxLen) :
    Calls Tryd.prog 18 #[.string s] w fun e w' => e = .returned (.tuple #[.int .i64 (turnsV s), .bool (Tw.wordB s.data.toList)]) ∧ w = w' := by
  cases hb : Tw.wordB s.data.toList
  · have hz := turnsV_not hb
    have HZ := Lib.hid hz; clear hz
    have hc := wordOk_impl s w hs
    rw [hb] at hc
    have HC := Lib.hid hc; clear hc hb
    go_enter Tryd.func18, Tryd.ntmps18
    go_wp2_with (go_at_call 25; refine HC.out.mono ?_; rintro e w' ⟨rfl, rfl⟩)
    go_ret2
    exact ⟨ret2 (int_eq HZ.out.symm) rfl, rfl⟩
  · have hz := turnsV_word hb
    have HZ := Lib.hid hz; clear hz
    have hc := wordOk_impl s w hs
    rw [hb] at hc
    have HC := Lib.hid hc; clear hc hb
    unfold maxLen at hs
    go_enter Tryd.func18, Tryd.ntmps18
    go_wp2_with (go_at_call 25; refine HC.out.mono ?_; rintro e w' ⟨rfl, rfl⟩)
    go_loop [4, 5] (fun n i => ∃ k : Nat, k ≤ s.size ∧ i = .int .i64 k ∧ n = .int .i64 (Tw.turns (s.data.toList.take k))) (fun _ i => s.size - (intOf i).toNat)
    case atStart => exact ⟨0, Nat.zero_le _, rfl, rfl⟩
    case round =>
      obtain ⟨k, hk, rfl, rfl⟩ := hrel
      have hbd := turns_take_bd s k
      by_cases hlt : k < s.size
      · have hst := turns_step s k hlt
        have HS := Lib.hid hst; clear hst
        go_wp2
        all_goals exact ⟨⟨k + 1, by omega, by go_num, int_eq (by rw [HS.out]; simp only [bne_iff_ne, beq_iff_eq, bne_eq_false_iff_eq, beq_eq_false_iff_ne, ne_eq] at *; simp [*]; try omega)⟩, by simp [intOf]; omega⟩
      · go_wp2
        go_ret2
        have e : k = s.size := by omega
        exact ⟨ret2 (int_eq (by rw [HZ.out, e, take_all])) rfl, rfl⟩


theorem tokB_of (x y k : Int) : Tw.tokB ⟨x, y, k⟩ = decide (-10000 ≤ x ∧ x ≤ 10000 ∧ -10000 ≤ y ∧ y ≤ 10000 ∧ 0 ≤ k ∧ k ≤ 3) := rfl
theorem turtleOk_impl (x y k : Int) (w : World) :
    Calls Tryd.prog 24 #[.agg #[.int .i64 x, .int .i64 y, .int .i64 k]] w fun e w' => e = .returned (.bool (Tw.tokB ⟨x, y, k⟩)) ∧ Below w.heap.size w w' := by
  have ht := tokB_of x y k
  have HT := Lib.hid ht; clear ht
  go_enter Tryd.func24, Tryd.ntmps24
  go_wp2
  all_goals
    go_ret
    exact ⟨ret_bool (Bool.eq_iff_iff.2 (by rw [HT.out]; simp only [decide_eq_true_iff]; first | omega | exact ⟨(fun h => by cases h), fun h => by omega⟩)), by go_grown⟩
theorem turtleOk_spec (x y k : Int) (w : World) :
    Calls Tryd.prog 21 #[.agg #[.int .i64 x, .int .i64 y, .int .i64 k]] w fun e w' => e = .returned (.bool (Tw.tokB ⟨x, y, k⟩)) ∧ Below w.heap.size w w' := by
  have ht := tokB_of x y k
  have HT := Lib.hid ht; clear ht
  go_enter Tryd.func21, Tryd.ntmps21
  go_wp2
  all_goals
    go_ret
    exact ⟨ret_bool (Bool.eq_iff_iff.2 (by rw [HT.out]; simp only [decide_eq_true_iff]; first | omega | exact ⟨(fun h => by cases h), fun h => by omega⟩)), by go_grown⟩
end Go.Proofs.YtfbkdoejgeklcaaDoor
