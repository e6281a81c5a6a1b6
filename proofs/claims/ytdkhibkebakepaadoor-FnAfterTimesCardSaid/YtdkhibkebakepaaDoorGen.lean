/- Small facts that the laws of the second kind share in this seat. No condition. -/
import Derived.Test.YtdkhibkebakepaaDoorFar
import Derived.Test.YtdkhibkebakepaaDoorBytes
import Derived.Test.YtdkhibkebakepaaDoorDrawW
namespace Go.Proofs.YtdkhibkebakepaaDoor
open Go.RowKit
set_option linter.unusedVariables false
set_option linter.unusedSimpArgs false

theorem w_X : Tw.wordB [88] = false := by decide
theorem w_FLR : Tw.wordB [70, 76, 82] = true := by decide
theorem alive_any (w : World) : Calls Tryd.prog 24 #[] w fun e w' => e = .returned (.bool true) ∧ w = w' := by
  have e1 := w_X
  have e2 := w_FLR
  go_enter Tryd.func24, Tryd.ntmps24
  go_wp2_with (go_at_call 42; refine (wordOk_impl _ _ (by decide)).mono ?_; rintro e w' ⟨rfl, rfl⟩)
  go_ret
  exact ⟨by simp [e1, e2], rfl⟩
theorem word_L (s : ByteArray) (c : UInt8) (hc : Tw.isW c = true) (h : Tw.wordB s.data.toList = true) (hs : s.size ≤ 200) : Tw.wordB (s ++ ⟨#[c]⟩).data.toList = true := by
  refine wordB_true (by rw [ByteArray.size_append]; show s.size + 1 ≤ 256; omega) ?_
  rw [app_list, List.all_append, wordB_all h]
  show (true && [c].all Tw.isW) = true
  simp [hc]
theorem turns_L (s : ByteArray) (c : UInt8) : Tw.turns (s ++ ⟨#[c]⟩).data.toList = Tw.turns s.data.toList + Tw.tn c := by
  rw [app_list, Tw.turns_append]
  show _ + Tw.turns [c] = _
  rw [Tw.turns_cons, Tw.turns_nil]; omega
theorem fs_step (s : ByteArray) (k : Nat) (h : k < s.size) : Tw.fs (s.data.toList.take (k + 1)) = Tw.fs (s.data.toList.take k) + (if (s[k].toNat : Int) = 70 then 1 else 0) := by
  have e2 : s[k] = 70 ↔ (s[k].toNat : Int) = 70 := byte_eq s[k] 70 (by omega)
  rw [take_snoc s k h, Tw.fs_append, Tw.fs_cons, Tw.fs_nil]
  simp only [e2]; omega
theorem fs_bd (s : ByteArray) (k : Nat) : 0 ≤ Tw.fs (s.data.toList.take k) ∧ Tw.fs (s.data.toList.take k) ≤ k := by
  have h1 := Tw.fs_nonneg (s.data.toList.take k)
  have h2 := Tw.fs_le (s.data.toList.take k)
  have h3 := List.length_take_le k s.data.toList
  omega
theorem look_tmod (n : Int) (h0 : -1000 ≤ n) (h1 : n ≤ 1000) : (wrap64 (n.tmod 4 + 4)).tmod 4 = n % 4 := by
  have hw : ∀ m : Int, -1000 ≤ m → m ≤ 1000 → wrap64 m = m := fun m a b => by unfold wrap64; omega
  by_cases hn : 0 ≤ n
  · rw [Int.tmod_eq_emod_of_nonneg hn, hw _ (by omega) (by omega), Int.tmod_eq_emod_of_nonneg (by omega)]; omega
  · have e : n.tmod 4 = -((-n) % 4) := by
      have : n = -(-n) := by omega
      rw [this, Int.neg_tmod, Int.tmod_eq_emod_of_nonneg (by omega)]
      simp
    rw [e, hw _ (by omega) (by omega), Int.tmod_eq_emod_of_nonneg (by omega)]; omega

end Go.Proofs.YtdkhibkebakepaaDoor
