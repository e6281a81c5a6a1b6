/- The law FnWalkOk answers true, for every list of bytes. No condition. -/
import Derived.Test.YtminclapchnheaaDrawL
namespace Go.Proofs.Ytminclapchnheaa
open Go.RowKit
set_option linter.unusedVariables false
set_option linter.unusedSimpArgs false

theorem w_X : Tw.wordB [88] = false := by decide
theorem w_FLR : Tw.wordB [70, 76, 82] = true := by decide
theorem k_empty : Tw.walkB [] = true := by decide
theorem k_s : Tw.walkB [115] = true := by decide
theorem k_E : Tw.walkB [69] = false := by decide
theorem alive_any (w : World) : Calls Try.prog 11 #[] w fun e w' => e = .returned (.bool true) ∧ w = w' := by
  have e1 := w_X
  have e2 := w_FLR
  go_enter Try.func11, Try.ntmps11
  go_wp2_with (go_at_call 16; refine (wordOk_impl _ _ (by decide)).mono ?_; rintro e w' ⟨rfl, rfl⟩)
  go_ret
  exact ⟨by simp [e1, e2], rfl⟩
theorem law_FnWalkOk (a : Option Addr) (len cap : Nat) (zs : List Int) (w : World) (h : IsRow w a len cap zs) : Calls Try.prog 5 #[.slice a len cap] w fun e w' => e = .returned (.bool true) ∧ Below w.heap.size w w' := by
  have hd := drawWalkOk h
  have HD := Lib.hid hd; clear hd h
  have e0 := k_empty
  have e1 := k_s
  have e2 := k_E
  go_enter Try.func5, Try.ntmps5
  go_wp2_with (first
    | (go_at_call 10; refine HD.out.mono ?_; rintro e w1 hp; obtain ⟨s, rfl, hs, hB1⟩ := hp)
    | (go_at_call 6; refine (walkOk_spec s _ (by unfold maxLen; omega)).mono ?_; rintro e w' ⟨rfl, rfl⟩)
    | (go_at_call 7; refine (walkOk_impl _ _ (by first | decide | (unfold maxLen; omega))).mono ?_; rintro e w' ⟨rfl, rfl⟩)
    | (go_at_call 11; refine (alive_any _).mono ?_; rintro e w' ⟨rfl, rfl⟩))
  · go_ret
    exact ⟨rfl, Below.refl _ _⟩
  · go_ret
    exact ⟨by simp [e0, e1, e2], hB1⟩
end Go.Proofs.Ytminclapchnheaa
