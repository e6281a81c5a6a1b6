/- The laws FnWordOk, FnTurnsOf, FnTurtleOk: each answers true, for every list of bytes. No condition. -/
import Derived.Test.YtfbkdoejgeklcaaDoorTurns
import Derived.Test.YtfbkdoejgeklcaaDoorDrawW
import Derived.Test.YtfbkdoejgeklcaaDoorBack
namespace Go.Proofs.YtfbkdoejgeklcaaDoor
open Go.RowKit
set_option linter.unusedVariables false
set_option linter.unusedSimpArgs false

theorem w_empty : Tw.wordB [] = true := by decide
theorem w_L : Tw.wordB [76] = true := by decide
theorem w_R : Tw.wordB [82] = true := by decide
theorem w_f : Tw.wordB [102] = false := by decide
theorem w_X : Tw.wordB [88] = false := by decide
theorem w_FLR : Tw.wordB [70, 76, 82] = true := by decide
theorem alive_any (w : World) : Calls Tryd.prog 14 #[] w fun e w' => e = .returned (.bool true) ∧ w = w' := by
  have e1 := w_X
  have e2 := w_FLR
  go_enter Tryd.func14, Tryd.ntmps14
  go_wp2_with (go_at_call 25; refine (wordOk_impl _ _ (by decide)).mono ?_; rintro e w' ⟨rfl, rfl⟩)
  go_ret
  exact ⟨by simp [e1, e2], rfl⟩
end Go.Proofs.YtfbkdoejgeklcaaDoor
