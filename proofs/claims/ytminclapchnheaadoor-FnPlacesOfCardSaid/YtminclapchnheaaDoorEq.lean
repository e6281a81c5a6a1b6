/- Two places compared. -/
import Derived.Test.YtminclapchnheaaDoorEnd
import Derived.DeepKeys
namespace Go.Proofs.YtminclapchnheaaDoor
open Go.RowKit
set_option linter.unusedVariables false
set_option linter.unusedSimpArgs false
@[go_sem] theorem equal_place (x y x' y' : Int) (w : World) : (Op.equalIn 10000 40 (.agg #[.int .i64 x, .int .i64 y]) (.agg #[.int .i64 x', .int .i64 y'])).run Tryd.prog w = .ok (x == x' && y == y') w := by
  have u3 := Tryd.underlying3
  obtain ⟨i, hi⟩ : ∃ i, Tryd.prog.info? 3 = some i := info_of_underlying u3
  have c3 : Tryd.prog.cellsOf 3 = 1 := by kernel_rfl
  have a3 := Tryd.isAgg3
  rw [show (10000 : Nat) = 9999 + 1 from rfl, run_equalIn_array w 9999 _ _ Tryd.underlying40 hi, c3]
  simp only [List.range_succ, List.range_zero, List.nil_append, List.cons_append, Op.eqItems]
  go_simp
  by_cases h1 : x = x' <;> by_cases h2 : y = y' <;> simp [h1, h2]
end Go.Proofs.YtminclapchnheaaDoor
