/- The laws on WordOk, TurtleOk, TurnsOf and the constants: each answers true. No condition but that the arguments fit their types. -/
import Derived.Test.YtfbkdoejgeklcaaTurns
namespace Go.Proofs.Ytfbkdoejgeklcaa
open Go.RowKit
set_option linter.unusedVariables false
set_option linter.unusedSimpArgs false

theorem law_FnExactConstants (w : World) : Calls Try.prog 3 #[] w fun e w' => e = .returned (.bool true) ∧ Below w.heap.size w w' := by
  go_enter Try.func3, Try.ntmps3
  go_wp2
  go_ret
  exact ⟨rfl, Below.refl _ _⟩
theorem law_FnExactWordOk (s : ByteArray) (w : World) (hs : s.size ≤ maxLen) : Calls Try.prog 5 #[.string s] w fun e w' => e = .returned (.bool true) ∧ Below w.heap.size w w' := by
  have h1 := wordOk_spec s w hs
  have H1 := Lib.hid h1; clear h1
  have h2 := wordOk_impl s w hs
  have H2 := Lib.hid h2; clear h2
  unfold maxLen at hs
  go_enter Try.func5, Try.ntmps5
  go_wp2_with (first | (go_at_call 14; refine H1.out.mono ?_; rintro e w' ⟨rfl, rfl⟩) | (go_at_call 15; refine H2.out.mono ?_; rintro e w' ⟨rfl, rfl⟩))
  all_goals
    go_ret
    exact ⟨rfl, Below.refl _ _⟩
theorem law_FnExactTurnsOf (s : ByteArray) (w : World) (hs : s.size ≤ maxLen) : Calls Try.prog 6 #[.string s] w fun e w' => e = .returned (.bool true) ∧ Below w.heap.size w w' := by
  have h1 := turnsOf_spec s w hs
  have H1 := Lib.hid h1; clear h1
  have h2 := turnsOf_impl s w hs
  have H2 := Lib.hid h2; clear h2
  unfold maxLen at hs
  go_enter Try.func6, Try.ntmps6
  go_wp2_with (first | (go_at_call 16; refine H1.out.mono ?_; rintro e w' ⟨rfl, rfl⟩) | (go_at_call 17; refine H2.out.mono ?_; rintro e w' ⟨rfl, rfl⟩))
  all_goals
    go_ret
    exact ⟨rfl, Below.refl _ _⟩
theorem law_FnExactTurtleOk (x y k : Int) (w : World) (hx : (Lit.int .i64 x).wf = true) (hy : (Lit.int .i64 y).wf = true) (hk : (Lit.int .i64 k).wf = true) :
    Calls Try.prog 4 #[.agg #[.int .i64 x, .int .i64 y, .int .i64 k]] w fun e w' => e = .returned (.bool true) ∧ Below w.heap.size w w' := by
  clear hx hy hk
  go_enter Try.func4, Try.ntmps4
  go_wp2_with (first | (go_at_call 11; refine (turtleOk_spec x y k _).mono ?_; rintro e w1 ⟨rfl, hb1⟩; obtain ⟨hc1, hf1⟩ := bcell hb1; have hz1 := hb1.size; simp only [World.size_alloc] at hz1; have hB1 : Below w.heap.size w w1 := Below.up (by go_grown) (by go_size) hb1) | (go_at_call 13; refine (turtleOk_impl x y k _).mono ?_; rintro e w2 ⟨rfl, hb2⟩; obtain ⟨hc2, hf2⟩ := bcell hb2; have hz2 := hb2.size) | go_in)
  go_ret
  exact ⟨rfl, Below.up (by go_grown) (by go_size) hb2⟩
end Go.Proofs.Ytfbkdoejgeklcaa
