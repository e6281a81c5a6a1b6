/- The law FnTurtleOk answers true, for every list of bytes. No condition. -/
import Derived.Test.YtfbkdoejgeklcaaLawA2
import Derived.Test.YtfbkdoejgeklcaaDrawT
namespace Go.Proofs.Ytfbkdoejgeklcaa
open Go.RowKit
set_option linter.unusedVariables false
set_option linter.unusedSimpArgs false

theorem tok_zero : Tw.tokB ⟨0, 0, 0⟩ = true := by decide
theorem tok_turned (x y k : Int) (h0 : 0 ≤ k) (h1 : k ≤ 3) : Tw.tokB ⟨x, y, (k + 1) % 4⟩ = Tw.tokB ⟨x, y, k⟩ := by
  rw [tokB_of, tokB_of, Bool.eq_iff_iff, decide_eq_true_iff, decide_eq_true_iff]
  constructor <;> (intro h; omega)
set_option maxHeartbeats 1000000 in
theorem law_FnTurtleOk (a : Option Addr) (len cap : Nat) (zs : List Int) (w : World) (h : IsRow w a len cap zs) : Calls Try.prog 9 #[.slice a len cap] w fun e w' => e = .returned (.bool true) ∧ Below w.heap.size w w' := by
  have hd := drawTurtleOk h
  have HD := Lib.hid hd; clear hd h
  go_enter Try.func9, Try.ntmps9
  go_wp2_with fail
  · go_ret
    exact ⟨rfl, Below.refl _ _⟩
  · refine HD.out.mono ?_
    rintro e w1 hp; obtain ⟨x, y, k, rfl, x0, x1, y0, y1, k0, k1, hB1⟩ := hp
    have hz1 := hB1.size
    have tz := tok_zero
    go_wp2_with fail
    refine (turtleOk_impl x y k _).mono ?_
    rintro e w2 ⟨rfl, hb2⟩
    have hB2 : Below w.heap.size w w2 := Below.up (by go_grown) (by go_size) hb2
    have q2 := (Cells3.new w1 (.int .i64 x) (.int .i64 y) (.int .i64 k) 26).below hb2 (by simp)
    have hz2 := hb2.size
    simp only [World.size_alloc] at hz2
    clear hb2
    have q2' := q2
    obtain ⟨⟨qa, qb, qc⟩, qd, qe, qf⟩ := q2'
    go_wp2_with fail
    refine (turtleOk_spec x y k _).mono ?_
    rintro e w3 ⟨rfl, hb3⟩
    have hB3 : Below w.heap.size w w3 := Below.up hB2 (by omega) hb3
    have q3 := q2.below hb3 (by omega)
    have hz3 := hb3.size
    clear hb3 q2 qa qb qc qd qe qf
    have q3' := q3
    obtain ⟨⟨qa, qb, qc⟩, qd, qe, qf⟩ := q3'
    go_wp2_with fail
    refine (turtleOk_impl 0 0 0 _).mono ?_
    rintro e w4 ⟨rfl, hb4⟩
    have hB4 : Below w.heap.size w w4 := Below.up (hB3.alloc hB3.size _) (by simp; omega) hb4
    have u4 := (Cells3.new w3 (.int .i64 x) (.int .i64 y) (.int .i64 ((k + 1) % 4)) 26).below hb4 (by simp)
    have q4 := (q3.alloc (.cells #[.int .i64 x, .int .i64 y, .int .i64 ((k + 1) % 4)] 26)).below hb4 (by simp; omega)
    have hz4 := hb4.size
    simp only [World.size_alloc] at hz4
    clear hb4 q3 qa qb qc qd qe qf hB3
    have q4' := q4
    obtain ⟨⟨qa, qb, qc⟩, qd, qe, qf⟩ := q4'
    have u4' := u4
    obtain ⟨⟨ua, ub, uc⟩, ud, ue, uf⟩ := u4'
    clear q4 u4
    by_cases hk : k ≤ 3
    · have et := tok_turned x y k k0 hk
      go_wp2_with (first
        | (go_at_call 13; refine (turtleOk_impl x y ((k + 1) % 4) _).mono ?_; rintro e w5 ⟨rfl, hb5⟩)
        | (go_at_call 21; refine (alive_any _).mono ?_; rintro e w' ⟨rfl, rfl⟩))
      go_ret
      exact ⟨rfl, Below.up hB4 hB4.size hb5⟩
    · go_wp2_with (first
        | (go_at_call 21; refine (alive_any _).mono ?_; rintro e w' ⟨rfl, rfl⟩))
      go_ret
      exact ⟨rfl, hB4⟩
end Go.Proofs.Ytfbkdoejgeklcaa
