/- The law FnExactWalkedFrom answers true. Condition: the table of directions holds what the program's text lays. -/
import Derived.Test.YtfbkdoejgeklcaaDoorFrom
namespace Go.Proofs.YtfbkdoejgeklcaaDoor
open Go.RowKit
set_option linter.unusedVariables false
set_option linter.unusedSimpArgs false

set_option maxHeartbeats 1000000 in
theorem law_FnExactWalkedFrom (x y k : Int) (s : ByteArray) (w : World) (hx : (Lit.int .i64 x).wf = true) (hy : (Lit.int .i64 y).wf = true) (hk : (Lit.int .i64 k).wf = true) (hs : s.size ≤ maxLen) (hd : Dirs w) :
    Calls Tryd.prog 3 #[.agg #[.int .i64 x, .int .i64 y, .int .i64 k], .string s] w fun e w' => e = .returned (.bool true) ∧ Below w.heap.size w w' := by
  clear hx hy hk
  have h1 := fun w => walkedFrom_spec_go x y k s w hs
  have h2 := fun w hd => walkedFrom_impl_go x y k s w hd hs
  have H1 := Lib.hid h1; clear h1
  have H2 := Lib.hid h2; clear h2
  have HD := Lib.hid hd; clear hd
  generalize wfT ⟨x, y, k⟩ s = T at H1 H2
  generalize wfB ⟨x, y, k⟩ s = b at H1 H2
  unfold maxLen at hs
  go_enter Tryd.func3, Tryd.ntmps3
  go_wp2_with fail
  · go_ret
    exact ⟨rfl, by go_grown⟩
  · refine (toTurtle_any x y k _).mono ?_
    rintro e w1 ⟨rfl, hb1⟩
    have t1 := (Cells3.new w (.int .i64 x) (.int .i64 y) (.int .i64 k) 23).below hb1 (by simp)
    have hB1 := Below.up (B := w.heap.size) (w := w) (by go_grown) (by go_size) hb1
    clear hb1
    go_wp2_with fail
    refine (H1.out _).mono ?_
    rintro e w2 ⟨rfl, hb2⟩
    have t2 := t1.below hb2 t1.lt
    have hB2 := Below.up hB1 hB1.size hb2
    clear hb2 t1
    have t2' := t2.alloc (.cells #[.int .i64 T.x, .int .i64 T.y, .int .i64 T.k] 24)
    have s2 := Cells3.new w2 (.int .i64 T.x) (.int .i64 T.y) (.int .i64 T.k) 24
    have hB2' := hB2.alloc hB2.size (.cells #[.int .i64 T.x, .int .i64 T.y, .int .i64 T.k] 24)
    have hl2 := t2.lt
    obtain ⟨⟨ta, tb, tc⟩, td, te, tf⟩ := t2
    have hz2 := hB2.size
    go_wp2_with fail
    refine (toTurtle_any x y k _).mono ?_
    rintro e w3 ⟨rfl, hb3⟩
    have t3 := t2'.below hb3 (by exact t2'.lt)
    have s3 := s2.below hb3 (by exact s2.lt)
    have hB3 := Below.up hB2' hB2'.size hb3
    clear hb3 t2' s2 ta tb tc td te tf
    go_wp2_with fail
    refine (H2.out _ (Dirs.below hB3 HD.out.lt HD.out)).mono ?_
    rintro e w4 ⟨rfl, hb4⟩
    have s4 := s3.below hb4 (by exact s3.lt)
    have hB4 := Below.up hB3 hB3.size hb4
    have hz4 := hb4.size
    have hlt := s3.lt
    have hl4 := s4.lt
    clear hb4 s3 t3
    obtain ⟨⟨ta, tb, tc⟩, td, te, tf⟩ := s4
    go_wp2_with fail
    refine (eqTurtle_same T.x T.y T.k _).mono ?_
    rintro e w5 ⟨rfl, hb5⟩
    have hB5 := Below.up (hB4.alloc hB4.size (.cells #[.int .i64 T.x, .int .i64 T.y, .int .i64 T.k] 24)) (by have := hB4.size; simp; omega) hb5
    clear hb5
    go_wp2_with fail
    go_ret
    exact ⟨rfl, hB5⟩
end Go.Proofs.YtfbkdoejgeklcaaDoor
