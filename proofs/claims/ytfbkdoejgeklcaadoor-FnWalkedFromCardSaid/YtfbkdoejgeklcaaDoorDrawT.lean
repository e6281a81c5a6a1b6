/- A turtle is drawn. No condition. -/
import Derived.Test.YtfbkdoejgeklcaaDoorDrawW
namespace Go.Proofs.YtfbkdoejgeklcaaDoor
open Go.RowKit
set_option linter.unusedVariables false
set_option linter.unusedSimpArgs false

def TurtlePost (w : World) (R : Nat) (a : Option Addr) (len cap : Nat) (zs : List Int) (p : Int) (e : Ending) (w' : World) : Prop :=
  ∃ (x y k p' : Int), e = .returned (.agg #[.int .i64 x, .int .i64 y, .int .i64 k]) ∧ -10001 ≤ x ∧ x ≤ 10001 ∧ -10001 ≤ y ∧ y ≤ 10001 ∧ 0 ≤ k ∧ k ≤ 4 ∧ p ≤ p' ∧ p' ≤ p + 5 ∧ Reader w' R a len cap zs p' ∧ w.grownBy w' (some R)
set_option maxRecDepth 100000 in
set_option maxHeartbeats 1000000 in
theorem turtle_any (n : Int) {R : Nat} {a : Option Addr} {len cap : Nat} {zs : List Int} {p : Int} {w : World} (h : Reader w R a len cap zs p) (h0 : 0 ≤ p) (h1 : p ≤ 90000) (hn : 1 ≤ n) (hn2 : n ≤ 1000000) :
    Calls Tryd.prog 30 #[.pointer (some ⟨R, 0, none⟩), .int .i64 n] w (TurtlePost w R a len cap zs p) := by
  have hR := h.lt
  have tok1 : True := trivial
  go_enter Tryd.func30, Tryd.ntmps30
  go_wp2_with fail
  refine (pick_any _ (h.alloc _) h0 (by omega) (by omega) (by omega)).mono ?_
  rintro e w1 hp; obtain ⟨v1, v10, v11, rfl, hr1, hg1, hs1⟩ := hp
  have q1 := (Cells3.new w _ _ _ _).grown hg1 hR
  have hz1 := hg1.size
  simp only [World.size_alloc] at hz1
  go_wp2_with fail
  refine (pick_any _ hr1 (by omega) (by omega) (by omega) (by omega)).mono ?_
  rintro e w2 hp; obtain ⟨v2, v20, v21, rfl, hr2, hg2, hs2⟩ := hp
  have q2 := q1.grown hg2 hR
  have hz2 := hg2.size
  go_wp2_with fail
  refine (pick_any _ hr2 (by omega) (by omega) (by omega) (by omega)).mono ?_
  rintro e w3 hp; obtain ⟨v3, v30, v31, rfl, hr3, hg3, hs3⟩ := hp
  have q3 := q2.grown hg3 hR
  have hz3 := hg3.size
  have hR3 := hr3.lt
  have hG3 : w.grownBy w3 (some R) := (((World.grownBy_alloc _ _ _).trans hg1).trans hg2).trans hg3
  clear hg1 hg2 hg3 hs1 hs2 hs3 hr1 hr2 q1 q2
  go_wp2_with fail
  refine (odd_any _ (hr3.alloc _) (by omega) (by omega) hn hn2).mono ?_
  rintro e w4 hp; obtain ⟨b, rfl, hr4, hg4, hs4⟩ := hp
  have q4 := (q3.alloc (.cells #[.int .i64 (v1 - 10), .int .i64 (v2 - 10), .int .i64 v3] 24)).grown hg4 hR
  have t4 := (Cells3.new w3 (.int .i64 (v1 - 10)) (.int .i64 (v2 - 10)) (.int .i64 v3) 24).grown hg4 hR3
  have hz4 := hg4.size
  simp only [World.size_alloc] at hz4
  have hG4 : w.grownBy w4 (some R) := (hG3.trans (World.grownBy_alloc _ _ _)).trans hg4
  clear hG3 hg4 hs4 hr3 q3
  have q4' := q4
  have t4' := t4
  obtain ⟨⟨qa, qb, qc⟩, qd, qe, qf⟩ := q4'
  obtain ⟨⟨ta, tb, tc⟩, td, te, tf⟩ := t4'
  go_wp2_with (go_at_call 35; refine (pick_any _ hr4 (by omega) (by omega) (by omega) (by omega)).mono ?_; rintro e w5 hp; obtain ⟨v5, v50, v51, rfl, hr5, hg5, hs5⟩ := hp; have q5 := q4.grown hg5 hR; have t5 := t4.grown hg5 hR3; have hz5 := hg5.size; obtain ⟨⟨qa5, qb5, qc5⟩, qd5, qe5, qf5⟩ := q5; obtain ⟨⟨ta5, tb5, tc5⟩, td5, te5, tf5⟩ := t5)
  all_goals
    have n1 : w3.heap.size ≠ w.heap.size := by omega
    have n2 : w.heap.size ≠ w3.heap.size := by omega
  · refine bodyPost_ret (v := .agg #[.int .i64 10001, .int .i64 (v2 - 10), .int .i64 v3]) (by simp [results, Tryd.results30, go_sem, n1, n2, qa5, qb5, qc5, ta5, tb5, tc5]) rfl ?_
    exact ⟨_, _, _, p + 1 + 1 + 1 + 1 + 1, rfl, by omega, by omega, by omega, by omega, by omega, by omega, by omega, by omega, by repeat (first | exact hr5 | refine Reader.setCell ?_ (by simp; omega) _), by repeat (first | exact hG4.trans hg5 | refine grownBy_setCell ?_ (by first | (simp; done) | (simp; omega)) _)⟩
  · refine bodyPost_ret (v := .agg #[.int .i64 (v1 - 10), .int .i64 (v2 - 10), .int .i64 4]) (by simp [results, Tryd.results30, go_sem, n1, n2, qa5, qb5, qc5, ta5, tb5, tc5]) rfl ?_
    exact ⟨_, _, _, p + 1 + 1 + 1 + 1 + 1, rfl, by omega, by omega, by omega, by omega, by omega, by omega, by omega, by omega, by repeat (first | exact hr5 | refine Reader.setCell ?_ (by simp; omega) _), by repeat (first | exact hG4.trans hg5 | refine grownBy_setCell ?_ (by first | (simp; done) | (simp; omega)) _)⟩
  · refine bodyPost_ret (v := .agg #[.int .i64 10000, .int .i64 (v2 - 10), .int .i64 0]) (by simp [results, Tryd.results30, go_sem, n1, n2, qa5, qb5, qc5, ta5, tb5, tc5]) rfl ?_
    exact ⟨_, _, _, p + 1 + 1 + 1 + 1 + 1, rfl, by omega, by omega, by omega, by omega, by omega, by omega, by omega, by omega, by repeat (first | exact hr5 | refine Reader.setCell ?_ (by simp; omega) _), by repeat (first | exact hG4.trans hg5 | refine grownBy_setCell ?_ (by first | (simp; done) | (simp; omega)) _)⟩
  · refine bodyPost_ret (v := .agg #[.int .i64 (v1 - 10), .int .i64 (v2 - 10), .int .i64 v3]) (by simp [results, Tryd.results30, go_sem, n1, n2, qa, qb, qc, ta, tb, tc]) rfl ?_
    exact ⟨_, _, _, p + 1 + 1 + 1 + 1, rfl, by omega, by omega, by omega, by omega, by omega, by omega, by omega, by omega, by repeat (first | exact hr4 | refine Reader.setCell ?_ (by simp; omega) _), by repeat (first | exact hG4 | refine grownBy_setCell ?_ (by first | (simp; done) | (simp; omega)) _)⟩
end Go.Proofs.YtfbkdoejgeklcaaDoor
