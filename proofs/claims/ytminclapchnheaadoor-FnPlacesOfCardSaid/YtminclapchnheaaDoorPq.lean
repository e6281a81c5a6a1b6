/- Rows of rows of two numbers: compared. Laws about the laws' own functions; no condition. -/
import Derived.Test.YtminclapchnheaaDoorPo
namespace Go.Proofs.YtminclapchnheaaDoor
open Go.RowKit
set_option linter.unusedVariables false
set_option linter.unusedSimpArgs false

theorem quiet_of_drew {P : Program} {f : FuncId} {args : Array Value} {w : World} {n : Nat} {v : Value} (h : Calls P f args (w.drewN n) fun e w' => e = .returned v ∧ ∃ m, w' = (w.drewN n).drewN m) :
    Calls P f args (w.drewN n) fun e w'' => e = .returned v ∧ ∃ m, w'' = w.drewN m :=
  h.mono fun e w' ⟨he, m, hm⟩ => ⟨he, n + m, by rw [hm, World.drewN_drewN]⟩
/-- In block g lie n rows of two numbers each. -/
def Rd (w : World) (g n : Nat) (fx fy : Nat → Int) : Prop := ∀ i, i < n → ∃ b, w.cell? ⟨g, i, none⟩ = some (.slice (some ⟨b, 0, none⟩) 2 2) ∧ w.cell? ⟨b, 0, none⟩ = some (.int .i64 (fx i)) ∧ w.cell? ⟨b, 1, none⟩ = some (.int .i64 (fy i))
theorem RwP.rd {w : World} {g n cap : Nat} {bl : Nat → Nat} {fx fy : Nat → Int} (h : RwP w g n cap bl fx fy) : Rd w g n fx fy := fun i hi => ⟨bl i, (h.at hi).1, (h.at hi).2.1⟩
theorem PL.rd {w : World} {base g cap : Nat} {E : TypeId} {s : ByteArray} (h : PL w base E (.slice (some ⟨g, 0, none⟩) (s.size + 1) cap) (pk s s.size)) : Rd w g (s.size + 1) (fun i => (pe s i).x) (fun i => (pe s i).y) := fun i hi => by
  have hl := pk_len s s.size (Nat.le_refl _)
  rw [← hl] at h
  exact h.at (pk_at s i (by omega))
theorem eqIntS_two {w : World} {b b' : Nat} {x y : Int} (h0 : w.cell? ⟨b, 0, none⟩ = some (.int .i64 x)) (h1 : w.cell? ⟨b, 1, none⟩ = some (.int .i64 y)) (h0' : w.cell? ⟨b', 0, none⟩ = some (.int .i64 x)) (h1' : w.cell? ⟨b', 1, none⟩ = some (.int .i64 y)) :
    Calls Tryd.prog 44 #[.slice (some ⟨b, 0, none⟩) 2 2, .slice (some ⟨b', 0, none⟩) 2 2] w fun e w' => e = .returned (.bool true) ∧ ∃ m, w' = w.drewN m := by
  go_enter Tryd.func44, Tryd.ntmps44
  go_wp2_with fail
  go_loopw [5] (fun i wr => ∃ k : Nat, k ≤ 2 ∧ i = .int .i64 (k : Int) ∧ ∃ m, wr = w.drewN m) (fun i _ => 2 - (intOf i).toNat)
  case atStart => exact ⟨0, by omega, rfl, 0, rfl⟩
  case round =>
    obtain ⟨k, hk, rfl, m, hm⟩ := hrel
    have f0 : wr.cell? ⟨b, 0, none⟩ = some (.int .i64 x) := by rw [hm, World.cell?_drewN]; exact h0
    have f1 : wr.cell? ⟨b, 1, none⟩ = some (.int .i64 y) := by rw [hm, World.cell?_drewN]; exact h1
    have f2 : wr.cell? ⟨b', 0, none⟩ = some (.int .i64 x) := by rw [hm, World.cell?_drewN]; exact h0'
    have f3 : wr.cell? ⟨b', 1, none⟩ = some (.int .i64 y) := by rw [hm, World.cell?_drewN]; exact h1'
    have HM := Lib.hid hm; clear hm h0 h1 h0' h1'
    have hk3 : k = 0 ∨ k = 1 ∨ k = 2 := by omega
    rcases hk3 with rfl | rfl | rfl
    · go_wp2_with fail
      go_quiet (fail)
      go_wp2_with fail
      exact ⟨⟨1, by omega, by go_num, _, by rw [HM.out, World.drewN_drewN]⟩, by simp [intOf]⟩
    · go_wp2_with fail
      go_quiet (fail)
      go_wp2_with fail
      exact ⟨⟨2, by omega, by go_num, _, by rw [HM.out, World.drewN_drewN]⟩, by simp [intOf]⟩
    · go_wp2_with fail
      go_ret
      exact ⟨rfl, m, HM.out⟩
theorem eqIntSS_nil (p : Option Addr) (cap : Nat) (w : World) : Calls Tryd.prog 22 #[.slice none 0 0, .slice p 0 cap] w fun e w' => e = .returned (.bool true) ∧ w = w' := by
  go_enter Tryd.func22, Tryd.ntmps22
  go_wp2_with fail
  go_loopw [5] (fun i wr => i = .int .i64 0 ∧ wr = w) (fun _ _ => 0)
  case atStart => exact ⟨rfl, rfl⟩
  case round =>
    obtain ⟨rfl, rfl⟩ := hrel
    go_wp2_with fail
    go_ret
    exact ⟨rfl, rfl⟩
set_option maxHeartbeats 1000000 in
set_option maxRecDepth 100000 in
theorem eqIntSS_any {g g' n cap cap' : Nat} {fx fy : Nat → Int} {w : World} (h : Rd w g n fx fy) (h' : Rd w g' n fx fy) (hn : n ≤ 60) :
    Calls Tryd.prog 22 #[.slice (some ⟨g, 0, none⟩) n cap, .slice (some ⟨g', 0, none⟩) n cap'] w fun e w' => e = .returned (.bool true) ∧ Below w.heap.size w w' := by
  have HA := Lib.hid h; clear h
  have HB := Lib.hid h'; clear h'
  go_enter Tryd.func22, Tryd.ntmps22
  go_wp2_with fail
  go_loopw [5] (fun i wr => ∃ k : Nat, k ≤ n ∧ i = .int .i64 (k : Int) ∧ ∃ m, wr = w.drewN m) (fun i _ => n - (intOf i).toNat)
  case atStart => exact ⟨0, by omega, rfl, 0, rfl⟩
  case round =>
    obtain ⟨k, hk, rfl, m, hm⟩ := hrel
    have HM := Lib.hid hm; clear hm
    by_cases hlt : k < n
    · obtain ⟨b, b0, b1, b2⟩ := HA.out k hlt
      obtain ⟨c, c0, c1, c2⟩ := HB.out k hlt
      have hgI : (k : Int) < (n : Int) := by omega
      have f0 : wr.cell? ⟨g, k, none⟩ = some (.slice (some ⟨b, 0, none⟩) 2 2) := by rw [HM.out, World.cell?_drewN]; exact b0
      have f1 : wr.cell? ⟨g', k, none⟩ = some (.slice (some ⟨c, 0, none⟩) 2 2) := by rw [HM.out, World.cell?_drewN]; exact c0
      have HC : Hid (∀ q, Calls Tryd.prog 44 #[.slice (some ⟨b, 0, none⟩) 2 2, .slice (some ⟨c, 0, none⟩) 2 2] (wr.drewN q) fun e w' => e = .returned (.bool true) ∧ ∃ m, w' = (wr.drewN q).drewN m) :=
        Lib.hid (fun q => eqIntS_two (by rw [World.cell?_drewN, HM.out, World.cell?_drewN]; exact b1) (by rw [World.cell?_drewN, HM.out, World.cell?_drewN]; exact b2) (by rw [World.cell?_drewN, HM.out, World.cell?_drewN]; exact c1) (by rw [World.cell?_drewN, HM.out, World.cell?_drewN]; exact c2))
      clear b0 b1 b2 c0 c1 c2
      go_wp2_with fail
      go_quiet (first | (go_at_call 44; refine quiet_of_drew (HC.out _)))
      go_wp2_with fail
      exact ⟨⟨k + 1, by omega, by go_num, _, by rw [HM.out, World.drewN_drewN]⟩, by simp [intOf]; omega⟩
    · obtain rfl : k = n := by omega
      go_wp2_with fail
      go_ret
      exact ⟨rfl, by rw [HM.out]; exact below_drewN (Below.refl _ _) _⟩
theorem sameInts_two {w : World} {b b' : Nat} {x y : Int} (h0 : w.cell? ⟨b, 0, none⟩ = some (.int .i64 x)) (h1 : w.cell? ⟨b, 1, none⟩ = some (.int .i64 y)) (h0' : w.cell? ⟨b', 0, none⟩ = some (.int .i64 x)) (h1' : w.cell? ⟨b', 1, none⟩ = some (.int .i64 y)) :
    Calls Tryd.prog 51 #[.slice (some ⟨b, 0, none⟩) 2 2, .slice (some ⟨b', 0, none⟩) 2 2] w fun e w' => e = .returned (.bool true) ∧ ∃ m, w' = w.drewN m := by
  go_enter Tryd.func51, Tryd.ntmps51
  go_wp2_with fail
  go_loopw [5] (fun i wr => ∃ k : Nat, k ≤ 2 ∧ i = .int .i64 (k : Int) ∧ ∃ m, wr = w.drewN m) (fun i _ => 2 - (intOf i).toNat)
  case atStart => exact ⟨0, by omega, rfl, 0, rfl⟩
  case round =>
    obtain ⟨k, hk, rfl, m, hm⟩ := hrel
    have f0 : wr.cell? ⟨b, 0, none⟩ = some (.int .i64 x) := by rw [hm, World.cell?_drewN]; exact h0
    have f1 : wr.cell? ⟨b, 1, none⟩ = some (.int .i64 y) := by rw [hm, World.cell?_drewN]; exact h1
    have f2 : wr.cell? ⟨b', 0, none⟩ = some (.int .i64 x) := by rw [hm, World.cell?_drewN]; exact h0'
    have f3 : wr.cell? ⟨b', 1, none⟩ = some (.int .i64 y) := by rw [hm, World.cell?_drewN]; exact h1'
    have HM := Lib.hid hm; clear hm h0 h1 h0' h1'
    have hk3 : k = 0 ∨ k = 1 ∨ k = 2 := by omega
    rcases hk3 with rfl | rfl | rfl
    · go_wp2_with fail
      go_quiet (fail)
      go_wp2_with fail
      exact ⟨⟨1, by omega, by go_num, _, by rw [HM.out, World.drewN_drewN]⟩, by simp [intOf]⟩
    · go_wp2_with fail
      go_quiet (fail)
      go_wp2_with fail
      exact ⟨⟨2, by omega, by go_num, _, by rw [HM.out, World.drewN_drewN]⟩, by simp [intOf]⟩
    · go_wp2_with fail
      go_ret
      exact ⟨rfl, m, HM.out⟩
theorem sameRows_nil (p : Option Addr) (cap : Nat) (w : World) : Calls Tryd.prog 31 #[.slice none 0 0, .slice p 0 cap] w fun e w' => e = .returned (.bool true) ∧ w = w' := by
  go_enter Tryd.func31, Tryd.ntmps31
  go_wp2_with fail
  go_loopw [5] (fun i wr => i = .int .i64 0 ∧ wr = w) (fun _ _ => 0)
  case atStart => exact ⟨rfl, rfl⟩
  case round =>
    obtain ⟨rfl, rfl⟩ := hrel
    go_wp2_with fail
    go_ret
    exact ⟨rfl, rfl⟩
set_option maxHeartbeats 1000000 in
set_option maxRecDepth 100000 in
theorem sameRows_any {g g' n cap cap' : Nat} {fx fy : Nat → Int} {w : World} (h : Rd w g n fx fy) (h' : Rd w g' n fx fy) (hn : n ≤ 60) :
    Calls Tryd.prog 31 #[.slice (some ⟨g, 0, none⟩) n cap, .slice (some ⟨g', 0, none⟩) n cap'] w fun e w' => e = .returned (.bool true) ∧ Below w.heap.size w w' := by
  have HA := Lib.hid h; clear h
  have HB := Lib.hid h'; clear h'
  go_enter Tryd.func31, Tryd.ntmps31
  go_wp2_with fail
  go_loopw [5] (fun i wr => ∃ k : Nat, k ≤ n ∧ i = .int .i64 (k : Int) ∧ ∃ m, wr = w.drewN m) (fun i _ => n - (intOf i).toNat)
  case atStart => exact ⟨0, by omega, rfl, 0, rfl⟩
  case round =>
    obtain ⟨k, hk, rfl, m, hm⟩ := hrel
    have HM := Lib.hid hm; clear hm
    by_cases hlt : k < n
    · obtain ⟨b, b0, b1, b2⟩ := HA.out k hlt
      obtain ⟨c, c0, c1, c2⟩ := HB.out k hlt
      have hgI : (k : Int) < (n : Int) := by omega
      have f0 : wr.cell? ⟨g, k, none⟩ = some (.slice (some ⟨b, 0, none⟩) 2 2) := by rw [HM.out, World.cell?_drewN]; exact b0
      have f1 : wr.cell? ⟨g', k, none⟩ = some (.slice (some ⟨c, 0, none⟩) 2 2) := by rw [HM.out, World.cell?_drewN]; exact c0
      have HC : Hid (∀ q, Calls Tryd.prog 51 #[.slice (some ⟨b, 0, none⟩) 2 2, .slice (some ⟨c, 0, none⟩) 2 2] (wr.drewN q) fun e w' => e = .returned (.bool true) ∧ ∃ m, w' = (wr.drewN q).drewN m) :=
        Lib.hid (fun q => sameInts_two (by rw [World.cell?_drewN, HM.out, World.cell?_drewN]; exact b1) (by rw [World.cell?_drewN, HM.out, World.cell?_drewN]; exact b2) (by rw [World.cell?_drewN, HM.out, World.cell?_drewN]; exact c1) (by rw [World.cell?_drewN, HM.out, World.cell?_drewN]; exact c2))
      clear b0 b1 b2 c0 c1 c2
      go_wp2_with fail
      go_quiet (first | (go_at_call 51; refine quiet_of_drew (HC.out _)))
      go_wp2_with fail
      exact ⟨⟨k + 1, by omega, by go_num, _, by rw [HM.out, World.drewN_drewN]⟩, by simp [intOf]; omega⟩
    · obtain rfl : k = n := by omega
      go_wp2_with fail
      go_ret
      exact ⟨rfl, by rw [HM.out]; exact below_drewN (Below.refl _ _) _⟩
end Go.Proofs.YtminclapchnheaaDoor
