/- Rows of rows of two numbers: marked, and the marks looked for; the law FnExactPlacesOf answers true. Condition: the table of directions holds what the program's text lays. -/
import Derived.Test.YtminclapchnheaaDoorPq
namespace Go.Proofs.YtminclapchnheaaDoor
open Go.RowKit
set_option linter.unusedVariables false
set_option linter.unusedSimpArgs false

theorem RwP.congr {w : World} {g n cap : Nat} {bl : Nat → Nat} {fx fy fx' fy' : Nat → Int} (h : RwP w g n cap bl fx fy) (e : ∀ i, i < n → fx i = fx' i ∧ fy i = fy' i) : RwP w g n cap bl fx' fy' :=
  ⟨h.1, fun i hi => by have := h.2.1 i hi; rw [(e i hi).1, (e i hi).2] at this; exact this, h.2.2⟩
theorem RwP.stored {w : World} {g n cap : Nat} {bl : Nat → Nat} {fx fy : Nat → Int} (h : RwP w g n cap bl fx fy) {j : Nat} (hj : j < n) (a b : Int) :
    RwP ((w.setCell ⟨bl j, 0, none⟩ (.int .i64 a)).setCell ⟨bl j, 1, none⟩ (.int .i64 b)) g n cap bl (fun i => if i = j then a else fx i) (fun i => if i = j then b else fy i) := by
  obtain ⟨h1, h2, h3, h4⟩ := h
  have hgj := h3 j hj
  have hne : ∀ k, k ≠ bl j → ((w.setCell ⟨bl j, 0, none⟩ (.int .i64 a)).setCell ⟨bl j, 1, none⟩ (.int .i64 b)).heap[k]? = w.heap[k]? := fun k hk => by
    rw [Below.heap_setCell _ _ _ _ hk, Below.heap_setCell _ _ _ _ hk]
  have hgr : w.grownBy ((w.setCell ⟨bl j, 0, none⟩ (.int .i64 a)).setCell ⟨bl j, 1, none⟩ (.int .i64 b)) (some (bl j)) := ⟨rfl, rfl, rfl, by simp [World.setCell], fun k _ hk => hne k (fun e => hk (by rw [e]))⟩
  refine ⟨World.ownsRow.kept h1 hgr (.inr (by simp [Value.ownBlock]; omega)), fun i hi => ?_, h3, h4⟩
  by_cases e : i = j
  · subst e
    simp only [if_true]
    exact (h2 i hi).store _ _
  · simp only [if_neg e]
    refine (h2 i hi).block (hne _ (fun e2 => ?_))
    rcases Nat.lt_or_ge i j with h | h
    · have := h4 i j h hj; omega
    · have := h4 j i (by omega) hi; omega
set_option maxHeartbeats 1000000 in
theorem markIntS_two {w : World} {b : Nat} {x y : Value} (k : Int) (h : Cells2 w b x y) (hx : x.oneCell' = true) (hy : y.oneCell' = true) (k0 : 0 ≤ k) (k1 : k ≤ 1000) :
    Calls Tryd.prog 45 #[.slice (some ⟨b, 0, none⟩) 2 2, .int .i64 k] w fun e w' => e = .returned (.int .i64 (k + 2)) ∧ w' = (w.setCell ⟨b, 0, none⟩ (.int .i64 k)).setCell ⟨b, 1, none⟩ (.int .i64 (k + 1)) := by
  obtain ⟨⟨ha, hb⟩, hc, hd⟩ := h
  go_enter Tryd.func45, Tryd.ntmps45
  go_wp2_with fail
  go_loopw [1, 5] (fun q i wr => (i = .int .i64 0 ∧ q = .int .i64 k ∧ wr = w) ∨ (i = .int .i64 1 ∧ q = .int .i64 (k + 1) ∧ wr = w.setCell ⟨b, 0, none⟩ (.int .i64 k)) ∨ (i = .int .i64 2 ∧ q = .int .i64 (k + 2) ∧ wr = (w.setCell ⟨b, 0, none⟩ (.int .i64 k)).setCell ⟨b, 1, none⟩ (.int .i64 (k + 1)))) (fun _ i _ => 2 - (intOf i).toNat)
  case atStart => exact .inl ⟨rfl, rfl, rfl⟩
  case round =>
    rcases hrel with ⟨rfl, rfl, rfl⟩ | ⟨rfl, rfl, rfl⟩ | ⟨rfl, rfl, rfl⟩
    · go_wp2_with fail
      exact ⟨.inr (.inl ⟨by go_num, by first | rfl | trivial, by first | rfl | trivial⟩), by simp [intOf]⟩
    · go_wp2_with fail
      exact ⟨.inr (.inr ⟨by go_num, by first | go_num | trivial, by first | rfl | trivial⟩), by simp [intOf]⟩
    · go_wp2_with fail
      go_ret
      exact ⟨rfl, rfl⟩
theorem heldIntS_two {w : World} {b : Nat} (k : Int) (h0 : w.cell? ⟨b, 0, none⟩ = some (.int .i64 k)) (h1 : w.cell? ⟨b, 1, none⟩ = some (.int .i64 (k + 1))) (k0 : 0 ≤ k) (k1 : k ≤ 1000) :
    Calls Tryd.prog 46 #[.slice (some ⟨b, 0, none⟩) 2 2, .int .i64 k] w fun e w' => e = .returned (.int .i64 (k + 2)) ∧ w = w' := by
  go_enter Tryd.func46, Tryd.ntmps46
  go_wp2_with fail
  go_loop [1, 5] (fun q i => (i = .int .i64 0 ∧ q = .int .i64 k) ∨ (i = .int .i64 1 ∧ q = .int .i64 (k + 1)) ∨ (i = .int .i64 2 ∧ q = .int .i64 (k + 2))) (fun _ i => 2 - (intOf i).toNat)
  case atStart => exact .inl ⟨rfl, rfl⟩
  case round =>
    rcases hrel with ⟨rfl, rfl⟩ | ⟨rfl, rfl⟩ | ⟨rfl, rfl⟩
    · go_wp2_with fail
      exact ⟨.inr (.inl ⟨by go_num, rfl⟩), by simp [intOf]⟩
    · go_wp2_with fail
      exact ⟨.inr (.inr ⟨by go_num, by go_num⟩), by simp [intOf]⟩
    · go_wp2_with fail
      go_ret
      exact ⟨rfl, rfl⟩
theorem markIntSS_nil (k : Int) (w : World) : Calls Tryd.prog 23 #[.slice none 0 0, .int .i64 k] w fun e w' => e = .returned (.int .i64 k) ∧ w = w' := by
  go_enter Tryd.func23, Tryd.ntmps23
  go_wp2_with fail
  go_loopw [1, 5] (fun q i wr => i = .int .i64 0 ∧ q = .int .i64 k ∧ wr = w) (fun _ _ _ => 0)
  case atStart => exact ⟨rfl, rfl, rfl⟩
  case round =>
    obtain ⟨rfl, rfl, rfl⟩ := hrel
    go_wp2_with fail
    go_ret
    exact ⟨rfl, rfl⟩
/-- The marks: 1, 2 · 3, 4 · .. -/
def mkx (i : Nat) : Int := 1 + 2 * (i : Int)
def mky (i : Nat) : Int := 1 + 2 * (i : Int) + 1
set_option maxHeartbeats 1000000 in
set_option maxRecDepth 100000 in
theorem markIntSS_any {w : World} {g n cap B : Nat} {bl : Nat → Nat} {fx fy : Nat → Int} (h : RwP w g n cap bl fx fy) (hn : n ≤ 60) (hB : B ≤ g) :
    Calls Tryd.prog 23 #[.slice (some ⟨g, 0, none⟩) n cap, .int .i64 1] w fun e w' => e = .returned (.int .i64 (1 + 2 * (n : Int))) ∧ RwP w' g n cap bl mkx mky ∧ Below B w w' := by
  have HR := Lib.hid h; clear h
  go_enter Tryd.func23, Tryd.ntmps23
  go_wp2_with fail
  go_loopw [1, 5] (fun q i wr => ∃ k : Nat, k ≤ n ∧ i = .int .i64 (k : Int) ∧ q = .int .i64 (1 + 2 * (k : Int)) ∧ Hid (RwP wr g n cap bl (fun i => if i < k then mkx i else fx i) (fun i => if i < k then mky i else fy i)) ∧ Below B w wr) (fun _ i _ => n - (intOf i).toNat)
  case atStart => exact ⟨0, by omega, rfl, rfl, Lib.hid (HR.out.congr (fun i hi => by simp)), Below.refl _ _⟩
  case round =>
    clear HR
    obtain ⟨k, hk, rfl, rfl, HR, hBl⟩ := hrel
    by_cases hlt : k < n
    · obtain ⟨hr, hc⟩ := HR.out.at hlt
      have hgI : (k : Int) < (n : Int) := by omega
      have hgb : g < bl k := HR.out.2.2.1 k hlt
      have HC := Lib.hid hc; clear hc
      have HMk : Hid (Calls Tryd.prog 45 #[.slice (some ⟨bl k, 0, none⟩) 2 2, .int .i64 (1 + 2 * (k : Int))] wr fun e w' => e = .returned (.int .i64 (1 + 2 * (k : Int) + 2)) ∧ w' = (wr.setCell ⟨bl k, 0, none⟩ (.int .i64 (1 + 2 * (k : Int)))).setCell ⟨bl k, 1, none⟩ (.int .i64 (1 + 2 * (k : Int) + 1))) :=
        Lib.hid (markIntS_two _ HC.out rfl rfl (by omega) (by omega))
      have HR2 := Lib.hid ((HR.out.stored hlt (1 + 2 * (k : Int)) (1 + 2 * (k : Int) + 1)).congr (fx' := fun i => if i < k + 1 then mkx i else fx i) (fy' := fun i => if i < k + 1 then mky i else fy i) (fun i hi => by
        by_cases e : i = k
        · subst e; simp [mkx, mky]
        · simp only [if_neg e]
          by_cases e2 : i < k
          · simp [e2, show i < k + 1 by omega]
          · simp [e2, show ¬ i < k + 1 by omega]))
      have hB2 := (hBl.setCell (p := ⟨bl k, 0, none⟩) (by simp; omega) (.int .i64 (1 + 2 * (k : Int)))).setCell (p := ⟨bl k, 1, none⟩) (by simp; omega) (.int .i64 (1 + 2 * (k : Int) + 1))
      clear HC HR
      go_wp2_with fail
      refine HMk.out.mono ?_
      rintro e w2 ⟨rfl, rfl⟩
      generalize (wr.setCell ⟨bl k, 0, none⟩ (.int .i64 (1 + 2 * (k : Int)))).setCell ⟨bl k, 1, none⟩ (.int .i64 (1 + 2 * (k : Int) + 1)) = w2 at *
      go_wp2_with fail
      exact ⟨⟨k + 1, by omega, by go_num, by go_num, HR2, hB2⟩, by simp [intOf]; omega⟩
    · obtain rfl : k = n := by omega
      go_wp2_with fail
      go_ret
      exact ⟨rfl, HR.out.congr (fun i hi => by simp [hi]), hBl⟩
theorem heldIntSS_nil (k : Int) (w : World) : Calls Tryd.prog 24 #[.slice none 0 0, .int .i64 k] w fun e w' => e = .returned (.int .i64 k) ∧ w = w' := by
  go_enter Tryd.func24, Tryd.ntmps24
  go_wp2_with fail
  go_loopw [1, 5] (fun q i wr => i = .int .i64 0 ∧ q = .int .i64 k ∧ wr = w) (fun _ _ _ => 0)
  case atStart => exact ⟨rfl, rfl, rfl⟩
  case round =>
    obtain ⟨rfl, rfl, rfl⟩ := hrel
    go_wp2_with fail
    go_ret
    exact ⟨rfl, rfl⟩
set_option maxHeartbeats 1000000 in
set_option maxRecDepth 100000 in
theorem heldIntSS_any {w : World} {g n cap : Nat} {bl : Nat → Nat} (h : RwP w g n cap bl mkx mky) (hn : n ≤ 60) :
    Calls Tryd.prog 24 #[.slice (some ⟨g, 0, none⟩) n cap, .int .i64 1] w fun e w' => e = .returned (.int .i64 (1 + 2 * (n : Int))) ∧ w = w' := by
  have HR := Lib.hid h; clear h
  go_enter Tryd.func24, Tryd.ntmps24
  go_wp2_with fail
  go_loop [1, 5] (fun q i => ∃ k : Nat, k ≤ n ∧ i = .int .i64 (k : Int) ∧ q = .int .i64 (1 + 2 * (k : Int))) (fun _ i => n - (intOf i).toNat)
  case atStart => exact ⟨0, by omega, rfl, rfl⟩
  case round =>
    obtain ⟨k, hk, rfl, rfl⟩ := hrel
    by_cases hlt : k < n
    · obtain ⟨hr, ⟨hc0, hc1⟩, -, -⟩ := HR.out.at hlt
      have hgI : (k : Int) < (n : Int) := by omega
      have HH : Hid (Calls Tryd.prog 46 #[.slice (some ⟨bl k, 0, none⟩) 2 2, .int .i64 (1 + 2 * (k : Int))] w fun e w' => e = .returned (.int .i64 (1 + 2 * (k : Int) + 2)) ∧ w = w') := Lib.hid (heldIntS_two _ hc0 hc1 (by omega) (by omega))
      clear hc0 hc1
      go_wp2_with fail
      refine HH.out.mono ?_
      rintro e w2 ⟨rfl, rfl⟩
      go_wp2_with fail
      exact ⟨⟨k + 1, by omega, by go_num, by go_num⟩, by simp [intOf]; omega⟩
    · obtain rfl : k = n := by omega
      go_wp2_with fail
      go_ret
      exact ⟨rfl, rfl⟩
end Go.Proofs.YtminclapchnheaaDoor
