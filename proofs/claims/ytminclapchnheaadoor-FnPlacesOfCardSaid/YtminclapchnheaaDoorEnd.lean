/- ClosedOk of the program: where a walk ends. Condition: the table of directions holds what the program's text lays. -/
import Derived.Test.YtminclapchnheaaDoorSm
import Derived.StillTailTactics
namespace Go.Proofs.YtminclapchnheaaDoor
open Go.RowKit
set_option linter.unusedVariables false
set_option linter.unusedSimpArgs false

/-- Block b is two cells of the call's own. -/
def Cells2 (w : World) (b : Nat) (x y : Value) : Prop := (w.cell? ⟨b, 0, none⟩ = some x ∧ w.cell? ⟨b, 1, none⟩ = some y) ∧ w.frozen? ⟨b, 0, none⟩ = false ∧ w.frozen? ⟨b, 1, none⟩ = false
theorem Cells2.new (w : World) (x y : Value) (T : TypeId) : Cells2 (w.alloc (.cells #[x, y] T)) w.heap.size x y := by
  refine ⟨⟨?_, ?_⟩, ?_, ?_⟩ <;> simp
theorem Cells2.lt {w : World} {b : Nat} {x y : Value} (h : Cells2 w b x y) : b < w.heap.size := cell_lt h.1.1
theorem Cells2.block {w w' : World} {b : Nat} {x y : Value} (h : Cells2 w b x y) (hb : w'.heap[b]? = w.heap[b]?) : Cells2 w' b x y := by
  have hc : ∀ o, w'.cell? ⟨b, o, none⟩ = w.cell? ⟨b, o, none⟩ := fun o => World.cell?_of_block (a := ⟨b, o, none⟩) hb
  have hf : ∀ o, w'.frozen? ⟨b, o, none⟩ = w.frozen? ⟨b, o, none⟩ := fun o => World.frozen?_of_block (a := ⟨b, o, none⟩) hb
  exact ⟨⟨(hc 0).trans h.1.1, (hc 1).trans h.1.2⟩, (hf 0).trans h.2.1, (hf 1).trans h.2.2⟩
theorem Cells2.alloc {w : World} {b : Nat} {x y : Value} (h : Cells2 w b x y) (o : Obj) : Cells2 (w.alloc o) b x y := h.block (Below.heap_alloc _ _ _ h.lt)
theorem Cells2.store {w : World} {b : Nat} {x y : Value} (h : Cells2 w b x y) (x' y' : Value) : Cells2 ((w.setCell ⟨b, 0, none⟩ x').setCell ⟨b, 1, none⟩ y') b x' y' := by
  obtain ⟨⟨ha, hb⟩, hd, he⟩ := h
  refine ⟨⟨?_, ?_⟩, ?_, ?_⟩ <;> simp [go_sem, ha, hb, hd, he]
theorem Cells2.other {w : World} {b : Nat} {x y : Value} (h : Cells2 w b x y) {a : Addr} (ha : b ≠ a.block) (v : Value) : Cells2 (w.setCell a v) b x y := h.block (Below.heap_setCell _ _ _ _ ha)
theorem Cells2.below {w w' : World} {b B : Nat} {x y : Value} (h : Cells2 w b x y) (hb : Below B w w') (hB : b < B) : Cells2 w' b x y := h.block (hb.block b hB)
/-- Block b holds the place p. -/
def PCell (w : World) (b : Nat) (p : Tw.Pl) : Prop := Cells2 w b (.int .i64 p.x) (.int .i64 p.y)
/-- A place as a value. -/
def pv (p : Tw.Pl) : Value := .agg #[.int .i64 p.x, .int .i64 p.y]
set_option maxHeartbeats 1000000 in
theorem stepped_any (x y k : Int) (w : World) (hd : Dirs w) (k0 : 0 ≤ k) (k1 : k ≤ 3) (x0 : -2000000 ≤ x) (x1 : x ≤ 2000000) (y0 : -2000000 ≤ y) (y1 : y ≤ 2000000) :
    Calls Tryd.prog 52 #[.agg #[.int .i64 x, .int .i64 y], .int .i64 k] w fun e w' => e = .returned (.agg #[.int .i64 (x + Tw.dx k), .int .i64 (y + Tw.dy k)]) ∧ Below w.heap.size w w' := by
  have hlt := hd.lt
  obtain ⟨d0, d1, d2, d3, d4, d5, d6, d7⟩ := hd
  have hk : k = 0 ∨ k = 1 ∨ k = 2 ∨ k = 3 := by omega
  have e0 : Tw.dx 0 = 1 ∧ Tw.dy 0 = 0 ∧ Tw.dx 1 = 0 ∧ Tw.dy 1 = 1 ∧ Tw.dx 2 = -1 ∧ Tw.dy 2 = 0 ∧ Tw.dx 3 = 0 ∧ Tw.dy 3 = -1 := by decide
  have E := Lib.hid e0; clear e0
  rcases hk with rfl | rfl | rfl | rfl
  all_goals
    go_enter Tryd.func52, Tryd.ntmps52
    go_wp2
  · refine bodyPost_ret (v := .agg #[.int .i64 (x + 1), .int .i64 y]) (by simp [results, Tryd.results52, go_sem]) rfl ⟨?_, by go_grown⟩
    rw [E.out.1, E.out.2.1]; simp
  · refine bodyPost_ret (v := .agg #[.int .i64 x, .int .i64 (y + 1)]) (by simp [results, Tryd.results52, go_sem]) rfl ⟨?_, by go_grown⟩
    rw [E.out.2.2.1, E.out.2.2.2.1]; simp
  · refine bodyPost_ret (v := .agg #[.int .i64 (x + -1), .int .i64 y]) (by simp [results, Tryd.results52, go_sem]) rfl ⟨?_, by go_grown⟩
    rw [E.out.2.2.2.2.1, E.out.2.2.2.2.2.1]; simp
  · refine bodyPost_ret (v := .agg #[.int .i64 x, .int .i64 (y + -1)]) (by simp [results, Tryd.results52, go_sem]) rfl ⟨?_, by go_grown⟩
    rw [E.out.2.2.2.2.2.2.1, E.out.2.2.2.2.2.2.2]; simp
set_option maxHeartbeats 4000000 in
set_option maxRecDepth 100000 in
theorem endOf_impl (s : ByteArray) (w : World) (hD : Dirs w) (hlen : s.size ≤ 40) (hA : s.data.toList.all stepC = true) :
    Calls Tryd.prog 34 #[.string s] w fun e w' => e = .returned (pv (pe s s.size)) ∧ Below w.heap.size w w' := by
  have HD := Lib.hid hD
  have HA := Lib.hid hA
  clear hD hA
  go_enter Tryd.func34, Tryd.ntmps34
  go_wp2_with fail
  go_loopw [4] (fun i wr => ∃ k : Nat, k ≤ s.size ∧ i = .int .i64 k ∧ PCell wr (w.heap.size + 1) (pe s k) ∧ PCell wr w.heap.size Tw.zero ∧ Hid (Dirs wr) ∧ Below w.heap.size w wr) (fun i _ => s.size - (intOf i).toNat)
  case atStart =>
    refine ⟨0, by omega, rfl, ?_, ?_, Lib.hid (HD.out.same (by go_grown)), by go_grown⟩
    · rw [pe_zero]
      have := Cells2.new (w.alloc (.cells #[.int .i64 0, .int .i64 0] 40)) (.int .i64 0) (.int .i64 0) 40
      rw [World.size_alloc] at this
      exact this
    · exact (Cells2.new w (.int .i64 0) (.int .i64 0) 40).alloc _
  case round =>
    obtain ⟨k, hk, rfl, hP, hR, hDr, hB⟩ := hrel
    have hz := hB.size
    have HC := Lib.hid hP
    have hlt1 := hP.lt
    have hlt0 := hR.lt
    by_cases hlt : k < s.size
    · have h0 := step_dir HA.out hlt
      have hd := Tw.dir_bd s[k]
      have hfar := pe_far s k hk
      have hst := pe_step s k hlt
      have HST := Lib.hid hst; clear hst
      obtain ⟨⟨ta, tb⟩, td, te⟩ := hP
      have hdd : 0 ≤ Tw.dir s[k] ∧ Tw.dir s[k] ≤ 3 := by omega
      generalize pe s k = p at *
      have HW : Hid (∀ w, Calls Tryd.prog 41 #[.int .u8 (s[k].toNat : Int)] w fun e w' => e = .returned (.int .i64 (Tw.dir s[k])) ∧ w = w') := Lib.hid (fun w => directionOf_any s[k] w)
      generalize Tw.dir s[k] = d at *
      go_wp2_with fail
      refine wp_region_peel (n := 6) (S := fun w' => w'.cell? ⟨w.heap.size + 1, 0, none⟩ = some (.int .i64 p.x) ∧ w'.cell? ⟨w.heap.size + 1, 1, none⟩ = some (.int .i64 p.y)) (by kernel_rfl) (lasts_of (by kernel_rfl)) ⟨ta, tb⟩ (fun hHeld => ?_)
      refine wpAnyH_take (i := 0) (v := ?_) rfl (by kernel_rfl) (by kernel_rfl) (by kernel_rfl) (fun _ _ _ h => h) (Or.inl ⟨by rfl, ?_⟩) (by assumption) ?_
      rotate_left
      · intro w hSw; (try dsimp only at hSw); go_simp; try with_reducible rfl
      try simp only [Act.put, List.setIfInBounds_toArray, List.set_cons_zero, List.set_cons_succ]
      refine wpAnyH_take (i := 1) (v := ?_) rfl (by kernel_rfl) (by kernel_rfl) (by kernel_rfl) (fun _ _ _ h => h) (Or.inl ⟨by rfl, ?_⟩) (by assumption) ?_
      rotate_left
      · intro w hSw; (try dsimp only at hSw); go_simp; try with_reducible rfl
      try simp only [Act.put, List.setIfInBounds_toArray, List.set_cons_zero, List.set_cons_succ]
      refine wpAnyH_take (i := 2) (v := ?_) rfl (by kernel_rfl) (by kernel_rfl) (by kernel_rfl) (fun _ _ _ h => h) (Or.inl ⟨by rfl, ?_⟩) (by assumption) ?_
      rotate_left
      · intro w hSw; (try dsimp only at hSw); go_simp; try with_reducible rfl
      try simp only [Act.put, List.setIfInBounds_toArray, List.set_cons_zero, List.set_cons_succ]
      refine wpAnyH_take (i := 3) (v := ?_) rfl (by kernel_rfl) (by kernel_rfl) (by kernel_rfl) (fun _ _ _ h => h) (Or.inl ⟨by rfl, ?_⟩) (by assumption) ?_
      rotate_left
      · intro w hSw; (try dsimp only at hSw); go_simp; try with_reducible rfl
      try simp only [Act.put, List.setIfInBounds_toArray, List.set_cons_zero, List.set_cons_succ]
      refine wpAnyH_ready (rs := [4]) (by kernel_rfl) (by simp) ?_
      refine AllReadyH.cons rfl (fun K hK => ?_) AllReadyH.nil
      go_simp
      refine (HW.out _).mono ?_
      rintro e w0 ⟨rfl, rfl⟩
      try go_wp2_with fail
      refine hK.out _ _ ⟨ta, tb⟩ (fun hHeld => ?_)
      clear hK K
      try simp only [Act.put, List.setIfInBounds_toArray, List.set_cons_zero, List.set_cons_succ]
      refine wpAnyH_ready (rs := [5]) (by kernel_rfl) (by simp) ?_
      refine AllReadyH.cons rfl (fun K hK => ?_) AllReadyH.nil
      go_simp
      refine (stepped_any p.x p.y d _ (by exact hDr.out) hdd.1 hdd.2 (by omega) (by omega) (by omega) (by omega)).mono ?_
      rintro e w1 ⟨rfl, hb1⟩
      obtain ⟨⟨ta1, tb1⟩, td1, te1⟩ := Cells2.below (by exact HC.out) hb1 (by exact hlt1)
      try go_wp2_with fail
      refine hK.out _ _ ⟨ta1, tb1⟩ (fun hHeld => ?_)
      clear hK K
      try simp only [Act.put, List.setIfInBounds_toArray, List.set_cons_zero, List.set_cons_succ]
      refine wpAnyH_done (by kernel_rfl) ?_ _
      refine peel_here ?_
      refine wpOp_step rfl (fun K hK => ?_)
      go_simp
      refine hK _ _ ?_
      go_wp2_with fail
      have q1 : PCell w1 (w.heap.size + 1) p := ⟨⟨ta1, tb1⟩, td1, te1⟩
      have r1 := Cells2.below (by exact hR) hb1 (by exact hlt0)
      have hB1 : Below w.heap.size w w1 := Below.up (by exact hB.drew) (by exact hz) hb1
      have hBB := (hB1.setCell (p := ⟨w.heap.size + 1, 0, none⟩) (by simp) (.int .i64 (p.x + Tw.dx d))).setCell (p := ⟨w.heap.size + 1, 1, none⟩) (by simp) (.int .i64 (p.y + Tw.dy d))
      refine ⟨⟨k + 1, by omega, by go_num, ?_, (Cells2.other r1 (by simp) _).other (by simp) _, Lib.hid (Dirs.below hBB HD.out.lt HD.out), hBB⟩, by simp [intOf]; omega⟩
      rw [HST.out]
      exact Cells2.store q1 _ _
    · obtain rfl : k = s.size := by omega
      obtain ⟨⟨ta, tb⟩, td, te⟩ := hP
      obtain ⟨⟨ra, rb⟩, rd, re⟩ := hR
      go_wp2_with fail
      refine bodyPost_ret (v := .agg #[.int .i64 (pe s s.size).x, .int .i64 (pe s s.size).y]) (by simp [results, Tryd.results34, go_sem, ra, rb, rd, re]) rfl ⟨rfl, ?_⟩
      exact (hB.setCell (by simp) _).setCell (by simp) _
end Go.Proofs.YtminclapchnheaaDoor
