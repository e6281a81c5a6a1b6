/- PlacesOf of the program: rows of its own. Condition: the table of directions holds what the program's text lays. -/
import Derived.Test.YtminclapchnheaaDoorSi
namespace Go.Proofs.YtminclapchnheaaDoor
open Go.RowKit
set_option linter.unusedVariables false
set_option linter.unusedSimpArgs false

/-- The rows lie in blocks of their own, behind block g. -/
def Apart (g n : Nat) (bl : Nat → Nat) : Prop := (∀ i, i < n → g < bl i) ∧ ∀ i j, i < j → j < n → bl i < bl j
def rowv (b : Nat) : Value := .slice (some ⟨b, 0, none⟩) 2 2
def rowvs (bl : Nat → Nat) (n : Nat) : List Value := (List.range n).map fun i => rowv (bl i)
theorem rowvs_len (bl : Nat → Nat) (n : Nat) : (rowvs bl n).length = n := by simp [rowvs]
theorem rowvs_at (bl : Nat → Nat) (n i : Nat) (h : i < n) : (rowvs bl n)[i]? = some (rowv (bl i)) := by simp [rowvs, h]
def upd (bl : Nat → Nat) (k b : Nat) : Nat → Nat := fun i => if i = k then b else bl i
theorem upd_same (bl : Nat → Nat) (k b : Nat) : upd bl k b k = b := if_pos rfl
theorem upd_other (bl : Nat → Nat) (k b : Nat) {i : Nat} (h : i < k) : upd bl k b i = bl i := if_neg (by omega)
theorem rowvs_upd (bl : Nat → Nat) (k b : Nat) : rowvs (upd bl k b) (k + 1) = rowvs bl k ++ [rowv b] := by
  unfold rowvs
  rw [List.range_succ, List.map_append, List.map_singleton, upd_same]
  congr 1
  apply List.map_congr_left
  intro i hi
  rw [upd_other bl k b (List.mem_range.1 hi)]
/-- A row of rows of two numbers each, all in blocks of their own. -/
def RwP (w : World) (g n cap : Nat) (bl : Nat → Nat) (fx fy : Nat → Int) : Prop :=
  w.ownsRow g 38 1 (.slice (some ⟨g, 0, none⟩) n cap) n (rowvs bl n) ∧ (∀ i, i < n → Cells2 w (bl i) (.int .i64 (fx i)) (.int .i64 (fy i))) ∧ Apart g n bl
theorem RwP.below {A C : World} {g n cap : Nat} {bl : Nat → Nat} {fx fy : Nat → Int} (h : RwP A g n cap bl fx fy) (hb : Below A.heap.size A C) : RwP C g n cap bl fx fy := by
  obtain ⟨h1, h2, h3⟩ := h
  refine ⟨World.ownsRow.kept (row := none) h1 (grownBy_of_below' hb _) (by simp [Value.ownBlock]), fun i hi => (h2 i hi).below hb (h2 i hi).lt, h3⟩
theorem RwP.at {w : World} {g n cap : Nat} {bl : Nat → Nat} {fx fy : Nat → Int} (h : RwP w g n cap bl fx fy) {i : Nat} (hi : i < n) :
    w.cell? ⟨g, i, none⟩ = some (.slice (some ⟨bl i, 0, none⟩) 2 2) ∧ Cells2 w (bl i) (.int .i64 (fx i)) (.int .i64 (fy i)) :=
  ⟨(World.ownsRow.cellAt h.1 i (by omega)).trans (rowvs_at bl n i hi), h.2.1 i hi⟩
theorem RwP.more {A C : World} {g k cap b : Nat} {bl : Nat → Nat} {fx fy : Nat → Int} (h : RwP A g k cap bl fx fy) (hb : Cells2 A b (.int .i64 (fx k)) (.int .i64 (fy k))) (hg : g < b) (hbl : ∀ i, i < k → bl i < b)
    (ho : C.ownsRow g 38 1 (.slice (some ⟨g, 0, none⟩) (k + 1) cap) (k + 1) (rowvs bl k ++ [rowv b])) (hgr : A.grownBy C (some g)) : RwP C g (k + 1) cap (upd bl k b) fx fy := by
  obtain ⟨h1, h2, h3, h4⟩ := h
  refine ⟨by rw [rowvs_upd]; exact ho, fun i hi => ?_, fun i hi => ?_, fun i j hij hj => ?_⟩
  · rcases Nat.lt_or_ge i k with h | h
    · rw [upd_other bl k b h]
      exact (h2 i h).block (hgr.block _ (h2 i h).lt (fun e => by have := h3 i h; cases e; omega))
    · obtain rfl : i = k := by omega
      rw [upd_same]
      exact hb.block (hgr.block _ hb.lt (fun e => by cases e; omega))
  · rcases Nat.lt_or_ge i k with h | h
    · rw [upd_other bl k b h]; exact h3 i h
    · obtain rfl : i = k := by omega
      rw [upd_same]; exact hg
  · rcases Nat.lt_or_ge j k with h | h
    · rw [upd_other bl k b h, upd_other bl k b (Nat.lt_trans hij h)]; exact h4 i j hij h
    · obtain rfl : j = k := by omega
      rw [upd_same, upd_other bl j b hij]; exact hbl i hij
theorem RwP.nil {w : World} {g cap : Nat} {bl : Nat → Nat} {fx fy : Nat → Int} (h : w.ownsRow g 38 1 (.slice (some ⟨g, 0, none⟩) 0 cap) 0 []) : RwP w g 0 cap bl fx fy :=
  ⟨h, fun i hi => by omega, fun i hi => by omega, fun i j hij hj => by omega⟩
/-- What PlacesOf of the program answers for a walk. -/
def PoPost (s : ByteArray) (w : World) (e : Ending) (w' : World) : Prop :=
  ∃ (g : Nat) (bl : Nat → Nat), e = .returned (.slice (some ⟨g, 0, none⟩) (s.size + 1) (s.size + 1)) ∧ w.heap.size ≤ g ∧ RwP w' g (s.size + 1) (s.size + 1) bl (fun i => (pe s i).x) (fun i => (pe s i).y) ∧ Below w.heap.size w w'
theorem placesOf_no (s : ByteArray) (w : World) (hs : s.size ≤ maxLen) (hb : Tw.walkB s.data.toList = false) : Calls Tryd.prog 21 #[.string s] w fun e w' => e = .returned (.slice none 0 0) ∧ w = w' := by
  have hc := fun w => walkOk_impl s w hs
  rw [hb] at hc
  have HC := Lib.hid hc; clear hc hb
  go_enter Tryd.func21, Tryd.ntmps21
  go_wp2_with (go_at_call 32; refine (HC.out _).mono ?_; rintro e w' ⟨rfl, rfl⟩)
  go_ret
  exact ⟨rfl, rfl⟩
set_option maxHeartbeats 4000000 in
set_option maxRecDepth 100000 in
theorem placesOf_impl (s : ByteArray) (w : World) (hs : s.size ≤ maxLen) (hD : Dirs w) (hb : Tw.walkB s.data.toList = true) : Calls Tryd.prog 21 #[.string s] w (PoPost s w) := by
  have hc := fun w => walkOk_impl s w hs
  have hlen := walkB_len hb
  have HP := Lib.hid (placesOf_own s w hD hlen (walkB_all hb))
  rw [hb] at hc
  have HC := Lib.hid hc; clear hc hb hD
  obtain ⟨i0, hi, hz0, hz1, hz2⟩ := info_parts Tryd.infoRow
  have hmk : ∀ wx, (Instr.makeSlice 27 (.int .i64 0) (.int .i64 ((s.size : Int) + 1))).run Tryd.prog wx = .ok (.slice (some ⟨wx.heap.size, 0, none⟩) 0 (s.size + 1)) (wx.alloc (.cells (madeCells (Value.slice none 0 0).cells ((s.size + 1) * 1)) 38)) := fun wx => by
    have := run_make (P := Tryd.prog) wx 27 38 i0 _ Tryd.underlying27 hi hz0 .i64 .i64 0 ((s.size : Int) + 1) (by omega) (by omega) (by rw [hz2]; omega) (by omega)
    rw [hz1, show ((s.size : Int) + 1).toNat = s.size + 1 by omega] at this
    exact this
  have HI := Lib.hid hi; clear hi
  have HZ1 := Lib.hid hz1; clear hz1
  clear hz0 hz2
  go_enter Tryd.func21, Tryd.ntmps21
  go_wp2_with (go_at_call 32; refine (HC.out _).mono ?_; rintro e w' ⟨rfl, rfl⟩)
  refine HP.out.mono ?_
  rintro e w1 ⟨rfl, hp1, hb1⟩
  have HP1 := Lib.hid hp1; clear hp1
  clear HP HC
  go_wp2_with fail
  clear hmk
  have hz1 := hb1.size
  have hR0 : RwP (w1.alloc (.cells (madeCells #[.slice none 0 0] (s.size + 1)) 38)) w1.heap.size 0 (s.size + 1) (fun _ => 0) (fun i => (pe s i).x) (fun i => (pe s i).y) :=
    RwP.nil (World.ownsRow_made w1 _ (s.size + 1) (Nat.le_refl _) (by unfold maxLen; omega) (by rw [size_madeCells]; omega))
  have hB0 : Below w.heap.size w (w1.alloc (.cells (madeCells #[.slice none 0 0] (s.size + 1)) 38)) := hb1.alloc hz1 _
  have hlow := (HP1.out.lt _ rfl).2
  have hcell : ∀ i, i ≤ s.size → w1.cell? ⟨w.heap.size, i * 2, none⟩ = some (.int .i64 (pe s i).x) ∧ w1.cell? ⟨w.heap.size, i * 2 + 1, none⟩ = some (.int .i64 (pe s i).y) :=
      fun i hi => HP1.out.at (pk_len s s.size (Nat.le_refl _)) (pk_at s i hi)
  have hB1 : Below w1.heap.size w1 (w1.alloc (.cells (madeCells #[.slice none 0 0] (s.size + 1)) 38)) := (Below.refl _ w1).alloc (Nat.le_refl _) _
  have HCell := Lib.hid hcell; clear hcell
  have HR0 := Lib.hid hR0; clear hR0
  clear HP1
  go_loopw [4, 17] (fun v i wr => ∃ (k : Nat) (bl : Nat → Nat), k ≤ s.size + 1 ∧ i = .int .i64 (k : Int) ∧ v = .slice (some ⟨w1.heap.size, 0, none⟩) k (s.size + 1) ∧ Hid (RwP wr w1.heap.size k (s.size + 1) bl (fun i => (pe s i).x) (fun i => (pe s i).y)) ∧ Below w1.heap.size w1 wr) (fun _ i _ => s.size + 1 - (intOf i).toNat)
  case atStart => exact ⟨0, _, by omega, rfl, rfl, HR0, hB1⟩
  case round =>
    clear HR0 hB1 hB0
    obtain ⟨k, bl, hk, rfl, rfl, HR, hB⟩ := hrel
    have hz := hB.size
    have hgl : w1.heap.size < wr.heap.size := (HR.out.1.lt _ rfl).2
    by_cases hlt : k ≤ s.size
    · obtain ⟨hc0, hc1⟩ := HCell.out k hlt
      have ha0 := ((bcell hB).1 _ _ hlow).trans hc0
      have ha1 := ((bcell hB).1 _ _ hlow).trans hc1
      have hkI : (k : Int) < (s.size : Int) + 1 := by omega
      clear hc0 hc1
      have hbA : Below wr.heap.size wr (wr.alloc (.cells #[.int .i64 (pe s k).x, .int .i64 (pe s k).y] 40)) := (Below.refl _ wr).alloc (Nat.le_refl _) _
      have hbB := hbA.alloc hbA.size (.cells #[.int .i64 (pe s k).x, .int .i64 (pe s k).y] 3)
      have hbC := hbB.alloc hbB.size (.cells #[.slice (some ⟨wr.heap.size + 1, 0, none⟩) 2 2] 38)
      have hnew := (Cells2.new (wr.alloc (.cells #[.int .i64 (pe s k).x, .int .i64 (pe s k).y] 40)) (.int .i64 (pe s k).x) (.int .i64 (pe s k).y) 3).alloc (.cells #[.slice (some ⟨wr.heap.size + 1, 0, none⟩) 2 2] 38)
      rw [World.size_alloc] at hnew
      have hR1 := HR.out.below hbC
      have hone := cell_one_new ((wr.alloc (.cells #[.int .i64 (pe s k).x, .int .i64 (pe s k).y] 40)).alloc (.cells #[.int .i64 (pe s k).x, .int .i64 (pe s k).y] 3)) (.slice (some ⟨wr.heap.size + 1, 0, none⟩) 2 2) 38
      rw [World.size_alloc, World.size_alloc] at hone
      have HR1 := Lib.hid hR1
      have HMore := Lib.hid (fun w2 ho hg => RwP.more (C := w2) (b := wr.heap.size + 1) hR1 hnew (by omega) (fun i hi => by have := (HR.out.2.1 i hi).lt; omega) ho hg)
      have HOne := Lib.hid hone
      have HBC := Lib.hid hbC
      clear hbA hbB hbC hnew hR1 hone HR
      generalize pe s k = p at *
      go_wp2_with (first
        | (at_builtin; refine wpList_append_fits _ rfl (.tmp 21) (.tmp 27) 27 rfl w1.heap.size 38 i0 1 Tryd.underlying27 HI.out HZ1.out w1.heap.size k (s.size + 1) (rowvs bl k) rfl HR1.out.1 ⟨wr.heap.size + 1 + 1, 0, none⟩ 1 1 [.slice (some ⟨wr.heap.size + 1, 0, none⟩) 2 2] rfl rfl HOne.out (fun u hu => by simp at hu; subst hu; rfl) (by omega) ?_; intro w2 ho2 hg2)
        | go_in)
      have HR2 := Lib.hid (HMore.out w2 ho2 hg2)
      have hB2 : Below w1.heap.size w1 w2 := (hB.trans (HBC.out.mono hz)).grown hg2 (hB.trans (HBC.out.mono hz)).size (fun j hj => by cases hj; exact Nat.le_refl _)
      exact ⟨⟨k + 1, _, by omega, by go_num, rfl, HR2, hB2⟩, by simp [intOf]; omega⟩
    · obtain rfl : k = s.size + 1 := by omega
      go_wp2_with fail
      go_ret
      exact ⟨w1.heap.size, bl, rfl, hz1, HR.out, hb1.trans (hB.mono hz1)⟩
end Go.Proofs.YtminclapchnheaaDoor
