/- The places of a walk, as the program lists them. Condition: the table of directions holds what the program's text lays. -/
import Derived.Test.YtminclapchnheaaDoorCl
namespace Go.Proofs.YtminclapchnheaaDoor
open Go.RowKit
set_option linter.unusedVariables false
set_option linter.unusedSimpArgs false

/-- The cells of a list of places. -/
def pcs : List Tw.Pl → List Value
  | [] => []
  | p :: ps => .int .i64 p.x :: .int .i64 p.y :: pcs ps
theorem pcs_len (ps : List Tw.Pl) : (pcs ps).length = ps.length * 2 := by
  induction ps with
  | nil => rfl
  | cons p ps ih => simp only [pcs, List.length_cons, ih]; omega
theorem pcs_snoc (ps : List Tw.Pl) (p : Tw.Pl) : pcs (ps ++ [p]) = pcs ps ++ [.int .i64 p.x, .int .i64 p.y] := by
  induction ps with
  | nil => rfl
  | cons q ps ih => simp only [List.cons_append, pcs, ih]
theorem pcs_at (ps : List Tw.Pl) (i : Nat) (p : Tw.Pl) (h : ps[i]? = some p) : (pcs ps)[i * 2]? = some (.int .i64 p.x) ∧ (pcs ps)[i * 2 + 1]? = some (.int .i64 p.y) := by
  induction ps generalizing i with
  | nil => simp at h
  | cons q ps ih =>
    cases i with
    | zero => simp at h; subst h; exact ⟨rfl, rfl⟩
    | succ i =>
      have := ih i (by simpa using h)
      rw [show (i + 1) * 2 = i * 2 + 2 by omega]
      simpa [pcs] using this
/-- v is a row of the call's own: the places ps, two cells each. -/
def PO (w : World) (base : Nat) (v : Value) (ps : List Tw.Pl) : Prop := w.ownsRow base 40 2 v ps.length (pcs ps)
theorem PO.below {A C : World} {base : Nat} {v : Value} {ps : List Tw.Pl} (h : PO A base v ps) (hb : Below A.heap.size A C) : PO C base v ps := by
  refine World.ownsRow.kept (row := none) h (grownBy_of_below' hb _) ?_
  cases v.ownBlock <;> simp
theorem PO.form {w : World} {base : Nat} {v : Value} {ps : List Tw.Pl} (h : PO w base v ps) (hn : ps ≠ []) : ∃ g cap, v = .slice (some ⟨g, 0, none⟩) ps.length cap ∧ base ≤ g ∧ ps.length ≤ cap ∧ cap ≤ maxLen := by
  obtain ⟨hl, hv | ⟨g, cap, cur, hv, hg, hh, hnc, hm, hc, ht⟩⟩ := h
  · exact absurd (List.length_eq_zero_iff.1 hv.2) hn
  · exact ⟨g, cap, hv, hg, hnc, hm⟩
theorem PO.at {w : World} {base g n cap : Nat} {ps : List Tw.Pl} (h : PO w base (.slice (some ⟨g, 0, none⟩) n cap) ps) (hn : ps.length = n) {i : Nat} {p : Tw.Pl} (hp : ps[i]? = some p) :
    w.cell? ⟨g, i * 2, none⟩ = some (.int .i64 p.x) ∧ w.cell? ⟨g, i * 2 + 1, none⟩ = some (.int .i64 p.y) := by
  subst hn
  have hi : i < ps.length := (List.getElem?_eq_some_iff.1 hp).1
  obtain ⟨e0, e1⟩ := pcs_at ps i p hp
  exact ⟨(World.ownsRow.cellAt h (i * 2) (by omega)).trans e0, (World.ownsRow.cellAt h (i * 2 + 1) (by omega)).trans e1⟩
theorem cell_two_new (w : World) (x y : Value) (t : TypeId) : ∀ j u, [x, y][j]? = some u → (w.alloc (.cells #[x, y] t)).cell? ((⟨w.heap.size, 0, none⟩ : Addr).add j) = some u := by
  intro j u hj
  match j, hj with
  | 0, hj => simp at hj; subst hj; simp [Addr.add]
  | 1, hj => simp at hj; subst hj; simp [Addr.add]
/-- A place more, where there is room. -/
theorem PO.more {P : Program} {w : World} {base g cap n : Nat} {ps : List Tw.Pl} {p : Tw.Pl} (t ty : TypeId) (i : TypeInfo) (ht : P.underlying t = some (.slice 40)) (hi : P.info? 40 = some i) (hz : i.size = 2)
    (h : PO w base (.slice (some ⟨g, 0, none⟩) n cap) ps) (hn : ps.length = n) (a : Addr) (ha : ∀ j u, [Value.int .i64 p.x, .int .i64 p.y][j]? = some u → w.cell? (a.add j) = some u) (hc : n + 1 ≤ cap) :
    ∃ w', (Builtin.append_ #[t, t] ty #[.slice (some ⟨g, 0, none⟩) n cap, .slice (some a) 1 1]).run P w = .ok (.slice (some ⟨g, 0, none⟩) (n + 1) cap) w' ∧
      PO w' base (.slice (some ⟨g, 0, none⟩) (n + 1) cap) (ps ++ [p]) ∧ w.grownBy w' (some g) := by
  subst hn
  obtain ⟨w', h1, h2, h3⟩ := run_append_fits (P := P) w base t ty 40 i 2 ht hi hz g ps.length cap (pcs ps) h a 1 1 [.int .i64 p.x, .int .i64 p.y] rfl ha (fun u hu => by simp at hu; rcases hu with rfl | rfl <;> rfl) hc
  refine ⟨w', h1, ?_, h3⟩
  unfold PO
  rw [pcs_snoc, List.length_append]
  exact h2
theorem made_two (c : Nat) (h : 1 ≤ c) : (madeCells (Value.agg #[.int .i64 0, .int .i64 0]).cells (c * 2)).toList.take (1 * 2) = [.int .i64 0, .int .i64 0] := by
  unfold madeCells
  rw [Array.toList_map, ← List.map_take, Array.toList_range, List.take_range, show min (1 * 2) (c * 2) = 2 by omega]
  rfl
theorem PO.made (w : World) (c : Nat) (h : 1 ≤ c) (hm : c ≤ maxLen) : PO (w.alloc (.cells (madeCells (Value.agg #[.int .i64 0, .int .i64 0]).cells (c * 2)) 40)) w.heap.size (.slice (some ⟨w.heap.size, 0, none⟩) 1 c) [Tw.zero] :=
  ⟨rfl, .inr ⟨w.heap.size, c, _, rfl, Nat.le_refl _, heap_alloc_new w _, h, hm, size_madeCells _ _, made_two c h⟩⟩
theorem Tryd.infoPlace : (Tryd.prog.info? 40).map (fun i => (i.zero, i.size, i.bytes)) = some (some (.agg #[.int .i64 0, .int .i64 0]), 2, 16) := by kernel_rfl
set_option maxHeartbeats 4000000 in
set_option maxRecDepth 100000 in
theorem placesOf_own (s : ByteArray) (w : World) (hD : Dirs w) (hlen : s.size ≤ 40) (hA : s.data.toList.all stepC = true) :
    Calls Tryd.prog 37 #[.string s] w fun e w' => e = .returned (.slice (some ⟨w.heap.size, 0, none⟩) (s.size + 1) (s.size + 1)) ∧ PO w' w.heap.size (.slice (some ⟨w.heap.size, 0, none⟩) (s.size + 1) (s.size + 1)) (pk s s.size) ∧ Below w.heap.size w w' := by
  have HD := Lib.hid hD
  have HA := Lib.hid hA
  clear hD hA
  obtain ⟨i0, hi, hz0, hz1, hz2⟩ := info_parts Tryd.infoPlace
  have hmk : ∀ wx, (Instr.makeSlice 44 (.int .i64 1) (.int .i64 ((s.size : Int) + 1))).run Tryd.prog wx = .ok (.slice (some ⟨wx.heap.size, 0, none⟩) 1 (s.size + 1)) (wx.alloc (.cells (madeCells (Value.agg #[.int .i64 0, .int .i64 0]).cells ((s.size + 1) * 2)) 40)) := fun wx => by
    have := run_make (P := Tryd.prog) wx 44 40 i0 _ Tryd.underlying44 hi hz0 .i64 .i64 1 ((s.size : Int) + 1) (by omega) (by omega) (by rw [hz2]; omega) (by omega)
    rw [hz1, show ((s.size : Int) + 1).toNat = s.size + 1 by omega] at this
    exact this
  have HI := Lib.hid hi; clear hi
  have HZ0 := Lib.hid hz0; clear hz0
  have HZ1 := Lib.hid hz1; clear hz1
  have HZ2 := Lib.hid hz2; clear hz2
  go_enter Tryd.func37, Tryd.ntmps37
  go_wp2_with fail
  have hP0 := PO.made w (s.size + 1) (by omega) (by unfold maxLen; omega)
  have hB0 : Below w.heap.size w (w.alloc (.cells (madeCells (Value.agg #[.int .i64 0, .int .i64 0]).cells ((s.size + 1) * 2)) 40)) := (Below.refl _ w).alloc (Nat.le_refl _) _
  have hp0 : pk s 0 = [Tw.zero] := by unfold pk; rfl
  rw [← hp0] at hP0
  clear hp0 hmk
  go_loopw [3, 4] (fun v i wr => ∃ k : Nat, k ≤ s.size ∧ i = .int .i64 k ∧ v = .slice (some ⟨w.heap.size, 0, none⟩) (k + 1) (s.size + 1) ∧ Hid (PO wr w.heap.size (.slice (some ⟨w.heap.size, 0, none⟩) (k + 1) (s.size + 1)) (pk s k)) ∧ Hid (Dirs wr) ∧ Below w.heap.size w wr) (fun _ i _ => s.size - (intOf i).toNat)
  case atStart => exact ⟨0, by omega, rfl, rfl, Lib.hid hP0, Lib.hid (HD.out.same hB0), hB0⟩
  case round =>
    clear hP0 hB0
    obtain ⟨k, hk, rfl, rfl, hPP, hDr, hB⟩ := hrel
    have hz := hB.size
    have hpl := pk_len s k hk
    by_cases hlt : k < s.size
    · have hgl : w.heap.size < wr.heap.size := (hPP.out.lt _ rfl).2
      obtain ⟨hb0, hb1⟩ := hPP.out.at hpl (pk_last s k hk)
      have h0 := step_dir HA.out hlt
      have hd := Tw.dir_bd s[k]
      have hfar := pe_far s k hk
      have HLast := Lib.hid (pk_last s k hk)
      have HST := Lib.hid (pe_step s k hlt)
      have hgI : ((k : Int)) < ((k + 1 : Nat) : Int) := by omega
      have hgJ : ((k : Int)) < (k : Int) + 1 := by omega
      have hdd : 0 ≤ Tw.dir s[k] ∧ Tw.dir s[k] ≤ 3 := by omega
      generalize pe s k = p at *
      have HW : Hid (∀ w, Calls Tryd.prog 41 #[.int .u8 (s[k].toNat : Int)] w fun e w' => e = .returned (.int .i64 (Tw.dir s[k])) ∧ w = w') := Lib.hid (fun w => directionOf_any s[k] w)
      generalize Tw.dir s[k] = d at *
      go_wp2_with fail
      refine wp_region_peel (n := 12) (S := fun w' => w'.cell? ⟨w.heap.size, k * 2, none⟩ = some (.int .i64 p.x) ∧ w'.cell? ⟨w.heap.size, k * 2 + 1, none⟩ = some (.int .i64 p.y)) (by kernel_rfl) (lasts_of (by kernel_rfl)) ⟨hb0, hb1⟩ (fun hHeld => ?_)
      refine wpAnyH_take (i := 0) (v := ?_) rfl (by kernel_rfl) (by kernel_rfl) (by kernel_rfl) (fun _ _ _ h => h) (Or.inl ⟨by rfl, ?_⟩) (by assumption) ?_
      rotate_left
      · intro w hSw; (try dsimp only at hSw); go_simp; try with_reducible rfl
      try simp only [Act.put, List.setIfInBounds_toArray, List.set_cons_zero, List.set_cons_succ]
      refine wpAnyH_take (i := 1) (v := ?_) rfl (by kernel_rfl) (by kernel_rfl) (by kernel_rfl) (fun _ _ _ h => h) (Or.inl ⟨by rfl, ?_⟩) (by assumption) ?_
      rotate_left
      · intro w hSw; (try dsimp only at hSw); go_simp; try with_reducible rfl
      try simp only [Act.put, List.setIfInBounds_toArray, List.set_cons_zero, List.set_cons_succ]
      refine wpAnyH_take (i := 2) (v := ?_) rfl (by kernel_rfl) (by kernel_rfl) (by kernel_rfl) (fun _ _ _ h => h) (Or.inl ⟨by rfl, ?_⟩) (by assumption) ?_
      rotate_left
      · intro w hSw; (try dsimp only at hSw); go_simp; try with_reducible rfl
      try simp only [Act.put, List.setIfInBounds_toArray, List.set_cons_zero, List.set_cons_succ]
      refine wpAnyH_take (i := 3) (v := ?_) rfl (by kernel_rfl) (by kernel_rfl) (by kernel_rfl) (fun _ _ _ h => h) (Or.inl ⟨by rfl, ?_⟩) (by assumption) ?_
      rotate_left
      · intro w hSw; (try dsimp only at hSw); go_simp; try with_reducible rfl
      try simp only [Act.put, List.setIfInBounds_toArray, List.set_cons_zero, List.set_cons_succ]
      refine wpAnyH_take (i := 4) (v := ?_) rfl (by kernel_rfl) (by kernel_rfl) (by kernel_rfl) (fun _ _ _ h => h) (Or.inl ⟨by rfl, ?_⟩) (by assumption) ?_
      rotate_left
      · intro w hSw; (try dsimp only at hSw); go_simp; try with_reducible rfl
      try simp only [Act.put, List.setIfInBounds_toArray, List.set_cons_zero, List.set_cons_succ]
      refine wpAnyH_take (i := 5) (v := ?_) rfl (by kernel_rfl) (by kernel_rfl) (by kernel_rfl) (fun _ _ _ h => h) (Or.inl ⟨by rfl, ?_⟩) (by assumption) ?_
      rotate_left
      · intro w hSw; (try dsimp only at hSw); go_simp; try with_reducible rfl
      try simp only [Act.put, List.setIfInBounds_toArray, List.set_cons_zero, List.set_cons_succ]
      refine wpAnyH_take (i := 6) (v := ?_) rfl (by kernel_rfl) (by kernel_rfl) (by kernel_rfl) (fun _ _ _ h => h) (Or.inl ⟨by rfl, ?_⟩) (by assumption) ?_
      rotate_left
      · intro w hSw; (try dsimp only at hSw); go_simp; try with_reducible rfl
      try simp only [Act.put, List.setIfInBounds_toArray, List.set_cons_zero, List.set_cons_succ]
      refine wpAnyH_take (i := 7) (v := ?_) rfl (by kernel_rfl) (by kernel_rfl) (by kernel_rfl) (fun _ _ _ h => h) (Or.inl ⟨by rfl, ?_⟩) (by assumption) ?_
      rotate_left
      · intro w hSw; (try dsimp only at hSw); go_simp; try with_reducible rfl
      try simp only [Act.put, List.setIfInBounds_toArray, List.set_cons_zero, List.set_cons_succ]
      try simp only [Act.put, List.setIfInBounds_toArray, List.set_cons_zero, List.set_cons_succ]
      refine wpAnyH_ready (rs := [8]) (by kernel_rfl) (by simp) ?_
      refine AllReadyH.cons rfl (fun K hK => ?_) AllReadyH.nil
      go_simp
      refine (HW.out _).mono ?_
      rintro e w0 ⟨rfl, rfl⟩
      try go_wp2_with fail
      refine hK.out _ _ ⟨hb0, hb1⟩ (fun hHeld => ?_)
      clear hK K
      try simp only [Act.put, List.setIfInBounds_toArray, List.set_cons_zero, List.set_cons_succ]
      refine wpAnyH_ready (rs := [9]) (by kernel_rfl) (by simp) ?_
      refine AllReadyH.cons rfl (fun K hK => ?_) AllReadyH.nil
      go_simp
      refine (stepped_any p.x p.y d _ (by exact hDr.out) hdd.1 hdd.2 (by omega) (by omega) (by omega) (by omega)).mono ?_
      rintro e w1 ⟨rfl, hbA⟩
      have hP1 := PO.below (A := wr.drew) (by exact hPP.out) (by exact hbA)
      have hB1 : Below w.heap.size w w1 := Below.up (by exact hB.drew) (by exact hB.size) hbA
      have sA := (bcell hbA).1
      have hcA0 : w1.cell? ⟨w.heap.size, k * 2, none⟩ = some (.int .i64 p.x) := (sA _ _ (by exact hgl)).trans hb0
      have hcA1 : w1.cell? ⟨w.heap.size, k * 2 + 1, none⟩ = some (.int .i64 p.y) := (sA _ _ (by exact hgl)).trans hb1
      clear hbA sA
      have HP1 := Lib.hid hP1; clear hP1
      try go_wp2_with fail
      refine hK.out _ _ ⟨hcA0, hcA1⟩ (fun hHeld => ?_)
      clear hK K
      try simp only [Act.put, List.setIfInBounds_toArray, List.set_cons_zero, List.set_cons_succ]
      refine wpAnyH_ready (rs := [10]) (by kernel_rfl) (by simp) ?_
      refine AllReadyH.cons rfl (fun K hK => ?_) AllReadyH.nil
      go_simp
      have hbC : Below w1.heap.size w1 (w1.alloc (.cells #[.int .i64 (p.x + Tw.dx d), .int .i64 (p.y + Tw.dy d)] 40)) := (Below.refl _ w1).alloc (Nat.le_refl _) _
      have hP2 := HP1.out.below hbC
      have hB2 : Below w.heap.size w _ := hB1.trans (hbC.mono hB1.size)
      have hg1 : w.heap.size < w1.heap.size := (HP1.out.lt _ rfl).2
      have hcB0 := ((bcell hbC).1 _ _ hg1).trans hcA0
      have hcB1 := ((bcell hbC).1 _ _ hg1).trans hcA1
      have hnews := cell_two_new w1 (.int .i64 (p.x + Tw.dx d)) (.int .i64 (p.y + Tw.dy d)) 40
      refine hK.out _ _ ⟨hcB0, hcB1⟩ (fun hHeld => ?_)
      clear hK K hbC hcA0 hcA1 hB1 HP1
      generalize w1.alloc (.cells #[.int .i64 (p.x + Tw.dx d), .int .i64 (p.y + Tw.dy d)] 40) = w2 at *
      generalize w1.heap.size = b2 at *
      try simp only [Act.put, List.setIfInBounds_toArray, List.set_cons_zero, List.set_cons_succ]
      obtain ⟨w3, hrun, ho3, hg3⟩ := PO.more (P := Tryd.prog) (p := ⟨p.x + Tw.dx d, p.y + Tw.dy d⟩) 44 44 i0 Tryd.underlying44 HI.out HZ1.out hP2 hpl _ hnews (by omega)
      refine wpAnyH_ready (rs := [11]) (by kernel_rfl) (by simp) ?_
      refine AllReadyH.cons rfl (fun K hK => ?_) AllReadyH.nil
      refine wp_append (.tmp 15) (.tmp 25) 44 rfl _ _ rfl rfl hrun ?_
      have HO3 := Lib.hid ho3
      obtain ⟨hcC0, hcC1⟩ := ho3.at (i := k) (p := p) (by rw [List.length_append, hpl]; rfl) (by
        rw [List.getElem?_append_left (by omega)]
        exact HLast.out)
      refine hK.out _ _ ⟨hcC0, hcC1⟩ (fun hHeld => ?_)
      clear hK K
      have hB3 : Below w.heap.size w w3 := hB2.grown hg3 hB2.size (fun j hj => by cases hj; exact Nat.le_refl _)
      clear hcB0 hcB1 hcC0 hcC1 hg3 hrun hP2 hnews ho3 hB2
      try simp only [Act.put, List.setIfInBounds_toArray, List.set_cons_zero, List.set_cons_succ]
      refine wpAnyH_done (by kernel_rfl) ?_ _
      refine peel_here ?_
      refine wpOp_step rfl (fun K hK => ?_)
      go_simp
      refine hK _ _ ?_
      go_wp2_with fail
      refine ⟨⟨k + 1, by omega, by go_num, rfl, Lib.hid ?_, Lib.hid (Dirs.below hB3 HD.out.lt HD.out), hB3⟩, by simp [intOf]; omega⟩
      rw [pk_step s k hlt, HST.out]
      exact HO3.out
    · obtain rfl : k = s.size := by omega
      go_wp2_with fail
      go_ret
      exact ⟨rfl, hPP.out, hB⟩
end Go.Proofs.YtminclapchnheaaDoor
