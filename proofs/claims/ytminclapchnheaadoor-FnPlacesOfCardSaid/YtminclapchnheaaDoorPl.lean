/- PlacesOf, ClosedOk and SimpleOk of the reference. No condition. -/
import Derived.Test.YtminclapchnheaaDoorBw
import Derived.Test.YtminclapchnheaaDoorBytes
import Derived.Test.YtminclapchnheaaDoorPeel
import Derived.OwnWalk
import Derived.Laws.OwnMore
namespace Go.Proofs.YtminclapchnheaaDoor
open Go.RowKit
set_option linter.unusedVariables false
set_option linter.unusedSimpArgs false

/-- u is a row of two numbers: the place p. -/
def PRow (w : World) (u : Value) (p : Tw.Pl) : Prop := ∃ b, u = .slice (some ⟨b, 0, none⟩) 2 2 ∧ w.cell? ⟨b, 0, none⟩ = some (.int .i64 p.x) ∧ w.cell? ⟨b, 1, none⟩ = some (.int .i64 p.y)
theorem PRow.below {A C : World} {u : Value} {p : Tw.Pl} (h : PRow A u p) (hb : Below A.heap.size A C) : PRow C u p := by
  obtain ⟨b, e, h0, h1⟩ := h
  exact ⟨b, e, ((bcell hb).1 b 0 (cell_lt h0)).trans h0, ((bcell hb).1 b 1 (cell_lt h1)).trans h1⟩
theorem PRow.grown {A C : World} {u : Value} {p : Tw.Pl} {row : Option Nat} (h : PRow A u p) (hg : A.grownBy C row) (hne : ∀ g, row = some g → ∀ x : Int, A.cell? ⟨g, 0, none⟩ ≠ some (.int .i64 x)) : PRow C u p := by
  obtain ⟨b, e, h0, h1⟩ := h
  have hb : C.heap[b]? = A.heap[b]? := hg.block b (cell_lt h0) (fun e => hne b e.symm _ h0)
  exact ⟨b, e, (World.cell?_of_block (a := ⟨b, 0, none⟩) hb).trans h0, (World.cell?_of_block (a := ⟨b, 1, none⟩) hb).trans h1⟩
theorem grownBy_of_below' {A C : World} (h : Below A.heap.size A C) (row : Option Nat) : A.grownBy C row := ⟨h.os, h.tape, h.output, h.size, fun k hk _ => h.block k hk⟩
/-- v is a row of rows of the call's own: the places ps. -/
def PL (w : World) (base : Nat) (E : TypeId) (v : Value) (ps : List Tw.Pl) : Prop :=
  ∃ us : List Value, w.ownsRow base E 1 v ps.length us ∧ ∀ (i : Nat) (p : Tw.Pl), ps[i]? = some p → ∃ u, us[i]? = some u ∧ PRow w u p
theorem PL.below {A C : World} {base : Nat} {E : TypeId} {v : Value} {ps : List Tw.Pl} (h : PL A base E v ps) (hb : Below A.heap.size A C) : PL C base E v ps := by
  obtain ⟨us, ho, hr⟩ := h
  refine ⟨us, ho.kept (row := none) (grownBy_of_below' hb _) ?_, fun i p hp => ?_⟩
  · cases v.ownBlock <;> simp
  · obtain ⟨u, hu, hpr⟩ := hr i p hp
    exact ⟨u, hu, hpr.below hb⟩
theorem own_len {w : World} {base : Nat} {e : TypeId} {v : Value} {n : Nat} {us : List Value} (h : w.ownsRow base e 1 v n us) : us.length = n := by have := h.1; omega
theorem PL.form {w : World} {base : Nat} {E : TypeId} {v : Value} {ps : List Tw.Pl} (h : PL w base E v ps) (hn : ps ≠ []) : ∃ g cap, v = .slice (some ⟨g, 0, none⟩) ps.length cap ∧ base ≤ g ∧ ps.length ≤ cap ∧ cap ≤ maxLen := by
  obtain ⟨us, ⟨hl, hv | ⟨g, cap, cur, hv, hg, hh, hnc, hm, hc, ht⟩⟩, hr⟩ := h
  · exact absurd (List.length_eq_zero_iff.1 hv.2) hn
  · exact ⟨g, cap, hv, hg, hnc, hm⟩
/-- What lies at place i. -/
theorem PL.at {w : World} {base g cap : Nat} {E : TypeId} {ps : List Tw.Pl} (h : PL w base E (.slice (some ⟨g, 0, none⟩) ps.length cap) ps) {i : Nat} {p : Tw.Pl} (hp : ps[i]? = some p) :
    ∃ b, w.cell? ⟨g, i, none⟩ = some (.slice (some ⟨b, 0, none⟩) 2 2) ∧ w.cell? ⟨b, 0, none⟩ = some (.int .i64 p.x) ∧ w.cell? ⟨b, 1, none⟩ = some (.int .i64 p.y) := by
  obtain ⟨us, ho, hr⟩ := h
  obtain ⟨u, hu, b, rfl, h0, h1⟩ := hr i p hp
  have hi : i < ps.length := (List.getElem?_eq_some_iff.1 hp).1
  have := World.ownsRow.cellAt ho i (by omega)
  exact ⟨b, this.trans hu, h0, h1⟩
/-- A place more. -/
theorem PL.more {A C : World} {base : Nat} {E : TypeId} {v v' : Value} {ps : List Tw.Pl} {us : List Value} {u : Value} {p : Tw.Pl} (hn : ps ≠ []) (hr : ∀ (i : Nat) (p : Tw.Pl), ps[i]? = some p → ∃ u, us[i]? = some u ∧ PRow A u p) (ho : A.ownsRow base E 1 v ps.length us)
    (hu : PRow A u p) (ho' : C.ownsRow base E 1 v' (ps.length + 1) (us ++ [u])) (hg : A.grownBy C v.ownBlock) : PL C base E v' (ps ++ [p]) := by
  have hne : ∀ g, v.ownBlock = some g → ∀ x : Int, A.cell? ⟨g, 0, none⟩ ≠ some (.int .i64 x) := by
    intro g hgv x hx
    cases ps with
    | nil => exact hn rfl
    | cons q ps =>
      obtain ⟨u0, hu0, b, rfl, -, -⟩ := hr 0 q rfl
      have := ho.cells hgv 0 _ hu0
      rw [show ((⟨g, 0, none⟩ : Addr).add 0) = ⟨g, 0, none⟩ from rfl, hx] at this
      cases this
  refine ⟨us ++ [u], by rw [List.length_append]; exact ho', fun i q hq => ?_⟩
  have hlen := own_len ho
  by_cases hi : i < ps.length
  · rw [List.getElem?_append_left hi] at hq
    obtain ⟨u', hu', hp'⟩ := hr i q hq
    exact ⟨u', by rw [List.getElem?_append_left (by omega)]; exact hu', hp'.grown hg hne⟩
  · rw [List.getElem?_append_right (by omega)] at hq
    have e : i - ps.length = 0 := by
      rcases Nat.eq_zero_or_pos (i - ps.length) with h | h
      · exact h
      · rw [List.getElem?_eq_none (by simp; omega)] at hq; cases hq
    rw [e] at hq
    simp at hq
    subst hq
    exact ⟨u, by rw [List.getElem?_append_right (by omega), hlen, e]; rfl, hu.grown hg hne⟩
/-- An append whose run is known, as one operation of a region. -/
theorem wp_append {P : Program} {Q : Exit → Act → World → Prop} {o : Oper} {a : Act} {w : World} {K : Act → World → Prop} (s x : Operand) (t : TypeId)
    (hop : o.op = Op.call { callee := Callee.builtin Builtin.append, args := #[s, x], argTypes := #[t, t] }) (va vx : Value) (hs : a.eval s = va) (hx : a.eval x = vx) {v' : Value} {w' : World}
    (hrun : Sem.run P (Builtin.append_ #[t, t] o.type #[va, vx]) w = Result.ok v' w') (hK : K (a.put o.dst v') w') : Oper.wp P o a w K Q := by
  unfold Oper.wp
  simp [execOp, hop, resolve, invoke, builtin, hs, hx, hrun, Result.andThen]
  exact hK
theorem east_w (k : Int) (w : World) (k0 : 0 ≤ k) (k1 : k ≤ 3) : Calls Tryd.prog 42 #[.int .i64 k] w fun e w' => e = .returned (.int .i64 (Tw.dx k)) ∧ Below w.heap.size w w' := by
  have hk : k = 0 ∨ k = 1 ∨ k = 2 ∨ k = 3 := by omega
  rcases hk with rfl | rfl | rfl | rfl
  all_goals
    go_enter Tryd.func42, Tryd.ntmps42
    go_wp2
    go_ret
    exact ⟨rfl, by go_grown⟩
theorem north_w (k : Int) (w : World) (k0 : 0 ≤ k) (k1 : k ≤ 3) : Calls Tryd.prog 43 #[.int .i64 k] w fun e w' => e = .returned (.int .i64 (Tw.dy k)) ∧ Below w.heap.size w w' := by
  have hk : k = 0 ∨ k = 1 ∨ k = 2 ∨ k = 3 := by omega
  rcases hk with rfl | rfl | rfl | rfl
  all_goals
    go_enter Tryd.func43, Tryd.ntmps43
    go_wp2
    go_ret
    exact ⟨rfl, by go_grown⟩
/-- The places of a walk; none of others. -/
def plV (s : ByteArray) : List Tw.Pl := if Tw.walkB s.data.toList then Tw.plc Tw.zero s.data.toList else []
/-- After k steps. -/
def pk (s : ByteArray) (k : Nat) : List Tw.Pl := Tw.plc Tw.zero (s.data.toList.take k)
def pe (s : ByteArray) (k : Nat) : Tw.Pl := Tw.endw Tw.zero (s.data.toList.take k)
theorem pk_len (s : ByteArray) (k : Nat) (h : k ≤ s.size) : (pk s k).length = k + 1 := by
  unfold pk; rw [Tw.plc_len, List.length_take, bytes_len]; omega
theorem pk_last (s : ByteArray) (k : Nat) (h : k ≤ s.size) : (pk s k)[k]? = some (pe s k) := by
  have := Tw.plc_last (s.data.toList.take k) Tw.zero
  rw [List.length_take, bytes_len, Nat.min_eq_left h] at this
  exact this
theorem pe_step (s : ByteArray) (k : Nat) (h : k < s.size) : pe s (k + 1) = ⟨(pe s k).x + Tw.dx (Tw.dir s[k]), (pe s k).y + Tw.dy (Tw.dir s[k])⟩ := by
  unfold pe; rw [take_snoc s k h, Tw.endw_snoc]; rfl
theorem pk_step (s : ByteArray) (k : Nat) (h : k < s.size) : pk s (k + 1) = pk s k ++ [pe s (k + 1)] := by
  unfold pk pe; rw [take_snoc s k h, Tw.plc_snoc, Tw.endw_snoc]
theorem pe_far (s : ByteArray) (k : Nat) (h : k ≤ s.size) : -(k : Int) ≤ (pe s k).x ∧ (pe s k).x ≤ k ∧ -(k : Int) ≤ (pe s k).y ∧ (pe s k).y ≤ k := by
  have := Tw.endw_far (s.data.toList.take k) Tw.zero
  rw [List.length_take, bytes_len, Nat.min_eq_left h, Tw.zx, Tw.zy] at this
  unfold pe; omega
theorem Tryd.infoRow : (Tryd.prog.info? 38).map (fun i => (i.zero, i.size, i.bytes)) = some (some (.slice none 0 0), 1, 24) := by kernel_rfl
set_option maxHeartbeats 4000000 in
set_option maxRecDepth 100000 in
theorem placesOf_spec (s : ByteArray) (w : World) (hs : s.size ≤ maxLen) :
    Calls Tryd.prog 20 #[.string s] w fun e w' => ∃ v, e = .returned v ∧ PL w' w.heap.size 38 v (plV s) ∧ Below w.heap.size w w' := by
  have hc := walkOk_spec s w hs
  unfold maxLen at hs
  cases hb : Tw.walkB s.data.toList
  · have hz : plV s = [] := by unfold plV; rw [hb]; rfl
    rw [hz]
    rw [hb] at hc
    have HC := Lib.hid hc; clear hc hb
    go_enter Tryd.func20, Tryd.ntmps20
    go_wp2_with (go_at_call 26; refine HC.out.mono ?_; rintro e w' ⟨rfl, rfl⟩)
    go_ret
    exact ⟨_, rfl, ⟨[], World.ownsRow_lit w #[] 0 (Nat.le_refl _) (by decide) rfl, fun i p hp => by simp at hp⟩, by go_grown⟩
  · have hz : plV s = pk s s.size := by unfold plV pk; rw [hb, take_all]; rfl
    rw [hz]
    have hlen := walkB_len hb
    have HA := Lib.hid (walkB_all hb)
    rw [hb] at hc
    have HC := Lib.hid hc; clear hc hb
    obtain ⟨i0, hi, hz0, hz1, hz2⟩ := info_parts Tryd.infoRow
    have HI := Lib.hid hi; clear hi
    have HZ0 := Lib.hid hz0; clear hz0
    have HZ1 := Lib.hid hz1; clear hz1
    have HZ2 := Lib.hid hz2; clear hz2
    go_enter Tryd.func20, Tryd.ntmps20
    go_wp2_with (go_at_call 26; refine HC.out.mono ?_; rintro e w' ⟨rfl, rfl⟩)
    have hP0 : PL ((w.alloc (.cells #[.int .i64 0, .int .i64 0] 3)).alloc (.cells #[.slice (some ⟨w.heap.size, 0, none⟩) 2 2] 38)) w.heap.size 38 (.slice (some ⟨w.heap.size + 1, 0, none⟩) 1 1) (pk s 0) := by
      have h := World.ownsRow_lit (base := w.heap.size) (e := 38) (size := 1) (w.alloc (.cells #[.int .i64 0, .int .i64 0] 3)) #[.slice (some ⟨w.heap.size, 0, none⟩) 2 2] 1 (by simp) (by decide) rfl
      rw [World.size_alloc] at h
      refine ⟨_, h, fun i p hp => ?_⟩
      have e : pk s 0 = [Tw.zero] := by unfold pk; rfl
      rw [e] at hp
      match i, hp with
      | 0, hp =>
        simp at hp
        subst hp
        exact ⟨_, rfl, w.heap.size, rfl, by simp [go_sem]; rfl, by simp [go_sem]; rfl⟩
    have hB0 : Below w.heap.size w ((w.alloc (.cells #[.int .i64 0, .int .i64 0] 3)).alloc (.cells #[.slice (some ⟨w.heap.size, 0, none⟩) 2 2] 38)) := by go_grown
    go_loopw [3, 4] (fun v i wr => ∃ k : Nat, k ≤ s.size ∧ i = .int .i64 k ∧ PL wr w.heap.size 38 v (pk s k) ∧ Below w.heap.size w wr) (fun _ i _ => s.size - (intOf i).toNat)
    case atStart => exact ⟨0, by omega, rfl, hP0, hB0⟩
    case round =>
      obtain ⟨k, hk, rfl, hP, hB⟩ := hrel
      by_cases hlt : k < s.size
      · have hpl := pk_len s k hk
        obtain ⟨g, cap, rfl, hg, hcap, hcm⟩ := hP.form (by intro h; rw [h] at hpl; simp at hpl)
        obtain ⟨b, hgk, hb0, hb1⟩ := hP.at (pk_last s k hk)
        rw [hpl] at hcap
        have hPP := Lib.hid hP; clear hP
        rw [hpl]
        have h0 := step_dir HA.out hlt
        have hd := Tw.dir_bd s[k]
        have hfar := pe_far s k hk
        have hst := pe_step s k hlt
        have HST := Lib.hid hst; clear hst
        have hgI : ((k : Int)) < ((k + 1 : Nat) : Int) := by omega
        generalize pe s k = p at *
        go_wp2_with (go_at_call 40; refine (l4Look_any s[k] _).mono ?_; rintro e w' ⟨rfl, rfl⟩)
        have bx := Tw.dx_bd (Tw.dir s[k])
        have bY := Tw.dy_bd (Tw.dir s[k])
        have hdd : 0 ≤ Tw.dir s[k] ∧ Tw.dir s[k] ≤ 3 := by omega
        generalize Tw.dir s[k] = d at *
        have ex : IntKind.i64.wrap (p.x + Tw.dx d) = p.x + Tw.dx d := IntWalk.i64_in _ (by omega)
        have ey : IntKind.i64.wrap (p.y + Tw.dy d) = p.y + Tw.dy d := IntWalk.i64_in _ (by omega)
        refine wp_region_peel (n := 16) (S := fun w' => w'.cell? ⟨b, 0, none⟩ = some (.int .i64 p.x) ∧ w'.cell? ⟨b, 1, none⟩ = some (.int .i64 p.y)) (by kernel_rfl) (lasts_of (by kernel_rfl)) ⟨hb0, hb1⟩ (fun hHeld => ?_)
        refine wpAnyH_take (i := 0) (v := ?_) rfl (by kernel_rfl) (by kernel_rfl) (by kernel_rfl) (fun _ _ _ h => h) (Or.inl ⟨by rfl, ?_⟩) (by assumption) ?_
        rotate_left
        · intro w hSw; (try dsimp only at hSw); go_simp; try with_reducible rfl
        try simp only [Act.put, List.setIfInBounds_toArray, List.set_cons_zero, List.set_cons_succ]
        refine wpAnyH_take (i := 1) (v := ?_) rfl (by kernel_rfl) (by kernel_rfl) (by kernel_rfl) (fun _ _ _ h => h) (Or.inl ⟨by rfl, ?_⟩) (by assumption) ?_
        rotate_left
        · intro w hSw; (try dsimp only at hSw); go_simp; try with_reducible rfl
        try simp only [Act.put, List.setIfInBounds_toArray, List.set_cons_zero, List.set_cons_succ]
        refine wpAnyH_take (i := 2) (v := ?_) rfl (by kernel_rfl) (by kernel_rfl) (by kernel_rfl) (fun _ _ _ h => h) (Or.inl ⟨by rfl, ?_⟩) (by assumption) ?_
        rotate_left
        · intro w hSw; (try dsimp only at hSw); go_simp; try with_reducible rfl
        try simp only [Act.put, List.setIfInBounds_toArray, List.set_cons_zero, List.set_cons_succ]
        refine wpAnyH_take (i := 3) (v := ?_) rfl (by kernel_rfl) (by kernel_rfl) (by kernel_rfl) (fun _ _ _ h => h) (Or.inl ⟨by rfl, ?_⟩) (by assumption) ?_
        rotate_left
        · intro w hSw; (try dsimp only at hSw); go_simp; try with_reducible rfl
        try simp only [Act.put, List.setIfInBounds_toArray, List.set_cons_zero, List.set_cons_succ]
        refine wpAnyH_take (i := 4) (v := ?_) rfl (by kernel_rfl) (by kernel_rfl) (by kernel_rfl) (fun _ _ _ h => h) (Or.inl ⟨by rfl, ?_⟩) (by assumption) ?_
        rotate_left
        · intro w hSw; (try dsimp only at hSw); go_simp; try with_reducible rfl
        try simp only [Act.put, List.setIfInBounds_toArray, List.set_cons_zero, List.set_cons_succ]
        refine wpAnyH_take (i := 7) (v := ?_) rfl (by kernel_rfl) (by kernel_rfl) (by kernel_rfl) (fun _ _ _ h => h) (Or.inl ⟨by rfl, ?_⟩) (by assumption) ?_
        rotate_left
        · intro w hSw; (try dsimp only at hSw); go_simp; try with_reducible rfl
        try simp only [Act.put, List.setIfInBounds_toArray, List.set_cons_zero, List.set_cons_succ]
        refine wpAnyH_take (i := 8) (v := ?_) rfl (by kernel_rfl) (by kernel_rfl) (by kernel_rfl) (fun _ _ _ h => h) (Or.inl ⟨by rfl, ?_⟩) (by assumption) ?_
        rotate_left
        · intro w hSw; (try dsimp only at hSw); go_simp; try with_reducible rfl
        try simp only [Act.put, List.setIfInBounds_toArray, List.set_cons_zero, List.set_cons_succ]
        refine wpAnyH_take (i := 9) (v := ?_) rfl (by kernel_rfl) (by kernel_rfl) (by kernel_rfl) (fun _ _ _ h => h) (Or.inl ⟨by rfl, ?_⟩) (by assumption) ?_
        rotate_left
        · intro w hSw; (try dsimp only at hSw); go_simp; try with_reducible rfl
        try simp only [Act.put, List.setIfInBounds_toArray, List.set_cons_zero, List.set_cons_succ]
        refine wpAnyH_take (i := 10) (v := ?_) rfl (by kernel_rfl) (by kernel_rfl) (by kernel_rfl) (fun _ _ _ h => h) (Or.inl ⟨by rfl, ?_⟩) (by assumption) ?_
        rotate_left
        · intro w hSw; (try dsimp only at hSw); go_simp; try with_reducible rfl
        try simp only [Act.put, List.setIfInBounds_toArray, List.set_cons_zero, List.set_cons_succ]
        refine wpAnyH_ready (rs := [5]) (by kernel_rfl) (by simp) ?_
        refine AllReadyH.cons rfl (fun K hK => ?_) AllReadyH.nil
        go_simp
        refine (east_w d _ hdd.1 hdd.2).mono ?_
        rintro e w1 ⟨rfl, hbA⟩
        have hP1 := PL.below (A := wr.drew) (by exact hPP.out) (by exact hbA)
        have hB1 : Below w.heap.size w w1 := Below.up (by exact hB.drew) (by exact hB.size) hbA
        have sA := (bcell hbA).1
        have hcA0 : w1.cell? ⟨b, 0, none⟩ = some (.int .i64 p.x) := (sA b 0 (by exact cell_lt hb0)).trans hb0
        have hcA1 : w1.cell? ⟨b, 1, none⟩ = some (.int .i64 p.y) := (sA b 1 (by exact cell_lt hb1)).trans hb1
        clear hbA sA
        have HP1 := Lib.hid hP1; clear hP1
        try go_wp2_with fail
        refine hK.out _ _ ⟨hcA0, hcA1⟩ (fun hHeld => ?_)
        clear hK K
        try simp only [Act.put, List.setIfInBounds_toArray, List.set_cons_zero, List.set_cons_succ]
        refine wpAnyH_take (i := 6) (v := ?_) rfl (by kernel_rfl) (by kernel_rfl) (by kernel_rfl) (fun _ _ _ h => h) (Or.inl ⟨by rfl, ?_⟩) (by assumption) ?_
        rotate_left
        · intro w hSw; (try dsimp only at hSw); go_simp; try with_reducible rfl
        try simp only [Act.put, List.setIfInBounds_toArray, List.set_cons_zero, List.set_cons_succ]
        refine wpAnyH_ready (rs := [11]) (by kernel_rfl) (by simp) ?_
        refine AllReadyH.cons rfl (fun K hK => ?_) AllReadyH.nil
        go_simp
        refine (north_w d _ hdd.1 hdd.2).mono ?_
        rintro e w2 ⟨rfl, hbB⟩
        have hP2 := HP1.out.below hbB
        have hB2 : Below w.heap.size w w2 := Below.up hB1 hB1.size hbB
        have hcB0 : w2.cell? ⟨b, 0, none⟩ = some (.int .i64 p.x) := ((bcell hbB).1 b 0 (cell_lt hcA0)).trans hcA0
        have hcB1 : w2.cell? ⟨b, 1, none⟩ = some (.int .i64 p.y) := ((bcell hbB).1 b 1 (cell_lt hcA1)).trans hcA1
        clear hbB hcA0 hcA1 HP1 hB1
        have HP2 := Lib.hid hP2; clear hP2
        try go_wp2_with fail
        refine hK.out _ _ ⟨hcB0, hcB1⟩ (fun hHeld => ?_)
        clear hK K
        try simp only [Act.put, List.setIfInBounds_toArray, List.set_cons_zero, List.set_cons_succ]
        refine wpAnyH_take (i := 12) (v := ?_) rfl (by kernel_rfl) (by kernel_rfl) (by kernel_rfl) (fun _ _ _ h => h) (Or.inl ⟨by rfl, ?_⟩) (by assumption) ?_
        rotate_left
        · intro w hSw; (try dsimp only at hSw); go_simp; try with_reducible rfl
        try simp only [Act.put, List.setIfInBounds_toArray, List.set_cons_zero, List.set_cons_succ]
        refine wpAnyH_ready (rs := [13]) (by kernel_rfl) (by simp) ?_
        refine AllReadyH.cons rfl (fun K hK => ?_) AllReadyH.nil
        go_simp
        have hbC : Below w2.heap.size w2 (w2.alloc (.cells #[.int .i64 (p.x + Tw.dx d), .int .i64 (p.y + Tw.dy d)] 3)) := (Below.refl _ w2).alloc (Nat.le_refl _) _
        have hP3 := HP2.out.below hbC
        have hB3 : Below w.heap.size w _ := hB2.trans (hbC.mono hB2.size)
        have hu3 : PRow (w2.alloc (.cells #[.int .i64 (p.x + Tw.dx d), .int .i64 (p.y + Tw.dy d)] 3)) (.slice (some ⟨w2.heap.size, 0, none⟩) 2 2) ⟨p.x + Tw.dx d, p.y + Tw.dy d⟩ := ⟨_, rfl, by simp [go_sem], by simp [go_sem]⟩
        have hcC0 := ((bcell hbC).1 b 0 (cell_lt hcB0)).trans hcB0
        have hcC1 := ((bcell hbC).1 b 1 (cell_lt hcB1)).trans hcB1
        refine hK.out _ _ ⟨hcC0, hcC1⟩ (fun hHeld => ?_)
        clear hK K hbC hcB0 hcB1 hB2 HP2
        generalize w2.alloc (.cells #[.int .i64 (p.x + Tw.dx d), .int .i64 (p.y + Tw.dy d)] 3) = w3 at *
        generalize w2.heap.size = b2 at *
        try simp only [Act.put, List.setIfInBounds_toArray, List.set_cons_zero, List.set_cons_succ]
        refine wpAnyH_ready (rs := [14]) (by kernel_rfl) (by simp) ?_
        refine AllReadyH.cons rfl (fun K hK => ?_) AllReadyH.nil
        go_simp
        have hbD : Below w3.heap.size w3 (w3.alloc (.cells #[.slice (some ⟨b2, 0, none⟩) 2 2] 38)) := (Below.refl _ w3).alloc (Nat.le_refl _) _
        have hP4 := hP3.below hbD
        have hB4 : Below w.heap.size w _ := hB3.trans (hbD.mono hB3.size)
        have hu4 := hu3.below hbD
        have hcD0 := ((bcell hbD).1 b 0 (cell_lt hcC0)).trans hcC0
        have hcD1 := ((bcell hbD).1 b 1 (cell_lt hcC1)).trans hcC1
        have hnews := cell_one_new w3 (.slice (some ⟨b2, 0, none⟩) 2 2) 38
        have hz4 : w3.heap.size < (w3.alloc (.cells #[.slice (some ⟨b2, 0, none⟩) 2 2] 38)).heap.size := by simp
        refine hK.out _ _ ⟨hcD0, hcD1⟩ (fun hHeld => ?_)
        clear hK K hbD hcC0 hcC1 hB3 hP3 hu3
        generalize w3.alloc (.cells #[.slice (some ⟨b2, 0, none⟩) 2 2] 38) = w4 at *
        generalize w3.heap.size = b3 at *
        try simp only [Act.put, List.setIfInBounds_toArray, List.set_cons_zero, List.set_cons_succ]
        obtain ⟨us, ho, hr⟩ := hP4
        obtain ⟨v', w5, hrun, ho5, hg5, -, -⟩ := run_append_own_at (P := Tryd.prog) w4 w.heap.size 27 27 38 i0 (.slice none 0 0) 1 24 Tryd.underlying27 HI.out HZ0.out HZ1.out HZ2.out rfl (by decide) _ _ _ ho ⟨b3, 0, none⟩ 1 1 [.slice (some ⟨b2, 0, none⟩) 2 2] rfl hnews (fun u hu => by simp at hu; subst hu; rfl) (by unfold maxLen; omega) (by omega) hB4.size
        refine wpAnyH_ready (rs := [15]) (by kernel_rfl) (by simp) ?_
        refine AllReadyH.cons rfl (fun K hK => ?_) AllReadyH.nil
        rw [hpl] at hrun
        refine wp_append (.tmp 27) (.tmp 41) 27 rfl _ _ rfl rfl hrun ?_
        have hne : ∀ x : Int, w4.cell? ⟨g, 0, none⟩ ≠ some (.int .i64 x) := by
          intro x hx
          obtain ⟨q, hq⟩ : ∃ q, (pk s k)[0]? = some q := ⟨_, List.getElem?_eq_getElem (by omega)⟩
          obtain ⟨b', e1, -, -⟩ := PL.at ⟨us, ho, hr⟩ hq
          rw [hx] at e1
          cases e1
        have hbk : w5.heap[b]? = w4.heap[b]? := hg5.block b (cell_lt hcD0) (fun e => by simp [Value.ownBlock] at e; subst e; exact hne _ hcD0)
        have hcE0 := (World.cell?_of_block (a := ⟨b, 0, none⟩) hbk).trans hcD0
        have hcE1 := (World.cell?_of_block (a := ⟨b, 1, none⟩) hbk).trans hcD1
        refine hK.out _ _ ⟨hcE0, hcE1⟩ (fun hHeld => ?_)
        clear hK K
        have hPE : PL w5 w.heap.size 38 v' (pk s k ++ [⟨p.x + Tw.dx d, p.y + Tw.dy d⟩]) := PL.more (by intro h; rw [h] at hpl; simp at hpl) hr ho hu4 ho5 hg5
        have hB5 : Below w.heap.size w w5 := hB4.grown hg5 hB4.size (fun j hj => by simp [Value.ownBlock] at hj; subst hj; exact hg)
        clear hcD0 hcD1 hcE0 hcE1 hbk hne hg5 ho5 hrun hu4 hr ho
        try simp only [Act.put, List.setIfInBounds_toArray, List.set_cons_zero, List.set_cons_succ]
        refine wpAnyH_done (by kernel_rfl) ?_ _
        refine peel_here ?_
        refine wpOp_step rfl (fun K hK => ?_)
        go_simp
        refine hK _ _ ?_
        go_wp2_with fail
        refine ⟨⟨k + 1, by omega, by go_num, ?_, hB5⟩, by simp [intOf]; omega⟩
        rw [pk_step s k hlt, HST.out]
        exact hPE
      · have e : k = s.size := by omega
        subst e
        go_wp2_with fail
        go_ret
        exact ⟨_, rfl, hP, hB⟩
theorem closedB_not {l : List UInt8} (h : Tw.walkB l = false) : Tw.closedB l = false := by unfold Tw.closedB; rw [h]; rfl
theorem PL.nil {w : World} {base : Nat} {E : TypeId} {v : Value} (h : PL w base E v []) : ∃ p cap, v = .slice p 0 cap := by
  obtain ⟨us, ⟨hl, hv | ⟨g, cap, cur, hv, hg, hh, hnc, hm, hc, ht⟩⟩, hr⟩ := h
  · exact ⟨_, _, hv.1⟩
  · exact ⟨_, _, hv⟩
set_option maxHeartbeats 2000000 in
set_option maxRecDepth 100000 in
theorem closedOk_spec (s : ByteArray) (w : World) (hs : s.size ≤ maxLen) :
    Calls Tryd.prog 12 #[.string s] w fun e w' => e = .returned (.bool (Tw.closedB s.data.toList)) ∧ Below w.heap.size w w' := by
  have hc := placesOf_spec s w hs
  cases hb : Tw.walkB s.data.toList
  · rw [closedB_not hb]
    have hz : plV s = [] := by unfold plV; rw [hb]; rfl
    rw [hz] at hc
    have HC := Lib.hid hc; clear hc hb hz
    go_enter Tryd.func12, Tryd.ntmps12
    go_wp2_with fail
    refine HC.out.mono ?_
    rintro e w1 ⟨v, rfl, hP, hB⟩
    obtain ⟨q, cap, rfl⟩ := hP.nil
    clear hP
    go_wp2_with fail
    go_ret
    exact ⟨rfl, hB⟩
  · have hz : plV s = pk s s.size := by unfold plV pk; rw [hb, take_all]; rfl
    rw [hz] at hc
    have hlen := walkB_len hb
    have hcl : Tw.closedB s.data.toList = decide (0 < s.size ∧ (pe s s.size).x = 0 ∧ (pe s s.size).y = 0) := by
      unfold Tw.closedB pe
      rw [hb, take_all, Bool.true_and, Bool.eq_iff_iff, Bool.and_eq_true, decide_eq_true_iff, decide_eq_true_iff]
      have : (!s.data.toList.isEmpty) = true ↔ 0 < s.size := by
        rw [← bytes_len]; cases s.data.toList <;> simp
      rw [this]
    rw [hcl]
    have HC := Lib.hid hc; clear hc hb hz hcl
    go_enter Tryd.func12, Tryd.ntmps12
    go_wp2_with fail
    refine HC.out.mono ?_
    rintro e w1 ⟨v, rfl, hP, hB⟩
    have hpl := pk_len s s.size (Nat.le_refl _)
    obtain ⟨g, cap, rfl, hg, hcap, hcm⟩ := hP.form (by intro h; rw [h] at hpl; simp at hpl)
    obtain ⟨b, hgk, hb0, hb1⟩ := hP.at (pk_last s s.size (Nat.le_refl _))
    clear hP
    rw [hpl] at hcap ⊢
    obtain ⟨p, hp⟩ : ∃ p, pe s s.size = p := ⟨_, rfl⟩
    rw [hp] at hb0 hb1
    have HPe := Lib.hid hp
    clear hp
    have hgI : ((s.size : Int)) < ((s.size + 1 : Nat) : Int) := by omega
    by_cases h0 : 0 < s.size
    · by_cases hx : p.x = 0
      · rw [hx] at hb0
        by_cases hy : p.y = 0
        · rw [hy] at hb1
          go_wp2_with fail
          go_ret
          exact ⟨ret_bool (by rw [HPe.out]; simp [h0, hx, hy]), hB⟩
        · go_wp2_with fail
          go_ret
          exact ⟨ret_bool (by rw [HPe.out]; simp [h0, hx, hy]), hB⟩
      · go_wp2_with fail
        go_ret
        exact ⟨ret_bool (by rw [HPe.out]; simp [h0, hx]), hB⟩
    · go_wp2_with fail
      go_ret
      exact ⟨ret_bool (by simp [h0]), hB⟩
end Go.Proofs.YtminclapchnheaaDoor
