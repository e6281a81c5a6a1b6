/- A turtle's steps: the program's forward, turned, after, walked and the reference's l1East, l1North, l1Walk do what the plain law says. Conditions: the table of directions holds what the program's text lays; the look is 0 to 3; X and Y small enough not to wrap; words of letters F, L, R. -/
import Derived.Test.YtfbkdoejgeklcaaDoorTurns
import Derived.StillTailTactics
import Derived.Test.YtfbkdoejgeklcaaDoorPeel
namespace Go.Proofs.YtfbkdoejgeklcaaDoor
open Go.RowKit
set_option linter.unusedVariables false
set_option linter.unusedSimpArgs false

/-- A turtle as a value. -/
def tv (t : Tw.Tu) : Value := .agg #[.int .i64 t.x, .int .i64 t.y, .int .i64 t.k]
/-- Block b holds the turtle t. -/
def TCell (w : World) (b : Nat) (t : Tw.Tu) : Prop := Cells3 w b (.int .i64 t.x) (.int .i64 t.y) (.int .i64 t.k)

set_option maxHeartbeats 1000000 in
theorem forward_any (x y k : Int) (w : World) (hd : Dirs w) (k0 : 0 ≤ k) (k1 : k ≤ 3) (x0 : -2000000 ≤ x) (x1 : x ≤ 2000000) (y0 : -2000000 ≤ y) (y1 : y ≤ 2000000) :
    Calls Tryd.prog 37 #[.agg #[.int .i64 x, .int .i64 y, .int .i64 k]] w fun e w' => e = .returned (.agg #[.int .i64 (x + Tw.dx k), .int .i64 (y + Tw.dy k), .int .i64 k]) ∧ Below w.heap.size w w' := by
  have hlt := hd.lt
  obtain ⟨d0, d1, d2, d3, d4, d5, d6, d7⟩ := hd
  have hk : k = 0 ∨ k = 1 ∨ k = 2 ∨ k = 3 := by omega
  have e0 : Tw.dx 0 = 1 ∧ Tw.dy 0 = 0 ∧ Tw.dx 1 = 0 ∧ Tw.dy 1 = 1 ∧ Tw.dx 2 = -1 ∧ Tw.dy 2 = 0 ∧ Tw.dx 3 = 0 ∧ Tw.dy 3 = -1 := by decide
  have E := Lib.hid e0; clear e0
  rcases hk with rfl | rfl | rfl | rfl
  all_goals
    go_enter Tryd.func37, Tryd.ntmps37
    go_wp2
  · refine bodyPost_ret (v := .agg #[.int .i64 (x + 1), .int .i64 y, .int .i64 0]) (by simp [results, Tryd.results37, go_sem]) rfl ⟨?_, by go_grown⟩
    rw [E.out.1, E.out.2.1]; simp
  · refine bodyPost_ret (v := .agg #[.int .i64 x, .int .i64 (y + 1), .int .i64 1]) (by simp [results, Tryd.results37, go_sem]) rfl ⟨?_, by go_grown⟩
    rw [E.out.2.2.1, E.out.2.2.2.1]; simp
  · refine bodyPost_ret (v := .agg #[.int .i64 (x + -1), .int .i64 y, .int .i64 2]) (by simp [results, Tryd.results37, go_sem]) rfl ⟨?_, by go_grown⟩
    rw [E.out.2.2.2.2.1, E.out.2.2.2.2.2.1]; simp
  · refine bodyPost_ret (v := .agg #[.int .i64 x, .int .i64 (y + -1), .int .i64 3]) (by simp [results, Tryd.results37, go_sem]) rfl ⟨?_, by go_grown⟩
    rw [E.out.2.2.2.2.2.2.1, E.out.2.2.2.2.2.2.2]; simp
theorem turned_any (x y k n : Int) (w : World) (k0 : 0 ≤ k) (k1 : k ≤ 3) (n0 : 0 ≤ n) (n1 : n ≤ 3) :
    Calls Tryd.prog 38 #[.agg #[.int .i64 x, .int .i64 y, .int .i64 k], .int .i64 n] w fun e w' => e = .returned (.agg #[.int .i64 x, .int .i64 y, .int .i64 ((k + n) % 4)]) ∧ Below w.heap.size w w' := by
  go_enter Tryd.func38, Tryd.ntmps38
  go_wp2
  refine bodyPost_ret (v := .agg #[.int .i64 x, .int .i64 y, .int .i64 ((k + n) % 4)]) (by simp [results, Tryd.results38, go_sem]) rfl ⟨rfl, by go_grown⟩
/-- Not too far to count. -/
def Near (t : Tw.Tu) (n : Int) : Prop := -n ≤ t.x ∧ t.x ≤ n ∧ -n ≤ t.y ∧ t.y ≤ n ∧ 0 ≤ t.k ∧ t.k ≤ 3
theorem st_F (t : Tw.Tu) : tv (Tw.st t 70) = .agg #[.int .i64 (t.x + Tw.dx t.k), .int .i64 (t.y + Tw.dy t.k), .int .i64 t.k] := rfl
theorem st_L (t : Tw.Tu) : tv (Tw.st t 76) = .agg #[.int .i64 t.x, .int .i64 t.y, .int .i64 ((t.k + 1) % 4)] := rfl
theorem st_R (t : Tw.Tu) : tv (Tw.st t 82) = .agg #[.int .i64 t.x, .int .i64 t.y, .int .i64 ((t.k + 3) % 4)] := rfl
set_option maxHeartbeats 1000000 in
theorem after_any (t : Tw.Tu) (c : UInt8) (w : World) (hd : Dirs w) (hn : Near t 2000000) (hc : Tw.isW c = true) :
    Calls Tryd.prog 34 #[tv t, .int .u8 (c.toNat : Int)] w fun e w' => e = .returned (tv (Tw.st t c)) ∧ Below w.heap.size w w' := by
  obtain ⟨x0, x1, y0, y1, k0, k1⟩ := hn
  have hD := Lib.hid hd
  simp only [Tw.isW, Bool.or_eq_true, beq_iff_eq] at hc
  obtain ⟨x, y, k⟩ := t
  simp only at x0 x1 y0 y1 k0 k1
  rcases hc with (rfl | rfl) | rfl
  · rw [st_F]
    simp only [tv]
    go_enter Tryd.func34, Tryd.ntmps34
    go_wp2_with fail
    refine (forward_any x y k _ (hD.out.same (by go_grown)) k0 k1 x0 x1 y0 y1).mono ?_
    rintro e w1 ⟨rfl, hb⟩
    have q := ((Cells3.new (w.alloc (.cells #[.int .i64 x, .int .i64 y, .int .i64 k] 24)) (.int .i64 0) (.int .i64 0) (.int .i64 0) 24)).below hb (by simp)
    rw [World.size_alloc] at q
    obtain ⟨⟨qa, qb, qc⟩, qd, qe, qf⟩ := q
    have hB := Below.up (B := w.heap.size) (w := w) (by go_grown) (by go_size) hb
    go_wp2_with fail
    refine bodyPost_ret (v := .agg #[.int .i64 (x + Tw.dx k), .int .i64 (y + Tw.dy k), .int .i64 k]) (by simp [results, Tryd.results34, go_sem, qa, qb, qc]) rfl ⟨rfl, ?_⟩
    exact ((hB.setCell (by simp) _).setCell (by simp) _).setCell (by simp) _
  · rw [st_L]
    simp only [tv]
    go_enter Tryd.func34, Tryd.ntmps34
    go_wp2_with fail
    refine (turned_any x y k 1 _ k0 k1 (by omega) (by omega)).mono ?_
    rintro e w1 ⟨rfl, hb⟩
    have q := ((Cells3.new (w.alloc (.cells #[.int .i64 x, .int .i64 y, .int .i64 k] 24)) (.int .i64 0) (.int .i64 0) (.int .i64 0) 24)).below hb (by simp)
    rw [World.size_alloc] at q
    obtain ⟨⟨qa, qb, qc⟩, qd, qe, qf⟩ := q
    have hB := Below.up (B := w.heap.size) (w := w) (by go_grown) (by go_size) hb
    go_wp2_with fail
    refine bodyPost_ret (v := .agg #[.int .i64 x, .int .i64 y, .int .i64 ((k + 1) % 4)]) (by simp [results, Tryd.results34, go_sem, qa, qb, qc]) rfl ⟨rfl, ?_⟩
    exact ((hB.setCell (by simp) _).setCell (by simp) _).setCell (by simp) _
  · rw [st_R]
    simp only [tv]
    go_enter Tryd.func34, Tryd.ntmps34
    go_wp2_with fail
    refine (turned_any x y k 3 _ k0 k1 (by omega) (by omega)).mono ?_
    rintro e w1 ⟨rfl, hb⟩
    have q := ((Cells3.new (w.alloc (.cells #[.int .i64 x, .int .i64 y, .int .i64 k] 24)) (.int .i64 0) (.int .i64 0) (.int .i64 0) 24)).below hb (by simp)
    rw [World.size_alloc] at q
    obtain ⟨⟨qa, qb, qc⟩, qd, qe, qf⟩ := q
    have hB := Below.up (B := w.heap.size) (w := w) (by go_grown) (by go_size) hb
    go_wp2_with fail
    refine bodyPost_ret (v := .agg #[.int .i64 x, .int .i64 y, .int .i64 ((k + 3) % 4)]) (by simp [results, Tryd.results34, go_sem, qa, qb, qc]) rfl ⟨rfl, ?_⟩
    exact ((hB.setCell (by simp) _).setCell (by simp) _).setCell (by simp) _
theorem after_go (t : Tw.Tu) (c : UInt8) (w : World) (hd : Dirs w) (hn : Near t 2000000) (hc : Tw.isW c = true) :
    Calls Tryd.prog 34 #[.agg #[.int .i64 t.x, .int .i64 t.y, .int .i64 t.k], .int .u8 (c.toNat : Int)] w fun e w' => e = .returned (.agg #[.int .i64 (Tw.st t c).x, .int .i64 (Tw.st t c).y, .int .i64 (Tw.st t c).k]) ∧ Below w.heap.size w w' := after_any t c w hd hn hc
theorem Near.run {t : Tw.Tu} {n : Int} (h : Near t n) (l : List UInt8) : Near (Tw.run t l) (n + l.length) := by
  obtain ⟨x0, x1, y0, y1, k0, k1⟩ := h
  have h1 := Tw.run_far l t
  have h2 := Tw.run_k l t ⟨k0, k1⟩
  exact ⟨by omega, by omega, by omega, by omega, h2.1, h2.2⟩
theorem Near.mono {t : Tw.Tu} {n m : Int} (h : Near t n) (hm : n ≤ m) : Near t m := by
  obtain ⟨x0, x1, y0, y1, k0, k1⟩ := h
  exact ⟨by omega, by omega, by omega, by omega, k0, k1⟩
theorem run_step (t : Tw.Tu) (s : ByteArray) (k : Nat) (h : k < s.size) : Tw.run t (s.data.toList.take (k + 1)) = Tw.st (Tw.run t (s.data.toList.take k)) s[k] := by
  rw [take_snoc s k h, Tw.run_snoc]
set_option maxHeartbeats 2000000 in
theorem walked_any (t : Tw.Tu) (s : ByteArray) (w : World) (hd : Dirs w) (hn : Near t 1000000) (hw : s.data.toList.all Tw.isW = true) (hs : s.size ≤ 1000) :
    Calls Tryd.prog 26 #[tv t, .string s] w fun e w' => e = .returned (tv (Tw.run t s.data.toList)) ∧ Below w.heap.size w w' := by
  have hD := Lib.hid hd; clear hd
  have hN := Lib.hid hn; clear hn
  have hW := Lib.hid hw; clear hw
  obtain ⟨x, y, k⟩ := t
  simp only [tv]
  go_enter Tryd.func26, Tryd.ntmps26
  go_wp2_with fail
  go_loopw [5] (fun i wr => ∃ (k' : Nat) (T : Tw.Tu), k' ≤ s.size ∧ i = .int .i64 k' ∧ Hid (T = Tw.run ⟨x, y, k⟩ (s.data.toList.take k')) ∧ Hid (Near T 2000000) ∧ TCell wr w.heap.size T ∧ Cells3 wr (w.heap.size + 1) (.int .i64 0) (.int .i64 0) (.int .i64 0) ∧ Hid (Dirs wr) ∧ Below w.heap.size w wr) (fun i _ => s.size - (intOf i).toNat)
  case atStart =>
    have hB : Below w.heap.size w (w.alloc (.cells #[.int .i64 x, .int .i64 y, .int .i64 k] 24)) := by go_grown
    refine ⟨0, ⟨x, y, k⟩, Nat.zero_le _, rfl, Lib.hid (by simp [Tw.run]), Lib.hid (hN.out.mono (by omega)), (Cells3.new w _ _ _ _).alloc _, (by have := Cells3.new (w.alloc (.cells #[.int .i64 x, .int .i64 y, .int .i64 k] 24)) (.int .i64 0) (.int .i64 0) (.int .i64 0) 24; rwa [World.size_alloc] at this), Lib.hid (hD.out.same (by go_grown)), by go_grown⟩
  case round =>
    obtain ⟨k', T, hk, rfl, hT, hNT, hc, hr, hDr, hB⟩ := hrel
    have hz := hB.size
    have HC := Lib.hid hc
    have hlt1 := hc.lt
    obtain ⟨⟨ta, tb, tc⟩, td, te, tf⟩ := hc
    have hlt0 := cell_lt hr.1.1
    by_cases hlt : k' < s.size
    · go_wp2_with fail
      have hi := hW.out
      have hi2 := List.all_eq_true.1 hi _ (byte_mem s k' hlt)
      have HI := Lib.hid hi2; clear hi hi2
      go_still_tail 4, (by kernel_rfl)
      go_wp2_with (go_at_call 34; refine (after_go T s[k'] _ (by exact hDr.out) hNT.out HI.out).mono ?_; rintro e w1 ⟨rfl, hb1⟩; obtain ⟨⟨ta1, tb1, tc1⟩, td1, te1, tf1⟩ := Cells3.below (by exact HC.out) hb1 (by exact hlt1))
      have q1 : Cells3 w1 w.heap.size (.int .i64 T.x) (.int .i64 T.y) (.int .i64 T.k) := ⟨⟨ta1, tb1, tc1⟩, td1, te1, tf1⟩
      have r1 := Cells3.below (by exact hr) hb1 (by exact hlt0)
      have hB1 : Below w.heap.size w w1 := Below.up (by exact hB.drew) (by exact hz) hb1
      have hD1 : Dirs w1 := Dirs.same hb1 (by exact hDr.out)
      have hBB := ((hB1.setCell (p := ⟨w.heap.size, 0, none⟩) (by simp) (.int .i64 (Tw.st T s[k']).x)).setCell (p := ⟨w.heap.size, 1, none⟩) (by simp) (.int .i64 (Tw.st T s[k']).y)).setCell (p := ⟨w.heap.size, 2, none⟩) (by simp) (.int .i64 (Tw.st T s[k']).k)
      have hTn : Tw.st T s[k'] = Tw.run ⟨x, y, k⟩ (s.data.toList.take (k' + 1)) := by rw [hT.out, ← run_step _ _ _ hlt]
      have hNn : Near (Tw.st T s[k']) 2000000 := by
        rw [hTn]
        have hl := List.length_take_le (k' + 1) s.data.toList
        exact (hN.out.run _).mono (by omega)
      refine ⟨⟨k' + 1, Tw.st T s[k'], by omega, by go_num, Lib.hid hTn, Lib.hid hNn, q1.store _ _ _, ((r1.other (by simp) _).other (by simp) _).other (by simp) _, Lib.hid (Dirs.below hBB hD.out.lt hD.out), hBB⟩, by simp [intOf]; omega⟩
    · obtain ⟨⟨ra, rb, rc⟩, rd, re, rf⟩ := hr
      go_wp2_with fail
      have e : k' = s.size := by omega
      have ht := hT.out
      rw [e, take_all] at ht
      refine bodyPost_ret (v := .agg #[.int .i64 T.x, .int .i64 T.y, .int .i64 T.k]) (by simp [results, Tryd.results26, go_sem, ra, rb, rc]) rfl ⟨by rw [ht], ?_⟩
      exact ((hB.setCell (by simp) _).setCell (by simp) _).setCell (by simp) _
theorem walked_go (t : Tw.Tu) (s : ByteArray) (w : World) (hd : Dirs w) (hn : Near t 1000000) (hw : s.data.toList.all Tw.isW = true) (hs : s.size ≤ 1000) :
    Calls Tryd.prog 26 #[.agg #[.int .i64 t.x, .int .i64 t.y, .int .i64 t.k], .string s] w fun e w' => e = .returned (.agg #[.int .i64 (Tw.run t s.data.toList).x, .int .i64 (Tw.run t s.data.toList).y, .int .i64 (Tw.run t s.data.toList).k]) ∧ Below w.heap.size w w' := walked_any t s w hd hn hw hs
theorem l1East_any (k : Int) (w : World) (k0 : 0 ≤ k) (k1 : k ≤ 3) : Calls Tryd.prog 32 #[.int .i64 k] w fun e w' => e = .returned (.int .i64 (Tw.dx k)) ∧ Below w.heap.size w w' := by
  have hk : k = 0 ∨ k = 1 ∨ k = 2 ∨ k = 3 := by omega
  rcases hk with rfl | rfl | rfl | rfl
  all_goals
    go_enter Tryd.func32, Tryd.ntmps32
    go_wp2
    go_ret
    exact ⟨rfl, by go_grown⟩
theorem l1North_any (k : Int) (w : World) (k0 : 0 ≤ k) (k1 : k ≤ 3) : Calls Tryd.prog 33 #[.int .i64 k] w fun e w' => e = .returned (.int .i64 (Tw.dy k)) ∧ Below w.heap.size w w' := by
  have hk : k = 0 ∨ k = 1 ∨ k = 2 ∨ k = 3 := by omega
  rcases hk with rfl | rfl | rfl | rfl
  all_goals
    go_enter Tryd.func33, Tryd.ntmps33
    go_wp2
    go_ret
    exact ⟨rfl, by go_grown⟩
set_option maxHeartbeats 2000000 in
theorem l1Walk_any (t : Tw.Tu) (s : ByteArray) (w : World) (hn : Near t 1000000) (hw : s.data.toList.all Tw.isW = true) (hs : s.size ≤ 1000) :
    Calls Tryd.prog 23 #[.agg #[.int .i64 t.x, .int .i64 t.y, .int .i64 t.k], .string s] w fun e w' => e = .returned (.agg #[.int .i64 (Tw.run t s.data.toList).x, .int .i64 (Tw.run t s.data.toList).y, .int .i64 (Tw.run t s.data.toList).k]) ∧ Below w.heap.size w w' := by
  have hN := Lib.hid hn; clear hn
  have hW := Lib.hid hw; clear hw
  obtain ⟨x, y, k⟩ := t
  go_enter Tryd.func23, Tryd.ntmps23
  go_wp2_with fail
  go_loopw [5] (fun i wr => ∃ (k' : Nat) (T : Tw.Tu), k' ≤ s.size ∧ i = .int .i64 k' ∧ Hid (T = Tw.run ⟨x, y, k⟩ (s.data.toList.take k')) ∧ Near T 2000000 ∧ TCell wr w.heap.size T ∧ Cells3 wr (w.heap.size + 1) (.int .i64 0) (.int .i64 0) (.int .i64 0) ∧ Below w.heap.size w wr) (fun i _ => s.size - (intOf i).toNat)
  case atStart =>
    refine ⟨0, ⟨x, y, k⟩, Nat.zero_le _, rfl, Lib.hid (by simp [Tw.run]), hN.out.mono (by omega), (Cells3.new w _ _ _ _).alloc _, (by have := Cells3.new (w.alloc (.cells #[.int .i64 x, .int .i64 y, .int .i64 k] 24)) (.int .i64 0) (.int .i64 0) (.int .i64 0) 24; rwa [World.size_alloc] at this), by go_grown⟩
  case round =>
    obtain ⟨k', T, hk, rfl, hT, hNT, hc, hr, hB⟩ := hrel
    have hz := hB.size
    have HC := Lib.hid hc
    have hlt1 := hc.lt
    obtain ⟨⟨ta, tb, tc⟩, td, te, tf⟩ := hc
    have hlt0 := cell_lt hr.1.1
    by_cases hlt : k' < s.size
    · have hi2 := List.all_eq_true.1 hW.out _ (byte_mem s k' hlt)
      have hiw := isW_of s[k']
      rw [hi2] at hiw
      have HI := Lib.hid (of_decide_eq_true hiw.symm); clear hiw hi2
      have hNT' := hNT
      obtain ⟨x0, x1, y0, y1, k0, k1⟩ := hNT'
      have HN := Lib.hid hNT; clear hNT
      go_wp2_with fail
      · refine wp_region_peel (n := 15) (S := fun w' => w'.cell? ⟨w.heap.size, 0, none⟩ = some (.int .i64 T.x) ∧ w'.cell? ⟨w.heap.size, 1, none⟩ = some (.int .i64 T.y) ∧ w'.cell? ⟨w.heap.size, 2, none⟩ = some (.int .i64 T.k)) (by kernel_rfl) (lasts_of (by kernel_rfl)) ⟨ta, tb, tc⟩ (fun hHeld => ?_)
        refine wpAnyH_take (i := 0) (v := ?_) rfl (by kernel_rfl) (by kernel_rfl) (by kernel_rfl) (fun _ _ _ h => h) (Or.inl ⟨by rfl, ?_⟩) (by assumption) ?_
        rotate_left
        · intro w hSw; (try dsimp only at hSw); go_simp; try with_reducible rfl
        try simp only [Act.put, List.setIfInBounds_toArray, List.set_cons_zero, List.set_cons_succ]
        refine wpAnyH_take (i := 1) (v := ?_) rfl (by kernel_rfl) (by kernel_rfl) (by kernel_rfl) (fun _ _ _ h => h) (Or.inl ⟨by rfl, ?_⟩) (by assumption) ?_
        rotate_left
        · intro w hSw; (try dsimp only at hSw); go_simp; try with_reducible rfl
        try simp only [Act.put, List.setIfInBounds_toArray, List.set_cons_zero, List.set_cons_succ]
        refine wpAnyH_take (i := 2) (v := ?_) rfl (by kernel_rfl) (by kernel_rfl) (by kernel_rfl) (fun _ _ _ h => h) (Or.inl ⟨by rfl, ?_⟩) (by assumption) ?_
        rotate_left
        · intro w hSw; (try dsimp only at hSw); go_simp; try with_reducible rfl
        try simp only [Act.put, List.setIfInBounds_toArray, List.set_cons_zero, List.set_cons_succ]
        refine wpAnyH_take (i := 3) (v := ?_) rfl (by kernel_rfl) (by kernel_rfl) (by kernel_rfl) (fun _ _ _ h => h) (Or.inl ⟨by rfl, ?_⟩) (by assumption) ?_
        rotate_left
        · intro w hSw; (try dsimp only at hSw); go_simp; try with_reducible rfl
        try simp only [Act.put, List.setIfInBounds_toArray, List.set_cons_zero, List.set_cons_succ]
        refine wpAnyH_take (i := 6) (v := ?_) rfl (by kernel_rfl) (by kernel_rfl) (by kernel_rfl) (fun _ _ _ h => h) (Or.inl ⟨by rfl, ?_⟩) (by assumption) ?_
        rotate_left
        · intro w hSw; (try dsimp only at hSw); go_simp; try with_reducible rfl
        try simp only [Act.put, List.setIfInBounds_toArray, List.set_cons_zero, List.set_cons_succ]
        refine wpAnyH_take (i := 7) (v := ?_) rfl (by kernel_rfl) (by kernel_rfl) (by kernel_rfl) (fun _ _ _ h => h) (Or.inl ⟨by rfl, ?_⟩) (by assumption) ?_
        rotate_left
        · intro w hSw; (try dsimp only at hSw); go_simp; try with_reducible rfl
        try simp only [Act.put, List.setIfInBounds_toArray, List.set_cons_zero, List.set_cons_succ]
        refine wpAnyH_take (i := 8) (v := ?_) rfl (by kernel_rfl) (by kernel_rfl) (by kernel_rfl) (fun _ _ _ h => h) (Or.inl ⟨by rfl, ?_⟩) (by assumption) ?_
        rotate_left
        · intro w hSw; (try dsimp only at hSw); go_simp; try with_reducible rfl
        try simp only [Act.put, List.setIfInBounds_toArray, List.set_cons_zero, List.set_cons_succ]
        refine wpAnyH_take (i := 9) (v := ?_) rfl (by kernel_rfl) (by kernel_rfl) (by kernel_rfl) (fun _ _ _ h => h) (Or.inl ⟨by rfl, ?_⟩) (by assumption) ?_
        rotate_left
        · intro w hSw; (try dsimp only at hSw); go_simp; try with_reducible rfl
        try simp only [Act.put, List.setIfInBounds_toArray, List.set_cons_zero, List.set_cons_succ]
        refine wpAnyH_take (i := 12) (v := ?_) rfl (by kernel_rfl) (by kernel_rfl) (by kernel_rfl) (fun _ _ _ h => h) (Or.inl ⟨by rfl, ?_⟩) (by assumption) ?_
        rotate_left
        · intro w hSw; (try dsimp only at hSw); go_simp; try with_reducible rfl
        try simp only [Act.put, List.setIfInBounds_toArray, List.set_cons_zero, List.set_cons_succ]
        refine wpAnyH_take (i := 13) (v := ?_) rfl (by kernel_rfl) (by kernel_rfl) (by kernel_rfl) (fun _ _ _ h => h) (Or.inl ⟨by rfl, ?_⟩) (by assumption) ?_
        rotate_left
        · intro w hSw; (try dsimp only at hSw); go_simp; try with_reducible rfl
        try simp only [Act.put, List.setIfInBounds_toArray, List.set_cons_zero, List.set_cons_succ]
        refine wpAnyH_ready (rs := [4]) (by kernel_rfl) (by simp) ?_
        refine AllReadyH.cons rfl (fun K hK => ?_) AllReadyH.nil
        go_simp
        refine (l1East_any T.k _ k0 k1).mono ?_
        rintro e w1 ⟨rfl, hb1⟩
        have q1 := Cells3.below (by exact HC.out) hb1 (by exact hlt1)
        have hz1 := hb1.size
        have r1 := Cells3.below (by exact hr) hb1 (by exact hlt0)
        have hB1 : Below w.heap.size w w1 := Below.up (by exact hB.drew) (by exact hz) hb1
        clear hb1
        have q1' := q1
        obtain ⟨⟨ta1, tb1, tc1⟩, td1, te1, tf1⟩ := q1'
        try go_wp2_with fail
        refine hK.out _ _ ⟨ta1, tb1, tc1⟩ (fun hHeld => ?_)
        clear hK K
        try simp only [Act.put, List.setIfInBounds_toArray, List.set_cons_zero, List.set_cons_succ]
        refine wpAnyH_take (i := 5) (v := ?_) rfl (by kernel_rfl) (by kernel_rfl) (by kernel_rfl) (fun _ _ _ h => h) (Or.inl ⟨by rfl, ?_⟩) (by assumption) ?_
        rotate_left
        · intro w hSw; (try dsimp only at hSw); go_simp; try with_reducible rfl
        try simp only [Act.put, List.setIfInBounds_toArray, List.set_cons_zero, List.set_cons_succ]
        refine wpAnyH_ready (rs := [10]) (by kernel_rfl) (by simp) ?_
        refine AllReadyH.cons rfl (fun K hK => ?_) AllReadyH.nil
        go_simp
        refine (l1North_any T.k _ k0 k1).mono ?_
        rintro e w2 ⟨rfl, hb2⟩
        have q2 := q1.below hb2 (by exact q1.lt)
        have r2 := r1.below hb2 (by exact r1.lt)
        have hB2 : Below w.heap.size w w2 := Below.up hB1 hB1.size hb2
        clear hb2 q1 r1 hB1 ta1 tb1 tc1 td1 te1 tf1
        have q2' := q2
        obtain ⟨⟨ta2, tb2, tc2⟩, td2, te2, tf2⟩ := q2'
        try go_wp2_with fail
        refine hK.out _ _ ⟨ta2, tb2, tc2⟩ (fun hHeld => ?_)
        clear hK K
        try simp only [Act.put, List.setIfInBounds_toArray, List.set_cons_zero, List.set_cons_succ]
        refine wpAnyH_take (i := 11) (v := ?_) rfl (by kernel_rfl) (by kernel_rfl) (by kernel_rfl) (fun _ _ _ h => h) (Or.inl ⟨by rfl, ?_⟩) (by assumption) ?_
        rotate_left
        · intro w hSw; (try dsimp only at hSw); go_simp; try with_reducible rfl
        try simp only [Act.put, List.setIfInBounds_toArray, List.set_cons_zero, List.set_cons_succ]
        refine wpAnyH_take (i := 14) (v := ?_) rfl (by kernel_rfl) (by kernel_rfl) (by kernel_rfl) (fun _ _ _ h => h) (Or.inl ⟨by rfl, ?_⟩) (by assumption) ?_
        rotate_left
        · intro w hSw; (try dsimp only at hSw); go_simp; try with_reducible rfl
        try simp only [Act.put, List.setIfInBounds_toArray, List.set_cons_zero, List.set_cons_succ]
        refine wpAnyH_done (by kernel_rfl) ?_ _
        refine peel_here ?_
        refine wpOp_step rfl (fun K hK => ?_)
        go_simp
        have bx := Tw.dx_bd T.k
        have bY := Tw.dy_bd T.k
        have ex : IntKind.i64.wrap (T.x + Tw.dx T.k) = T.x + Tw.dx T.k := IntWalk.i64_in _ (by omega)
        have ey : IntKind.i64.wrap (T.y + Tw.dy T.k) = T.y + Tw.dy T.k := IntWalk.i64_in _ (by omega)
        rw [ex, ey]
        clear ex ey
        refine hK _ _ ?_
        clear hK K
        go_wp2_with fail
        have ec : s[k'] = 70 := (byte_eq _ 70 (by omega)).2 (by simpa using ‹((s[k'].toNat : Int) == 70) = true›)
        have est : Tw.st T s[k'] = ⟨T.x + Tw.dx T.k, T.y + Tw.dy T.k, T.k⟩ := by rw [ec]; rfl
        have hTn : Tw.st T s[k'] = Tw.run ⟨x, y, k⟩ (s.data.toList.take (k' + 1)) := by rw [hT.out, ← run_step _ _ _ hlt]
        have hNn : Near (Tw.st T s[k']) 2000000 := by
          rw [hTn]
          have hl := List.length_take_le (k' + 1) s.data.toList
          exact (hN.out.run _).mono (by omega)
        have hBB := ((hB2.setCell (p := ⟨w.heap.size, 0, none⟩) (by simp) (.int .i64 (T.x + Tw.dx T.k))).setCell (p := ⟨w.heap.size, 1, none⟩) (by simp) (.int .i64 (T.y + Tw.dy T.k))).setCell (p := ⟨w.heap.size, 2, none⟩) (by simp) (.int .i64 T.k)
        exact ⟨⟨k' + 1, Tw.st T s[k'], by omega, by go_num, Lib.hid hTn, hNn, by rw [est]; exact q2.store _ _ _, ((r2.other (by simp) _).other (by simp) _).other (by simp) _, hBB⟩, by simp [intOf]; omega⟩
      · have ec : s[k'] = 76 := (byte_eq _ 76 (by omega)).2 (by simpa using ‹((s[k'].toNat : Int) == 76) = true›)
        have est : Tw.st T s[k'] = ⟨T.x, T.y, (T.k + 1) % 4⟩ := by rw [ec]; rfl
        have hTn : Tw.st T s[k'] = Tw.run ⟨x, y, k⟩ (s.data.toList.take (k' + 1)) := by rw [hT.out, ← run_step _ _ _ hlt]
        have hNn : Near (Tw.st T s[k']) 2000000 := by
          rw [hTn]
          have hl := List.length_take_le (k' + 1) s.data.toList
          exact (hN.out.run _).mono (by omega)
        have hBB := hB.setCell (p := ⟨w.heap.size, 2, none⟩) (by simp) (.int .i64 ((T.k + 1) % 4))
        exact ⟨⟨k' + 1, Tw.st T s[k'], by omega, by go_num, Lib.hid hTn, hNn, by rw [est]; exact HC.out.store2 _, hr.other (by simp) _, hBB⟩, by simp [intOf]; omega⟩
      · have h1 : ¬ (s[k'].toNat : Int) = 70 := by simpa using ‹((s[k'].toNat : Int) == 70) = false›
        have h2 : ¬ (s[k'].toNat : Int) = 76 := by simpa using ‹((s[k'].toNat : Int) == 76) = false›
        have h3 := HI.out
        have ec : s[k'] = 82 := (byte_eq _ 82 (by omega)).2 (by omega)
        have est : Tw.st T s[k'] = ⟨T.x, T.y, (T.k + 3) % 4⟩ := by rw [ec]; rfl
        have hTn : Tw.st T s[k'] = Tw.run ⟨x, y, k⟩ (s.data.toList.take (k' + 1)) := by rw [hT.out, ← run_step _ _ _ hlt]
        have hNn : Near (Tw.st T s[k']) 2000000 := by
          rw [hTn]
          have hl := List.length_take_le (k' + 1) s.data.toList
          exact (hN.out.run _).mono (by omega)
        have hBB := hB.setCell (p := ⟨w.heap.size, 2, none⟩) (by simp) (.int .i64 ((T.k + 3) % 4))
        exact ⟨⟨k' + 1, Tw.st T s[k'], by omega, by go_num, Lib.hid hTn, hNn, by rw [est]; exact HC.out.store2 _, hr.other (by simp) _, hBB⟩, by simp [intOf]; omega⟩
    · obtain ⟨⟨ra, rb, rc⟩, rd, re, rf⟩ := hr
      go_wp2_with fail
      have e : k' = s.size := by omega
      have ht := hT.out
      rw [e, take_all] at ht
      refine bodyPost_ret (v := .agg #[.int .i64 T.x, .int .i64 T.y, .int .i64 T.k]) (by simp [results, Tryd.results23, go_sem, ra, rb, rc]) rfl ⟨by rw [ht], ?_⟩
      exact ((hB.setCell (by simp) _).setCell (by simp) _).setCell (by simp) _
end Go.Proofs.YtfbkdoejgeklcaaDoor
