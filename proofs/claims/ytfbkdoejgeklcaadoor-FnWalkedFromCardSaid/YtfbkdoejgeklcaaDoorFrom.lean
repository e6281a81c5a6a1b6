/- WalkedFrom and WalkedOf of the program and of the reference tell the same. Condition: the table of directions holds what the program's text lays. -/
import Derived.Test.YtfbkdoejgeklcaaDoorWalk
namespace Go.Proofs.YtfbkdoejgeklcaaDoor
open Go.RowKit
set_option linter.unusedVariables false
set_option linter.unusedSimpArgs false

/-- Is WalkedFrom told? -/
def wfB (t : Tw.Tu) (s : ByteArray) : Bool := Tw.tokB t && Tw.wordB s.data.toList && Tw.tokB (Tw.run t s.data.toList)
/-- What WalkedFrom tells. -/
def wfT (t : Tw.Tu) (s : ByteArray) : Tw.Tu := if wfB t s then Tw.run t s.data.toList else ⟨0, 0, 0⟩
/-- The two results. -/
def wfV (t : Tw.Tu) (b : Bool) : Value := .tuple #[.agg #[.int .i64 t.x, .int .i64 t.y, .int .i64 t.k], .bool b]
theorem wf_no {t : Tw.Tu} {s : ByteArray} (h : wfB t s = false) : wfV (wfT t s) (wfB t s) = .tuple #[.agg #[.int .i64 0, .int .i64 0, .int .i64 0], .bool false] := by unfold wfT wfV; rw [h]; rfl
theorem wf_yes {t : Tw.Tu} {s : ByteArray} (h : wfB t s = true) : wfV (wfT t s) (wfB t s) = .tuple #[.agg #[.int .i64 (Tw.run t s.data.toList).x, .int .i64 (Tw.run t s.data.toList).y, .int .i64 (Tw.run t s.data.toList).k], .bool true] := by unfold wfT wfV; rw [h]; rfl
theorem tok_near {t : Tw.Tu} (h : Tw.tokB t = true) : Near t 10000 := by
  unfold Tw.tokB at h; rw [decide_eq_true_iff] at h; exact h

set_option maxHeartbeats 1000000 in
theorem walkedFrom_impl (x y k : Int) (s : ByteArray) (w : World) (hd : Dirs w) (hs : s.size ≤ maxLen) :
    Calls Tryd.prog 9 #[.agg #[.int .i64 x, .int .i64 y, .int .i64 k], .string s] w fun e w' => e = .returned (wfV (wfT ⟨x, y, k⟩ s) (wfB ⟨x, y, k⟩ s)) ∧ Below w.heap.size w w' := by
  have hD := Lib.hid hd; clear hd
  have hcw := fun w => wordOk_impl s w hs
  cases ht : Tw.tokB ⟨x, y, k⟩
  · have hv := wf_no (t := ⟨x, y, k⟩) (s := s) (by unfold wfB; rw [ht]; rfl)
    rw [hv]; clear hv
    have hct := fun w => turtleOk_impl x y k w
    rw [ht] at hct
    have HT := Lib.hid hct; clear hct ht hcw
    go_enter Tryd.func9, Tryd.ntmps9
    go_wp2_with fail
    refine (HT.out _).mono ?_
    rintro e w1 ⟨rfl, hb⟩
    have q := ((Cells3.new (w.alloc (.cells #[.int .i64 x, .int .i64 y, .int .i64 k] 24)) (.int .i64 0) (.int .i64 0) (.int .i64 0) 24)).below hb (by simp)
    rw [World.size_alloc] at q
    obtain ⟨⟨qa, qb, qc⟩, qd, qe, qf⟩ := q
    have hB := Below.up (B := w.heap.size) (w := w) (by go_grown) (by go_size) hb
    go_wp2_with fail
    refine bodyPost_ret (v := .tuple #[.agg #[.int .i64 0, .int .i64 0, .int .i64 0], .bool false]) (by simp [results, Tryd.results9, go_sem, qa, qb, qc]) rfl ⟨rfl, ?_⟩
    exact ((hB.setCell (by simp) _).setCell (by simp) _).setCell (by simp) _
  · have hct := fun w => turtleOk_impl x y k w
    rw [ht] at hct
    have HT := Lib.hid hct; clear hct
    have hN := tok_near ht
    cases hw : Tw.wordB s.data.toList
    · have hv := wf_no (t := ⟨x, y, k⟩) (s := s) (by unfold wfB; rw [hw]; simp)
      rw [hv]; clear hv
      rw [hw] at hcw
      have HW := Lib.hid hcw; clear hcw ht hw hN
      go_enter Tryd.func9, Tryd.ntmps9
      go_wp2_with fail
      refine (HT.out _).mono ?_
      rintro e w1 ⟨rfl, hb⟩
      have q := ((Cells3.new (w.alloc (.cells #[.int .i64 x, .int .i64 y, .int .i64 k] 24)) (.int .i64 0) (.int .i64 0) (.int .i64 0) 24)).below hb (by simp)
      rw [World.size_alloc] at q
      obtain ⟨⟨qa, qb, qc⟩, qd, qe, qf⟩ := q
      have hB := Below.up (B := w.heap.size) (w := w) (by go_grown) (by go_size) hb
      go_wp2_with (go_at_call 25; refine (HW.out _).mono ?_; rintro e w' ⟨rfl, rfl⟩)
      refine bodyPost_ret (v := .tuple #[.agg #[.int .i64 0, .int .i64 0, .int .i64 0], .bool false]) (by simp [results, Tryd.results9, go_sem, qa, qb, qc]) rfl ⟨rfl, ?_⟩
      exact ((hB.setCell (by simp) _).setCell (by simp) _).setCell (by simp) _
    · have hlen := wordB_len hw
      have hall := wordB_all hw
      obtain ⟨T, hT⟩ : ∃ T, T = Tw.run ⟨x, y, k⟩ s.data.toList := ⟨_, rfl⟩
      have hcT := fun w => turtleOk_impl T.x T.y T.k w
      have hwk := fun w hd => walked_go ⟨x, y, k⟩ s w hd (hN.mono (by omega)) hall (by omega)
      rw [← hT] at hwk
      rw [hw] at hcw
      have HW := Lib.hid hcw; clear hcw
      have HK := Lib.hid hwk; clear hwk
      cases he : Tw.tokB T
      · have hv := wf_no (t := ⟨x, y, k⟩) (s := s) (by unfold wfB; rw [ht, hw, ← hT, he]; rfl)
        rw [hv]; clear hv
        have he' : Tw.tokB ⟨T.x, T.y, T.k⟩ = false := he
        rw [he'] at hcT
        have HE := Lib.hid hcT; clear hcT ht hw hN hT he he'
        go_enter Tryd.func9, Tryd.ntmps9
        go_wp2_with fail
        refine (HT.out _).mono ?_
        rintro e w1 ⟨rfl, hb⟩
        have q := ((Cells3.new (w.alloc (.cells #[.int .i64 x, .int .i64 y, .int .i64 k] 24)) (.int .i64 0) (.int .i64 0) (.int .i64 0) 24)).below hb (by simp)
        rw [World.size_alloc] at q
        have t := ((Cells3.new w (.int .i64 x) (.int .i64 y) (.int .i64 k) 24).alloc (.cells #[.int .i64 0, .int .i64 0, .int .i64 0] 24)).below hb (by simp; omega)
        have hB := Below.up (B := w.heap.size) (w := w) (by go_grown) (by go_size) hb
        have hd1 := Dirs.below hB hD.out.lt hD.out
        clear hb
        obtain ⟨⟨ta, tb, tc⟩, td, te, tf⟩ := t
        go_wp2_with (go_at_call 25; refine (HW.out _).mono ?_; rintro e w' ⟨rfl, rfl⟩)
        refine (HK.out _ hd1).mono ?_
        rintro e w2 ⟨rfl, hb2⟩
        have q2 := q.below hb2 q.lt
        have hB2 := Below.up hB hB.size hb2
        have hz2 := hb2.size
        clear hb2 q hB ta tb tc td te tf hd1
        go_wp2_with fail
        refine (HE.out _).mono ?_
        rintro e w3 ⟨rfl, hb3⟩
        have q3 := (q2.alloc (.cells #[.int .i64 T.x, .int .i64 T.y, .int .i64 T.k] 24)).below hb3 (by have := q2.lt; simp; omega)
        have u3 := (Cells3.new w2 (.int .i64 T.x) (.int .i64 T.y) (.int .i64 T.k) 24).below hb3 (by simp)
        have hB3 := Below.up (hB2.alloc hB2.size (.cells #[.int .i64 T.x, .int .i64 T.y, .int .i64 T.k] 24)) (by have := hB2.size; simp; omega) hb3
        clear hb3 q2
        obtain ⟨⟨qa, qb, qc⟩, qd, qe, qf⟩ := q3
        obtain ⟨⟨ua, ub, uc⟩, ud, ue, uf⟩ := u3
        go_wp2_with fail
        refine bodyPost_ret (v := .tuple #[.agg #[.int .i64 0, .int .i64 0, .int .i64 0], .bool false]) (by simp [results, Tryd.results9, go_sem, qa, qb, qc]) rfl ⟨rfl, ?_⟩
        exact ((hB3.setCell (by simp) _).setCell (by simp) _).setCell (by simp) _
      · have hv := wf_yes (t := ⟨x, y, k⟩) (s := s) (by unfold wfB; rw [ht, hw, ← hT, he]; rfl)
        rw [hv, ← hT]; clear hv
        have he' : Tw.tokB ⟨T.x, T.y, T.k⟩ = true := he
        rw [he'] at hcT
        have HE := Lib.hid hcT; clear hcT ht hw hN hT he he'
        go_enter Tryd.func9, Tryd.ntmps9
        go_wp2_with fail
        refine (HT.out _).mono ?_
        rintro e w1 ⟨rfl, hb⟩
        have q := ((Cells3.new (w.alloc (.cells #[.int .i64 x, .int .i64 y, .int .i64 k] 24)) (.int .i64 0) (.int .i64 0) (.int .i64 0) 24)).below hb (by simp)
        rw [World.size_alloc] at q
        have t := ((Cells3.new w (.int .i64 x) (.int .i64 y) (.int .i64 k) 24).alloc (.cells #[.int .i64 0, .int .i64 0, .int .i64 0] 24)).below hb (by simp; omega)
        have hB := Below.up (B := w.heap.size) (w := w) (by go_grown) (by go_size) hb
        have hd1 := Dirs.below hB hD.out.lt hD.out
        clear hb
        obtain ⟨⟨ta, tb, tc⟩, td, te, tf⟩ := t
        go_wp2_with (go_at_call 25; refine (HW.out _).mono ?_; rintro e w' ⟨rfl, rfl⟩)
        refine (HK.out _ hd1).mono ?_
        rintro e w2 ⟨rfl, hb2⟩
        have q2 := q.below hb2 q.lt
        have hB2 := Below.up hB hB.size hb2
        have hz2 := hb2.size
        clear hb2 q hB ta tb tc td te tf hd1
        go_wp2_with fail
        refine (HE.out _).mono ?_
        rintro e w3 ⟨rfl, hb3⟩
        have q3 := (q2.alloc (.cells #[.int .i64 T.x, .int .i64 T.y, .int .i64 T.k] 24)).below hb3 (by have := q2.lt; simp; omega)
        have u3 := (Cells3.new w2 (.int .i64 T.x) (.int .i64 T.y) (.int .i64 T.k) 24).below hb3 (by simp)
        have hB3 := Below.up (hB2.alloc hB2.size (.cells #[.int .i64 T.x, .int .i64 T.y, .int .i64 T.k] 24)) (by have := hB2.size; simp; omega) hb3
        clear hb3 q2
        obtain ⟨⟨qa, qb, qc⟩, qd, qe, qf⟩ := q3
        obtain ⟨⟨ua, ub, uc⟩, ud, ue, uf⟩ := u3
        go_wp2_with fail
        refine bodyPost_ret (v := .tuple #[.agg #[.int .i64 T.x, .int .i64 T.y, .int .i64 T.k], .bool true]) (by simp [results, Tryd.results9, go_sem, qa, qb, qc]) rfl ⟨rfl, ?_⟩
        exact ((hB3.setCell (by simp) _).setCell (by simp) _).setCell (by simp) _
theorem walkedFrom_impl_go (x y k : Int) (s : ByteArray) (w : World) (hd : Dirs w) (hs : s.size ≤ maxLen) :
    Calls Tryd.prog 9 #[.agg #[.int .i64 x, .int .i64 y, .int .i64 k], .string s] w fun e w' => e = .returned (.tuple #[.agg #[.int .i64 (wfT ⟨x, y, k⟩ s).x, .int .i64 (wfT ⟨x, y, k⟩ s).y, .int .i64 (wfT ⟨x, y, k⟩ s).k], .bool (wfB ⟨x, y, k⟩ s)]) ∧ Below w.heap.size w w' := walkedFrom_impl x y k s w hd hs
/-- Three blocks of the call's own: the turtle, the result, the turtle again. -/
theorem three (w : World) (x y k : Int) (T : TypeId) :
    Cells3 (((w.alloc (.cells #[.int .i64 x, .int .i64 y, .int .i64 k] T)).alloc (.cells #[.int .i64 0, .int .i64 0, .int .i64 0] T)).alloc (.cells #[.int .i64 x, .int .i64 y, .int .i64 k] T)) w.heap.size (.int .i64 x) (.int .i64 y) (.int .i64 k) ∧
    Cells3 (((w.alloc (.cells #[.int .i64 x, .int .i64 y, .int .i64 k] T)).alloc (.cells #[.int .i64 0, .int .i64 0, .int .i64 0] T)).alloc (.cells #[.int .i64 x, .int .i64 y, .int .i64 k] T)) (w.heap.size + 1) (.int .i64 0) (.int .i64 0) (.int .i64 0) ∧
    Cells3 (((w.alloc (.cells #[.int .i64 x, .int .i64 y, .int .i64 k] T)).alloc (.cells #[.int .i64 0, .int .i64 0, .int .i64 0] T)).alloc (.cells #[.int .i64 x, .int .i64 y, .int .i64 k] T)) (w.heap.size + 2) (.int .i64 x) (.int .i64 y) (.int .i64 k) ∧
    Below w.heap.size w (((w.alloc (.cells #[.int .i64 x, .int .i64 y, .int .i64 k] T)).alloc (.cells #[.int .i64 0, .int .i64 0, .int .i64 0] T)).alloc (.cells #[.int .i64 x, .int .i64 y, .int .i64 k] T)) := by
  refine ⟨((Cells3.new w _ _ _ _).alloc _).alloc _, ?_, ?_, by go_grown⟩
  · have := (Cells3.new (w.alloc (.cells #[.int .i64 x, .int .i64 y, .int .i64 k] T)) (.int .i64 0) (.int .i64 0) (.int .i64 0) T).alloc (.cells #[.int .i64 x, .int .i64 y, .int .i64 k] T)
    rwa [World.size_alloc] at this
  · have := Cells3.new ((w.alloc (.cells #[.int .i64 x, .int .i64 y, .int .i64 k] T)).alloc (.cells #[.int .i64 0, .int .i64 0, .int .i64 0] T)) (.int .i64 x) (.int .i64 y) (.int .i64 k) T
    rwa [World.size_alloc, World.size_alloc] at this
set_option maxHeartbeats 1000000 in
theorem walkedFrom_spec (x y k : Int) (s : ByteArray) (w : World) (hs : s.size ≤ maxLen) :
    Calls Tryd.prog 7 #[.agg #[.int .i64 x, .int .i64 y, .int .i64 k], .string s] w fun e w' => e = .returned (wfV (wfT ⟨x, y, k⟩ s) (wfB ⟨x, y, k⟩ s)) ∧ Below w.heap.size w w' := by
  have hcw := fun w => wordOk_spec s w hs
  have hct := fun w => turtleOk_spec x y k w
  obtain ⟨t0, r0, o0, hB0⟩ := three w x y k 24
  have HT0 := Lib.hid t0
  have HR0 := Lib.hid r0
  have HO0 := Lib.hid o0
  have HB0 := Lib.hid hB0
  clear t0 r0 o0 hB0
  cases ht : Tw.tokB ⟨x, y, k⟩
  · have hv := wf_no (t := ⟨x, y, k⟩) (s := s) (by unfold wfB; rw [ht]; rfl)
    rw [hv]; clear hv
    rw [ht] at hct
    have HT := Lib.hid hct; clear hct ht hcw
    go_enter Tryd.func7, Tryd.ntmps7
    go_wp2_with fail
    refine (HT.out _).mono ?_
    rintro e w1 ⟨rfl, hb⟩
    have t1 := HT0.out.below hb HT0.out.lt
    have r1 := HR0.out.below hb HR0.out.lt
    have hB1 := Below.up HB0.out HB0.out.size hb
    clear hb HT0 HR0 HO0 HB0
    have t1' := t1
    obtain ⟨⟨ta, tb, tc⟩, td, te, tf⟩ := t1'
    go_wp2_with fail
    refine (HT.out _).mono ?_
    rintro e w2 ⟨rfl, hb2⟩
    have r2 := r1.below hb2 r1.lt
    have hB2 := Below.up hB1 hB1.size hb2
    clear hb2 r1 t1 ta tb tc td te tf
    obtain ⟨⟨qa, qb, qc⟩, qd, qe, qf⟩ := r2
    go_wp2_with fail
    refine bodyPost_ret (v := .tuple #[.agg #[.int .i64 0, .int .i64 0, .int .i64 0], .bool false]) (by simp [results, Tryd.results7, go_sem, qa, qb, qc]) rfl ⟨rfl, ?_⟩
    exact ((hB2.setCell (by simp) _).setCell (by simp) _).setCell (by simp) _
  · rw [ht] at hct
    have HT := Lib.hid hct; clear hct
    have hN := tok_near ht
    cases hw : Tw.wordB s.data.toList
    · have hv := wf_no (t := ⟨x, y, k⟩) (s := s) (by unfold wfB; rw [hw]; simp)
      rw [hv]; clear hv
      rw [hw] at hcw
      have HW := Lib.hid hcw; clear hcw ht hw hN
      go_enter Tryd.func7, Tryd.ntmps7
      go_wp2_with fail
      refine (HT.out _).mono ?_
      rintro e w1 ⟨rfl, hb⟩
      have t1 := HT0.out.below hb HT0.out.lt
      have r1 := HR0.out.below hb HR0.out.lt
      have hB1 := Below.up HB0.out HB0.out.size hb
      clear hb HT0 HR0 HO0 HB0
      have t1' := t1
      obtain ⟨⟨ta, tb, tc⟩, td, te, tf⟩ := t1'
      go_wp2_with (go_at_call 22; refine (HW.out _).mono ?_; rintro e w' ⟨rfl, rfl⟩)
      refine (HT.out _).mono ?_
      rintro e w2 ⟨rfl, hb2⟩
      have r2 := r1.below hb2 r1.lt
      have hB2 := Below.up hB1 hB1.size hb2
      clear hb2 r1 t1 ta tb tc td te tf
      obtain ⟨⟨qa, qb, qc⟩, qd, qe, qf⟩ := r2
      go_wp2_with (go_at_call 22; refine (HW.out _).mono ?_; rintro e w' ⟨rfl, rfl⟩)
      refine bodyPost_ret (v := .tuple #[.agg #[.int .i64 0, .int .i64 0, .int .i64 0], .bool false]) (by simp [results, Tryd.results7, go_sem, qa, qb, qc]) rfl ⟨rfl, ?_⟩
      exact ((hB2.setCell (by simp) _).setCell (by simp) _).setCell (by simp) _
    · have hlen := wordB_len hw
      have hall := wordB_all hw
      obtain ⟨T, hT⟩ : ∃ T, T = Tw.run ⟨x, y, k⟩ s.data.toList := ⟨_, rfl⟩
      have hcT := fun w => turtleOk_spec T.x T.y T.k w
      have hwk := fun w => l1Walk_any ⟨x, y, k⟩ s w (hN.mono (by omega)) hall (by omega)
      rw [← hT] at hwk
      rw [hw] at hcw
      have HW := Lib.hid hcw; clear hcw
      have HK := Lib.hid hwk; clear hwk
      cases he : Tw.tokB T
      · have hv := wf_no (t := ⟨x, y, k⟩) (s := s) (by unfold wfB; rw [ht, hw, ← hT, he]; rfl)
        rw [hv]; clear hv
        have he' : Tw.tokB ⟨T.x, T.y, T.k⟩ = false := he
        rw [he'] at hcT
        have HE := Lib.hid hcT; clear hcT ht hw hN hT he he'
        go_enter Tryd.func7, Tryd.ntmps7
        go_wp2_with fail
        refine (HT.out _).mono ?_
        rintro e w1 ⟨rfl, hb⟩
        have t1 := HT0.out.below hb HT0.out.lt
        have r1 := HR0.out.below hb HR0.out.lt
        have o1 := HO0.out.below hb HO0.out.lt
        have hB1 := Below.up HB0.out HB0.out.size hb
        clear hb HT0 HR0 HO0 HB0
        have t1' := t1
        obtain ⟨⟨ta, tb, tc⟩, td, te, tf⟩ := t1'
        go_wp2_with (go_at_call 22; refine (HW.out _).mono ?_; rintro e w' ⟨rfl, rfl⟩)
        refine (HK.out _).mono ?_
        rintro e w2 ⟨rfl, hb2⟩
        have t2 := t1.below hb2 t1.lt
        have r2 := r1.below hb2 r1.lt
        have o2 := o1.below hb2 o1.lt
        have hB2 := Below.up hB1 hB1.size hb2
        clear hb2 t1 r1 o1 hB1 ta tb tc td te tf
        have t3 := ((t2.other (a := ⟨w.heap.size + 2, 0, none⟩) (by simp) (.int .i64 T.x)).other (a := ⟨w.heap.size + 2, 1, none⟩) (by simp) (.int .i64 T.y)).other (a := ⟨w.heap.size + 2, 2, none⟩) (by simp) (.int .i64 T.k)
        have r3 := ((r2.other (a := ⟨w.heap.size + 2, 0, none⟩) (by simp) (.int .i64 T.x)).other (a := ⟨w.heap.size + 2, 1, none⟩) (by simp) (.int .i64 T.y)).other (a := ⟨w.heap.size + 2, 2, none⟩) (by simp) (.int .i64 T.k)
        have o3 := o2.store (.int .i64 T.x) (.int .i64 T.y) (.int .i64 T.k)
        have hB3 := ((hB2.setCell (p := ⟨w.heap.size + 2, 0, none⟩) (by simp) (.int .i64 T.x)).setCell (p := ⟨w.heap.size + 2, 1, none⟩) (by simp) (.int .i64 T.y)).setCell (p := ⟨w.heap.size + 2, 2, none⟩) (by simp) (.int .i64 T.k)
        obtain ⟨⟨oa, ob, oc⟩, od, oe, of⟩ := o2
        obtain ⟨⟨ta, tb, tc⟩, td, te, tf⟩ := t2
        go_wp2_with fail
        refine (HT.out _).mono ?_
        rintro e w4 ⟨rfl, hb4⟩
        have r4 := r3.below hb4 (by exact r3.lt)
        have o4 := o3.below hb4 (by exact o3.lt)
        have hB4 := Below.up hB3 hB3.size hb4
        clear hb4 t3 r3 o3 hB3 hB2 r2 oa ob oc od oe of ta tb tc td te tf
        have o4' := o4
        obtain ⟨⟨oa, ob, oc⟩, od, oe, of⟩ := o4'
        go_wp2_with (go_at_call 22; refine (HW.out _).mono ?_; rintro e w' ⟨rfl, rfl⟩)
        refine (HE.out _).mono ?_
        rintro e w5 ⟨rfl, hb5⟩
        have r5 := r4.below hb5 (by exact r4.lt)
        have o5 := o4.below hb5 (by exact o4.lt)
        have hB5 := Below.up hB4 hB4.size hb5
        clear hb5 r4 o4 hB4 oa ob oc od oe of
        obtain ⟨⟨qa, qb, qc⟩, qd, qe, qf⟩ := r5
        obtain ⟨⟨oa, ob, oc⟩, od, oe, of⟩ := o5
        go_wp2_with fail
        refine bodyPost_ret (v := .tuple #[.agg #[.int .i64 0, .int .i64 0, .int .i64 0], .bool false]) (by simp [results, Tryd.results7, go_sem, qa, qb, qc]) rfl ⟨rfl, ?_⟩
        exact ((hB5.setCell (by simp) _).setCell (by simp) _).setCell (by simp) _
      · have hv := wf_yes (t := ⟨x, y, k⟩) (s := s) (by unfold wfB; rw [ht, hw, ← hT, he]; rfl)
        rw [hv, ← hT]; clear hv
        have he' : Tw.tokB ⟨T.x, T.y, T.k⟩ = true := he
        rw [he'] at hcT
        have HE := Lib.hid hcT; clear hcT ht hw hN hT he he'
        go_enter Tryd.func7, Tryd.ntmps7
        go_wp2_with fail
        refine (HT.out _).mono ?_
        rintro e w1 ⟨rfl, hb⟩
        have t1 := HT0.out.below hb HT0.out.lt
        have r1 := HR0.out.below hb HR0.out.lt
        have o1 := HO0.out.below hb HO0.out.lt
        have hB1 := Below.up HB0.out HB0.out.size hb
        clear hb HT0 HR0 HO0 HB0
        have t1' := t1
        obtain ⟨⟨ta, tb, tc⟩, td, te, tf⟩ := t1'
        go_wp2_with (go_at_call 22; refine (HW.out _).mono ?_; rintro e w' ⟨rfl, rfl⟩)
        refine (HK.out _).mono ?_
        rintro e w2 ⟨rfl, hb2⟩
        have t2 := t1.below hb2 t1.lt
        have r2 := r1.below hb2 r1.lt
        have o2 := o1.below hb2 o1.lt
        have hB2 := Below.up hB1 hB1.size hb2
        clear hb2 t1 r1 o1 hB1 ta tb tc td te tf
        have t3 := ((t2.other (a := ⟨w.heap.size + 2, 0, none⟩) (by simp) (.int .i64 T.x)).other (a := ⟨w.heap.size + 2, 1, none⟩) (by simp) (.int .i64 T.y)).other (a := ⟨w.heap.size + 2, 2, none⟩) (by simp) (.int .i64 T.k)
        have r3 := ((r2.other (a := ⟨w.heap.size + 2, 0, none⟩) (by simp) (.int .i64 T.x)).other (a := ⟨w.heap.size + 2, 1, none⟩) (by simp) (.int .i64 T.y)).other (a := ⟨w.heap.size + 2, 2, none⟩) (by simp) (.int .i64 T.k)
        have o3 := o2.store (.int .i64 T.x) (.int .i64 T.y) (.int .i64 T.k)
        have hB3 := ((hB2.setCell (p := ⟨w.heap.size + 2, 0, none⟩) (by simp) (.int .i64 T.x)).setCell (p := ⟨w.heap.size + 2, 1, none⟩) (by simp) (.int .i64 T.y)).setCell (p := ⟨w.heap.size + 2, 2, none⟩) (by simp) (.int .i64 T.k)
        obtain ⟨⟨oa, ob, oc⟩, od, oe, of⟩ := o2
        obtain ⟨⟨ta, tb, tc⟩, td, te, tf⟩ := t2
        go_wp2_with fail
        refine (HT.out _).mono ?_
        rintro e w4 ⟨rfl, hb4⟩
        have r4 := r3.below hb4 (by exact r3.lt)
        have o4 := o3.below hb4 (by exact o3.lt)
        have hB4 := Below.up hB3 hB3.size hb4
        clear hb4 t3 r3 o3 hB3 hB2 r2 oa ob oc od oe of ta tb tc td te tf
        have o4' := o4
        obtain ⟨⟨oa, ob, oc⟩, od, oe, of⟩ := o4'
        go_wp2_with (go_at_call 22; refine (HW.out _).mono ?_; rintro e w' ⟨rfl, rfl⟩)
        refine (HE.out _).mono ?_
        rintro e w5 ⟨rfl, hb5⟩
        have r5 := r4.below hb5 (by exact r4.lt)
        have o5 := o4.below hb5 (by exact o4.lt)
        have hB5 := Below.up hB4 hB4.size hb5
        clear hb5 r4 o4 hB4 oa ob oc od oe of
        obtain ⟨⟨qa, qb, qc⟩, qd, qe, qf⟩ := r5
        obtain ⟨⟨oa, ob, oc⟩, od, oe, of⟩ := o5
        go_wp2_with fail
        refine bodyPost_ret (v := .tuple #[.agg #[.int .i64 T.x, .int .i64 T.y, .int .i64 T.k], .bool true]) (by simp [results, Tryd.results7, go_sem, qa, qb, qc]) rfl ⟨rfl, ?_⟩
        exact ((hB5.setCell (by simp) _).setCell (by simp) _).setCell (by simp) _
theorem walkedFrom_spec_go (x y k : Int) (s : ByteArray) (w : World) (hs : s.size ≤ maxLen) :
    Calls Tryd.prog 7 #[.agg #[.int .i64 x, .int .i64 y, .int .i64 k], .string s] w fun e w' => e = .returned (.tuple #[.agg #[.int .i64 (wfT ⟨x, y, k⟩ s).x, .int .i64 (wfT ⟨x, y, k⟩ s).y, .int .i64 (wfT ⟨x, y, k⟩ s).k], .bool (wfB ⟨x, y, k⟩ s)]) ∧ Below w.heap.size w w' := walkedFrom_spec x y k s w hs
theorem walkedOf_impl (s : ByteArray) (w : World) (hd : Dirs w) (hs : s.size ≤ maxLen) :
    Calls Tryd.prog 16 #[.string s] w fun e w' => e = .returned (.tuple #[.agg #[.int .i64 (wfT ⟨0, 0, 0⟩ s).x, .int .i64 (wfT ⟨0, 0, 0⟩ s).y, .int .i64 (wfT ⟨0, 0, 0⟩ s).k], .bool (wfB ⟨0, 0, 0⟩ s)]) ∧ Below w.heap.size w w' := by
  have hc := fun (w : World) (hd : Dirs w) => walkedFrom_impl_go 0 0 0 s w hd hs
  have HC := Lib.hid hc; clear hc
  generalize wfT ⟨0, 0, 0⟩ s = T at HC ⊢
  generalize wfB ⟨0, 0, 0⟩ s = b at HC ⊢
  have HD := Lib.hid hd; clear hd
  go_enter Tryd.func16, Tryd.ntmps16
  go_wp2_with fail
  refine (HC.out _ (HD.out.same (by go_grown))).mono ?_
  rintro e w1 ⟨rfl, hb⟩
  have q := (Cells3.new w (.int .i64 0) (.int .i64 0) (.int .i64 0) 24).below hb (by simp)
  obtain ⟨⟨qa, qb, qc⟩, qd, qe, qf⟩ := q
  have hB := Below.up (B := w.heap.size) (w := w) (by go_grown) (by go_size) hb
  go_wp2_with fail
  refine bodyPost_ret (v := .tuple #[.agg #[.int .i64 T.x, .int .i64 T.y, .int .i64 T.k], .bool b]) (by simp [results, Tryd.results16, go_sem, qa, qb, qc]) rfl ⟨rfl, ?_⟩
  exact ((hB.setCell (by simp) _).setCell (by simp) _).setCell (by simp) _
theorem walkedOf_spec (s : ByteArray) (w : World) (hs : s.size ≤ maxLen) :
    Calls Tryd.prog 17 #[.string s] w fun e w' => e = .returned (.tuple #[.agg #[.int .i64 (wfT ⟨0, 0, 0⟩ s).x, .int .i64 (wfT ⟨0, 0, 0⟩ s).y, .int .i64 (wfT ⟨0, 0, 0⟩ s).k], .bool (wfB ⟨0, 0, 0⟩ s)]) ∧ Below w.heap.size w w' := by
  have hc := fun (w : World) => walkedFrom_spec_go 0 0 0 s w hs
  have HC := Lib.hid hc; clear hc
  generalize wfT ⟨0, 0, 0⟩ s = T at HC ⊢
  generalize wfB ⟨0, 0, 0⟩ s = b at HC ⊢
  go_enter Tryd.func17, Tryd.ntmps17
  go_wp2_with fail
  refine (HC.out _).mono ?_
  rintro e w1 ⟨rfl, hb⟩
  have q := (Cells3.new w (.int .i64 0) (.int .i64 0) (.int .i64 0) 24).below hb (by simp)
  obtain ⟨⟨qa, qb, qc⟩, qd, qe, qf⟩ := q
  have hB := Below.up (B := w.heap.size) (w := w) (by go_grown) (by go_size) hb
  go_wp2_with fail
  refine bodyPost_ret (v := .tuple #[.agg #[.int .i64 T.x, .int .i64 T.y, .int .i64 T.k], .bool b]) (by simp [results, Tryd.results17, go_sem, qa, qb, qc]) rfl ⟨rfl, ?_⟩
  exact ((hB.setCell (by simp) _).setCell (by simp) _).setCell (by simp) _
theorem toTurtle_any (x y k : Int) (w : World) : Calls Tryd.prog 8 #[.agg #[.int .i64 x, .int .i64 y, .int .i64 k]] w fun e w' => e = .returned (.agg #[.int .i64 x, .int .i64 y, .int .i64 k]) ∧ Below w.heap.size w w' := by
  go_enter Tryd.func8, Tryd.ntmps8
  go_wp2_with fail
  refine bodyPost_ret (v := .agg #[.int .i64 x, .int .i64 y, .int .i64 k]) (by simp [results, Tryd.results8, go_sem]) rfl ⟨rfl, by go_grown⟩
theorem eqTurtle_same (x y k : Int) (w : World) : Calls Tryd.prog 10 #[.agg #[.int .i64 x, .int .i64 y, .int .i64 k], .agg #[.int .i64 x, .int .i64 y, .int .i64 k]] w fun e w' => e = .returned (.bool true) ∧ Below w.heap.size w w' := by
  go_enter Tryd.func10, Tryd.ntmps10
  go_wp2_with fail
  go_ret
  exact ⟨rfl, by go_grown⟩
end Go.Proofs.YtfbkdoejgeklcaaDoor
