/- The iterator afterEach keeps its contract; RoundsOf, AfterTimes. Condition: the table of directions holds what the program's text lays. -/
import Derived.Test.YtdkhibkebakepaaDoorDrift
import Derived.Test.YtdkhibkebakepaaDoorTwC
import Derived.Test.YtdkhibkebakepaaDoorEach
namespace Go.Proofs.YtdkhibkebakepaaDoor
open Go.RowKit Go.Shelf
set_option linter.unusedVariables false
set_option linter.unusedSimpArgs false
attribute [local go_sem] Oper.semAt_some

theorem TCell.grown {A C : World} {b l : Nat} {t : Tw.Tu} (h : TCell A b t) (hg : A.grownBy C (some l)) (hl : b ≠ l) : TCell C b t := Cells3.block h (hg.block b (Cells3.lt h) (fun e => by cases e; exact hl rfl))
theorem cell_grown {A C : World} {b o l : Nat} {v : Value} (h : A.cell? ⟨b, o, none⟩ = some v) (hg : A.grownBy C (some l)) (hl : b ≠ l) : C.cell? ⟨b, o, none⟩ = some v :=
  (World.cell?_of_block (a := ⟨b, o, none⟩) (hg.block b (cell_lt h) (fun e => by cases e; exact hl rfl))).trans h
theorem Dirs.grown {A C : World} {l : Nat} (h : Dirs A) (hg : A.grownBy C (some l)) (hl : 0 ≠ l) : Dirs C := by
  obtain ⟨h0, h1, h2, h3, h4, h5, h6, h7⟩ := h
  exact ⟨cell_grown h0 hg hl, cell_grown h1 hg hl, cell_grown h2 hg hl, cell_grown h3 hg hl, cell_grown h4 hg hl, cell_grown h5 hg hl, cell_grown h6 hg hl, cell_grown h7 hg hl⟩
/-- Where the turtle is after so many times. -/
def tt (s : ByteArray) (k : Nat) : Tw.Tu := Tw.times s.data.toList k ⟨0, 0, 0⟩
theorem tt_zero (s : ByteArray) : tt s 0 = ⟨0, 0, 0⟩ := rfl
theorem tt_succ (s : ByteArray) (k : Nat) : tt s (k + 1) = Tw.run (tt s k) s.data.toList := rfl
theorem tt_near (s : ByteArray) (hs : s.size ≤ 64) (k : Nat) : Near (tt s k) (64 * k) := by
  have h1 := Tw.times_far s.data.toList k ⟨0, 0, 0⟩
  have h2 := Tw.times_k s.data.toList k ⟨0, 0, 0⟩ ⟨by decide, by decide⟩
  rw [bytes_len] at h1
  simp only [Int.sub_zero, Int.zero_sub] at h1
  have h3 : (k : Int) * (s.size : Int) ≤ (k : Int) * 64 := Int.mul_le_mul_of_nonneg_left (by omega) (by omega)
  unfold tt Near
  unfold tt at *
  omega
/-- What the iterator hands out. -/
def enc (s : ByteArray) (k : Nat) : Array Value := #[.int .i64 ((k : Int) + 1), .agg #[.int .i64 (tt s (k + 1)).x, .int .i64 (tt s (k + 1)).y, .int .i64 (tt s (k + 1)).k]]

theorem afterEach_any (s : ByteArray) (w : World) :
    Calls Tryd.prog 34 #[.string s] w fun e w' => e = .returned (.func (.func 48) #[] #[.pointer (some ⟨w.heap.size, 0, none⟩)]) ∧ w' = w.alloc (.cells #[.string s] 9) := by
  go_enter Tryd.func34, Tryd.ntmps34
  go_wp2
  go_ret
  exact ⟨rfl, rfl⟩

theorem tt_walk (s : ByteArray) (k : Nat) (w : World) (hd : Dirs w) (hn : Near (tt s k) 1000000) (hw : s.data.toList.all Tw.isW = true) (hs : s.size ≤ 1000) :
    Calls Tryd.prog 43 #[.agg #[.int .i64 (tt s k).x, .int .i64 (tt s k).y, .int .i64 (tt s k).k], .string s] w fun e w' => e = .returned (.agg #[.int .i64 (tt s (k + 1)).x, .int .i64 (tt s (k + 1)).y, .int .i64 (tt s (k + 1)).k]) ∧ Below w.heap.size w w' := walked_go (tt s k) s w hd hn hw hs

set_option maxHeartbeats 2000000 in
theorem each_counts (s : ByteArray) (n Bw N : Nat) (w : World) (hn : 3 ≤ n) (hN : N ≤ 1000) (hbw : w.cell? ⟨Bw, 0, none⟩ = some (.string s)) (hd : Dirs w) (hw : s.data.toList.all Tw.isW = true) (hs : s.size ≤ 64) :
    SeqCounts Fence.wide n Tryd.prog 48 #[.pointer (some ⟨Bw, 0, none⟩)] (enc s) N w := fun l J Jx W hwl hlW hbW hJ hJN hY h0 => by
  have hBw := cell_lt hbw
  have hDl := hd.lt
  have hW1 := (bcell hbW).1 Bw 0 hBw
  rw [hbw] at hW1
  have hDW := Dirs.below hbW hDl hd
  have HW := Lib.hid hw; clear hw
  have HY := Lib.hid hY; clear hY
  have HJ := Lib.hid hJ; clear hJ
  have HD := Lib.hid hDW; clear hDW hd hbw hbW
  refine callsIn_of_wp Tryd.func48 rfl trivial ?_ rfl
  simp only [Tryd.ntmps48, List.size_toArray, List.length_cons, List.length_nil, Nat.reduceAdd, Nat.reduceSub, Array.replicate_succ, Array.replicate_zero, List.push_toArray, List.append_toArray, List.nil_append, List.cons_append]
  gi_wp2
  gi_loopw [4] (fun i wr => ∃ k : Nat, i = .int .i64 ((k : Int) + 1) ∧ J k wr ∧ TCell wr W.heap.size (tt s k) ∧ wr.cell? ⟨Bw, 0, none⟩ = some (.string s) ∧ Hid (Dirs wr) ∧ W.heap.size < wr.heap.size) (fun i _ => N + 1 - (intOf i).toNat)
  case atStart =>
    exact ⟨0, rfl, (HJ.out 0) _ _ h0 (by go_grown), Cells3.new W _ _ _ _, ((bcell ((Below.refl _ W).alloc (Nat.le_refl _) _)).1 Bw 0 (cell_lt hW1)).trans hW1, Lib.hid (HD.out.same (by go_grown)), by simp⟩
  case round =>
    obtain ⟨k, rfl, hj, ht, hc, hDr, hsz⟩ := hrel
    have hkN := hJN k _ hj
    have hnr : Near (tt s k) 1000000 := (tt_near s hs k).mono (by omega)
    have HN := Lib.hid hnr; clear hnr
    have HT := Lib.hid ht
    have hlt := Cells3.lt ht
    have hbc := cell_lt hc
    obtain ⟨⟨ta, tb, tc⟩, td, te, tf⟩ := ht
    have HJr := Lib.hid hj; clear hj
    gi_wp2_with fail
    refine ⟨trivial, fun _ => by omega, ?_⟩
    refine (callsIn_wide.2 (tt_walk s k _ (by exact hDr.out) HN.out HW.out (by omega))).mono ?_
    rintro e w1 ⟨rfl, hb1⟩
    have hT1 : TCell w1 W.heap.size (tt s k) := Cells3.below (by exact HT.out) hb1 (by exact hlt)
    have hT2 : TCell _ W.heap.size (tt s (k + 1)) := Cells3.store hT1 (.int .i64 (tt s (k + 1)).x) (.int .i64 (tt s (k + 1)).y) (.int .i64 (tt s (k + 1)).k)
    have hBW : Below W.heap.size wr (((w1.setCell ⟨W.heap.size, 0, none⟩ (.int .i64 (tt s (k + 1)).x)).setCell ⟨W.heap.size, 1, none⟩ (.int .i64 (tt s (k + 1)).y)).setCell ⟨W.heap.size, 2, none⟩ (.int .i64 (tt s (k + 1)).k)) :=
      (((hb1.mono (by omega)).setCell (p := ⟨W.heap.size, 0, none⟩) (by simp) _).setCell (p := ⟨W.heap.size, 1, none⟩) (by simp) _).setCell (p := ⟨W.heap.size, 2, none⟩) (by simp) _
    have hJ2 := (HJ.out k) _ _ HJr.out hBW
    have hc2 := ((bcell hBW).1 Bw 0 (by omega)).trans hc
    have hD2 := Dirs.below hBW HD.out.lt hDr.out
    have hs2 := hBW.size
    have hlt2 := Cells3.lt hT2
    obtain ⟨⟨ta1, tb1, tc1⟩, td1, te1, tf1⟩ := hT1
    have HT2 := Lib.hid hT2
    obtain ⟨⟨ta2, tb2, tc2⟩, td2, te2, tf2⟩ := hT2
    obtain ⟨fn, tmps, assign, body, hy, hR⟩ := HY.out k _ hJ2
    dsimp only [enc] at hy
    have HD2 := Lib.hid hD2
    have HR := Lib.hid hR
    clear hD2 hBW hJ2 hR
    gi_wp2
    refine ⟨fun _ => by omega, ?_⟩
    refine HR.out.mono ?_
    rintro e W3 (⟨rfl, hJ3, hg3⟩ | ⟨rfl, hx⟩)
    · have hT3 := TCell.grown HT2.out hg3 (by omega)
      have hc3 := cell_grown hc2 hg3 (by omega)
      have hD3 := Dirs.grown HD2.out hg3 (by omega)
      have hs3 := hg3.size
      gi_wp2
      go_roundw
      case rel => exact ⟨k + 1, by go_num, hJ3, hT3, hc3, Lib.hid hD3, by omega⟩
      case measure => simp [intOf]; omega
    · gi_wp2
      refine bodyPost_ret (results_none rfl _ _ _) rfl ?_
      exact ⟨⟨_, rfl⟩, hx⟩
/-- Not yet home after 1 .. k times. -/
def noneYet (s : ByteArray) (k : Nat) : Prop := ∀ j, 1 ≤ j → j ≤ k → Tw.homeB (tt s j) = false
theorem noneYet_succ {s : ByteArray} {k : Nat} (h : noneYet s k) (h' : Tw.homeB (tt s (k + 1)) = false) : noneYet s (k + 1) := by
  intro j h1 h2
  by_cases e : j = k + 1
  · rw [e]; exact h'
  · exact h j h1 (by omega)
theorem rounds_first {s : ByteArray} {k : Nat} (hk : k < 4) (h : noneYet s k) (h' : Tw.homeB (tt s (k + 1)) = true) : Tw.rounds s.data.toList = (k : Int) + 1 := by
  have e : ∀ j, Tw.homeB (tt s j) = Tw.homeB (Tw.times s.data.toList j Tw.home) := fun _ => rfl
  unfold Tw.rounds
  rw [← e, ← e, ← e, ← e]
  match k, hk with
  | 0, _ => rw [h']; rfl
  | 1, _ => rw [h 1 (by omega) (by omega), h']; rfl
  | 2, _ => rw [h 1 (by omega) (by omega), h 2 (by omega) (by omega), h']; rfl
  | 3, _ => rw [h 1 (by omega) (by omega), h 2 (by omega) (by omega), h 3 (by omega) (by omega), h']; rfl
theorem rounds_none {s : ByteArray} (h : noneYet s 4) : Tw.rounds s.data.toList = 0 := by
  have e : ∀ j, Tw.homeB (tt s j) = Tw.homeB (Tw.times s.data.toList j Tw.home) := fun _ => rfl
  unfold Tw.rounds
  rw [← e, ← e, ← e, ← e, h 1 (by omega) (by omega), h 2 (by omega) (by omega), h 3 (by omega) (by omega), h 4 (by omega) (by omega)]; rfl
/-- What RoundsOf tells. -/
def roundsB (s : ByteArray) : Bool := twB s && decide (Tw.rounds s.data.toList ≠ 0)
def roundsN (s : ByteArray) : Int := if roundsB s then Tw.rounds s.data.toList else -1
def roundsV (s : ByteArray) : Value := .tuple #[.int .i64 (roundsN s), .bool (roundsB s)]
theorem roundsV_no {s : ByteArray} (h : twB s = false ∨ Tw.rounds s.data.toList = 0) : roundsV s = .tuple #[.int .i64 (-1), .bool false] := by
  have e : roundsB s = false := by
    unfold roundsB; rcases h with h | h
    · rw [h]; rfl
    · rw [h]; simp
  unfold roundsV roundsN; rw [e]; rfl
theorem roundsV_yes {s : ByteArray} {n : Int} (h : twB s = true) (hr : Tw.rounds s.data.toList = n) (hn : n ≠ 0) : roundsV s = .tuple #[.int .i64 n, .bool true] := by
  have e : roundsB s = true := by unfold roundsB; rw [h, hr]; simp [hn]
  unfold roundsV roundsN; rw [e, hr]; rfl

/-- Two blocks of one cell each, of the call's own. -/
def Two (W : World) (b : Nat) (v v' : Value) : Prop := W.cell? ⟨b, 0, none⟩ = some v ∧ W.frozen? ⟨b, 0, none⟩ = false ∧ W.cell? ⟨b + 1, 0, none⟩ = some v' ∧ W.frozen? ⟨b + 1, 0, none⟩ = false
theorem Two.below {A C : World} {b B : Nat} {v v' : Value} (h : Two A b v v') (hb : Below B A C) (hB : b + 1 < B) : Two C b v v' :=
  ⟨((bcell hb).1 b 0 (by omega)).trans h.1, ((bcell hb).2 b 0 (by omega)).trans h.2.1, ((bcell hb).1 (b + 1) 0 hB).trans h.2.2.1, ((bcell hb).2 (b + 1) 0 hB).trans h.2.2.2⟩

set_option maxRecDepth 100000 in
set_option maxHeartbeats 2000000 in
theorem roundsOf_impl (s : ByteArray) (w : World) (hd : Dirs w) (hs : s.size ≤ maxLen) :
    Calls Tryd.prog 16 #[.string s] w fun e w' => e = .returned (roundsV s) ∧ Below w.heap.size w w' := by
  have hc := fun w => turnWordOk_tw s w hs
  cases hb : twB s
  · rw [roundsV_no (.inl hb)]
    rw [hb] at hc
    have HC := Lib.hid hc; clear hc hb hd
    go_enter Tryd.func16, Tryd.ntmps16
    go_wp2_with (go_at_call 33; refine (HC.out _).mono ?_; rintro e w' ⟨rfl, rfl⟩)
    refine bodyPost_ret (v := .tuple #[.int .i64 (-1), .bool false]) (by simp [results, Tryd.results16, Tryd.f16, go_sem]) rfl ⟨rfl, by go_grown⟩
  · have hh := twB_word hb
    have hV1 := fun n h => roundsV_yes (n := n) hb h
    have hV0 := fun h => roundsV_no (s := s) (.inr h)
    have HV1 := Lib.hid hV1; have HV0 := Lib.hid hV0; clear hV1 hV0
    rw [hb] at hc
    have HC := Lib.hid hc; clear hc hb
    have HD := Lib.hid hd; clear hd
    refine (callsIn_wide (n := 6)).1 ?_
    refine callsIn_of_wp_marks Tryd.func16 rfl trivial ?_ rfl
    simp only [Tryd.ntmps16, List.size_toArray, List.length_cons, List.length_nil, Nat.reduceAdd, Nat.reduceSub, Array.replicate_succ, Array.replicate_zero, List.push_toArray, List.append_toArray, List.nil_append, List.cons_append]
    gi_wp2
    refine ⟨trivial, ?_⟩
    refine (callsIn_wide.2 (HC.out _)).mono ?_
    rintro e w1 ⟨rfl, rfl⟩
    gi_wp2
    refine ⟨trivial, ?_⟩
    refine (callsIn_wide.2 (afterEach_any s _)).mono ?_
    rintro e w1 ⟨rfl, rfl⟩
    gi_wp2
    have hB0 : Below w.heap.size w (((w.alloc (.cells #[.int .i64 0] 3)).alloc (.cells #[.bool false] 4)).alloc (.cells #[.string s] 9)) := by go_grown
    have hz : (((w.alloc (.cells #[.int .i64 0] 3)).alloc (.cells #[.bool false] 4)).alloc (.cells #[.string s] 9)).heap.size = w.heap.size + 3 := by simp
    have hr0 : Two (((w.alloc (.cells #[.int .i64 0] 3)).alloc (.cells #[.bool false] 4)).alloc (.cells #[.string s] 9)) w.heap.size (.int .i64 0) (.bool false) := by
      refine ⟨?_, ?_, ?_, ?_⟩ <;> simp [go_sem]
    have hbw : (((w.alloc (.cells #[.int .i64 0] 3)).alloc (.cells #[.bool false] 4)).alloc (.cells #[.string s] 9)).cell? ⟨w.heap.size + 1 + 1, 0, none⟩ = some (.string s) := by
      have := World.cell?_alloc_new (w := (w.alloc (.cells #[.int .i64 0] 3)).alloc (.cells #[.bool false] 4)) #[.string s] 9 0
      simpa using this
    generalize ((w.alloc (.cells #[.int .i64 0] 3)).alloc (.cells #[.bool false] 4)).alloc (.cells #[.string s] 9) = W0 at hB0 hz hr0 hbw ⊢
    have hD0 := HD.out.same hB0
    refine wpIn_rangeCounts (N := 4) rfl (by omega) (gf := 48) (lb := #[.pointer (some ⟨w.heap.size + 1 + 1, 0, none⟩)]) rfl trivial (enters_of Tryd.func48 (by kernel_rfl) rfl)
      (each_counts s 5 (w.heap.size + 1 + 1) 4 W0 (by omega) (by omega) hbw hD0 (wordB_all hh.1) hh.2) (fun _ => rfl)
      (fun k W => Two W w.heap.size (.int .i64 0) (.bool false) ∧ Below w.heap.size w W ∧ k < 4 ∧ noneYet s k)
      (fun c W => Below w.heap.size w W ∧ ((c = .ret ∧ ∃ n : Int, n ≠ 0 ∧ Tw.rounds s.data.toList = n ∧ Two W w.heap.size (.int .i64 n) (.bool true)) ∨ (c = .exit 0 ∧ Tw.rounds s.data.toList = 0 ∧ Two W w.heap.size (.int .i64 0) (.bool false))))
      (fun k A C h hb => ⟨h.1.below hb (by omega), h.2.1.trans (hb.mono (by omega)), h.2.2⟩)
      (fun c A C h hb => ⟨h.1.trans (hb.mono (by omega)), h.2.imp (fun ⟨h1, n, h2, h3, h4⟩ => ⟨h1, n, h2, h3, h4.below hb (by omega)⟩) (fun ⟨h1, h2, h3⟩ => ⟨h1, h2, h3.below hb (by omega)⟩)⟩)
      (fun k W h => h.2.2.1) ⟨hr0, hB0, by omega, fun j h1 h2 => by omega⟩ ?round ?stop
    case round =>
      rintro l k W hl0 hl1 ⟨hr, hB, hk, hn⟩
      dsimp only [enc]
      gi_wp2
      refine ⟨by go_grown, fun W3 hs3 hg3 hi3 => ?_⟩
      have hT : TCell W3 W.heap.size (tt s (k + 1)) := TCell.grown (Cells3.new W _ _ _ 23) hg3 (by omega)
      obtain ⟨⟨ta, tb, tc⟩, td, te, tf⟩ := hT
      obtain ⟨hr3, hB3, -, -⟩ := hi3
      have hr3' := hr3
      obtain ⟨ra, rb, rc, rd⟩ := hr3
      gi_wp2
      all_goals first
        | (refine ⟨(KeepsOthers.setCell _ _ _).trans (KeepsOthers.setCell _ _ _), (hB3.setCell (by simp) _).setCell (by simp) _, .inl ⟨rfl, _, ?_, rounds_first hk hn (by unfold Tw.homeB; rw [decide_eq_true_iff]; exact ⟨by assumption, by assumption, by assumption⟩), ?_⟩⟩
           · omega
           · refine ⟨?_, ?_, ?_, ?_⟩ <;> simp [go_sem, ra, rb, rc, rd])
        | (have hno : Tw.homeB (tt s (k + 1)) = false := by
             unfold Tw.homeB; rw [decide_eq_false_iff_not]; rintro ⟨a, b, c⟩; contradiction
           have h4 : ((k : Int) + 1 == 4) = true := by assumption
           have h4' : k + 1 = 4 := by have := eq_of_beq h4; omega
           exact ⟨KeepsOthers.refl _, hB3, .inr ⟨rfl, rounds_none (by have := noneYet_succ hn hno; rwa [h4'] at this), hr3'⟩⟩)
        | (have hno : Tw.homeB (tt s (k + 1)) = false := by
             unfold Tw.homeB; rw [decide_eq_false_iff_not]; rintro ⟨a, b, c⟩; contradiction
           have h4 : ((k : Int) + 1 == 4) = false := by assumption
           have h4' : k + 1 ≠ 4 := by intro e; have := ne_of_beq_false h4; omega
           exact ⟨Below.refl _ _, hr3', hB3, by omega, noneYet_succ hn hno⟩)
    case stop =>
      rintro D c W hD ⟨hB, (⟨rfl, n, hn0, hn, hr⟩ | ⟨rfl, hn, hr⟩)⟩ hK
      · have hv := HV1.out n hn hn0
        have hp : Below (w.heap.size + 2) W (W.putObj D (.deferred none)) := below_putObj W D _ (by omega) (Array.getElem?_eq_some_iff.1 hK).1
        obtain ⟨qa, qb, qc, qd⟩ := hr.below hp (by omega)
        obtain ⟨ra, rb, rc, rd⟩ := hr
        gi_wp2
        refine ⟨by simp, .inl ⟨_, _, rfl, run_takeDeferred hK, ?_⟩⟩
        refine ⟨.tuple #[.int .i64 n, .bool true], by simp [results, Tryd.results16, Tryd.f16, go_sem, qa, qc], ?_, hB.trans (hp.mono (by omega))⟩
        rw [hv]
      · have hv := HV0.out hn
        have hs2 : Two ((W.setCell ⟨w.heap.size, 0, none⟩ (.int .i64 (-1))).setCell ⟨w.heap.size + 1, 0, none⟩ (.bool false)) w.heap.size (.int .i64 (-1)) (.bool false) := by
          obtain ⟨ra, rb, rc, rd⟩ := hr
          refine ⟨?_, ?_, ?_, ?_⟩ <;> simp [go_sem, ra, rb, rc, rd]
        have hK2 := ((KeepsOthers.setCell W ⟨w.heap.size, 0, none⟩ (.int .i64 (-1))).trans (KeepsOthers.setCell _ ⟨w.heap.size + 1, 0, none⟩ (.bool false))).same D _ hK rfl
        have hp : Below (w.heap.size + 2) _ (((W.setCell ⟨w.heap.size, 0, none⟩ (.int .i64 (-1))).setCell ⟨w.heap.size + 1, 0, none⟩ (.bool false)).putObj D (.deferred none)) := below_putObj _ D _ (by omega) (Array.getElem?_eq_some_iff.1 hK2).1
        obtain ⟨qa, qb, qc, qd⟩ := hs2.below hp (by omega)
        have hB2 := (hB.setCell (p := ⟨w.heap.size, 0, none⟩) (by simp) (.int .i64 (-1))).setCell (p := ⟨w.heap.size + 1, 0, none⟩) (by simp) (.bool false)
        obtain ⟨ra, rb, rc, rd⟩ := hr
        gi_wp2
        refine ⟨by simp, .inl ⟨_, _, rfl, run_takeDeferred hK2, ?_⟩⟩
        refine ⟨.tuple #[.int .i64 (-1), .bool false], by simp [results, Tryd.results16, Tryd.f16, go_sem, qa, qc], ?_, hB2.trans (hp.mono (by omega))⟩
        rw [hv]
theorem keepsOthers_below {A C : World} (h : Below A.heap.size A C) : KeepsOthers A C := ⟨h.size, fun j o hj _ => (h.block j (Array.getElem?_eq_some_iff.1 hj).1).trans hj⟩
/-- What AfterTimes tells. -/
def afterB (s : ByteArray) (n : Int) : Bool := twB s && decide (0 ≤ n ∧ n ≤ 150)
def afterT (s : ByteArray) (n : Int) : Tw.Tu := if afterB s n then tt s n.toNat else ⟨0, 0, 0⟩
theorem after_no {s : ByteArray} {n : Int} (h : twB s = false ∨ ¬ (0 ≤ n ∧ n ≤ 150)) : afterB s n = false ∧ afterT s n = ⟨0, 0, 0⟩ := by
  have e : afterB s n = false := by
    unfold afterB; rcases h with h | h
    · rw [h]; rfl
    · rw [decide_eq_false h, Bool.and_false]
  exact ⟨e, by unfold afterT; rw [e]; rfl⟩
theorem after_yes {s : ByteArray} {n : Int} (h : twB s = true) (h' : 0 ≤ n ∧ n ≤ 150) : afterB s n = true ∧ afterT s n = tt s n.toNat := by
  have e : afterB s n = true := by unfold afterB; rw [h, decide_eq_true h']; rfl
  exact ⟨e, by unfold afterT; rw [e]; rfl⟩
/-- Four blocks of the call's own: a number, a turtle, a bool. -/
def Mem (W : World) (b : Nat) (n : Int) (x y z : Int) (v : Bool) : Prop :=
  (W.cell? ⟨b, 0, none⟩ = some (.int .i64 n) ∧ W.frozen? ⟨b, 0, none⟩ = false) ∧ Cells3 W (b + 1) (.int .i64 x) (.int .i64 y) (.int .i64 z) ∧ W.cell? ⟨b + 2, 0, none⟩ = some (.bool v) ∧ W.frozen? ⟨b + 2, 0, none⟩ = false
theorem Mem.below {A C : World} {b B : Nat} {n x y z : Int} {v : Bool} (h : Mem A b n x y z v) (hb : Below B A C) (hB : b + 2 < B) : Mem C b n x y z v :=
  ⟨⟨((bcell hb).1 b 0 (by omega)).trans h.1.1, ((bcell hb).2 b 0 (by omega)).trans h.1.2⟩, h.2.1.below hb (by omega), ((bcell hb).1 (b + 2) 0 (by omega)).trans h.2.2.1, ((bcell hb).2 (b + 2) 0 (by omega)).trans h.2.2.2⟩

set_option maxRecDepth 100000 in
set_option maxHeartbeats 2000000 in
theorem afterTimes_impl (s : ByteArray) (n : Int) (w : World) (hd : Dirs w) (hs : s.size ≤ maxLen) (hn : (Lit.int .i64 n).wf = true) :
    Calls Tryd.prog 20 #[.string s, .int .i64 n] w fun e w' => e = .returned (.tuple #[.agg #[.int .i64 (afterT s n).x, .int .i64 (afterT s n).y, .int .i64 (afterT s n).k], .bool (afterB s n)]) ∧ Below w.heap.size w w' := by
  have hc := fun w => turnWordOk_tw s w hs
  cases hb : twB s
  · obtain ⟨f1, f2⟩ := after_no (n := n) (.inl hb)
    rw [f1, f2]
    rw [hb] at hc
    have HC := Lib.hid hc; clear hc hb hd f1 f2
    go_enter Tryd.func20, Tryd.ntmps20
    go_wp2_with (go_at_call 33; refine (HC.out _).mono ?_; rintro e w' ⟨rfl, rfl⟩)
    refine bodyPost_ret (v := .tuple #[.agg #[.int .i64 0, .int .i64 0, .int .i64 0], .bool false]) (by simp [results, Tryd.results20, Tryd.f20, go_sem]) rfl ⟨rfl, by go_grown⟩
  · rw [hb] at hc
    by_cases h1 : n < 0
    · obtain ⟨f1, f2⟩ := after_no (s := s) (n := n) (.inr (by omega))
      rw [f1, f2]
      have HC := Lib.hid hc; clear hc hb hd f1 f2
      go_enter Tryd.func20, Tryd.ntmps20
      go_wp2_with (go_at_call 33; refine (HC.out _).mono ?_; rintro e w' ⟨rfl, rfl⟩)
      refine bodyPost_ret (v := .tuple #[.agg #[.int .i64 0, .int .i64 0, .int .i64 0], .bool false]) (by simp [results, Tryd.results20, Tryd.f20, go_sem]) rfl ⟨rfl, by go_grown⟩
    · by_cases h2 : 150 < n
      · obtain ⟨f1, f2⟩ := after_no (s := s) (n := n) (.inr (by omega))
        rw [f1, f2]
        have HC := Lib.hid hc; clear hc hb hd f1 f2
        go_enter Tryd.func20, Tryd.ntmps20
        go_wp2_with (go_at_call 33; refine (HC.out _).mono ?_; rintro e w' ⟨rfl, rfl⟩)
        refine bodyPost_ret (v := .tuple #[.agg #[.int .i64 0, .int .i64 0, .int .i64 0], .bool false]) (by simp [results, Tryd.results20, Tryd.f20, go_sem]) rfl ⟨rfl, by go_grown⟩
      · obtain ⟨f1, f2⟩ := after_yes (n := n) hb (by omega)
        rw [f1, f2]
        by_cases h0 : n = 0
        · subst h0
          have HC := Lib.hid hc; clear hc hb hd f1 f2
          go_enter Tryd.func20, Tryd.ntmps20
          go_wp2_with (go_at_call 33; refine (HC.out _).mono ?_; rintro e w' ⟨rfl, rfl⟩)
          refine bodyPost_ret (v := .tuple #[.agg #[.int .i64 0, .int .i64 0, .int .i64 0], .bool true]) (by simp [results, Tryd.results20, Tryd.f20, go_sem]) rfl ⟨rfl, by go_grown⟩
        · have hh := twB_word hb
          obtain ⟨m, rfl⟩ : ∃ m : Nat, n = m := ⟨n.toNat, by omega⟩
          simp only [Int.toNat_natCast]
          have hm0 : 0 < m := by omega
          have hm1 : m ≤ 150 := by omega
          have HC := Lib.hid hc; clear hc hb f1 f2
          have HD := Lib.hid hd; clear hd
          refine (callsIn_wide (n := 6)).1 ?_
          refine callsIn_of_wp_marks Tryd.func20 rfl trivial ?_ rfl
          simp only [Tryd.ntmps20, List.size_toArray, List.length_cons, List.length_nil, Nat.reduceAdd, Nat.reduceSub, Array.replicate_succ, Array.replicate_zero, List.push_toArray, List.append_toArray, List.nil_append, List.cons_append]
          gi_wp2
          refine ⟨trivial, ?_⟩
          refine (callsIn_wide.2 (HC.out _)).mono ?_
          rintro e w1 ⟨rfl, rfl⟩
          gi_wp2
          refine ⟨trivial, ?_⟩
          refine (callsIn_wide.2 (afterEach_any s _)).mono ?_
          rintro e w1 ⟨rfl, rfl⟩
          gi_wp2
          have hB0 : Below w.heap.size w ((((w.alloc (.cells #[.int .i64 m] 3)).alloc (.cells #[.int .i64 0, .int .i64 0, .int .i64 0] 23)).alloc (.cells #[.bool false] 4)).alloc (.cells #[.string s] 9)) := by go_grown
          have hz : ((((w.alloc (.cells #[.int .i64 m] 3)).alloc (.cells #[.int .i64 0, .int .i64 0, .int .i64 0] 23)).alloc (.cells #[.bool false] 4)).alloc (.cells #[.string s] 9)).heap.size = w.heap.size + 4 := by simp
          have hr0 : Mem ((((w.alloc (.cells #[.int .i64 m] 3)).alloc (.cells #[.int .i64 0, .int .i64 0, .int .i64 0] 23)).alloc (.cells #[.bool false] 4)).alloc (.cells #[.string s] 9)) w.heap.size m 0 0 0 false := by
            refine ⟨⟨?_, ?_⟩, ⟨⟨?_, ?_, ?_⟩, ?_, ?_, ?_⟩, ?_, ?_⟩ <;> simp [go_sem]
          have hbw : ((((w.alloc (.cells #[.int .i64 m] 3)).alloc (.cells #[.int .i64 0, .int .i64 0, .int .i64 0] 23)).alloc (.cells #[.bool false] 4)).alloc (.cells #[.string s] 9)).cell? ⟨w.heap.size + 1 + 1 + 1, 0, none⟩ = some (.string s) := by simp [go_sem]
          generalize (((w.alloc (.cells #[.int .i64 m] 3)).alloc (.cells #[.int .i64 0, .int .i64 0, .int .i64 0] 23)).alloc (.cells #[.bool false] 4)).alloc (.cells #[.string s] 9) = W0 at hB0 hz hr0 hbw ⊢
          have hD0 := HD.out.same hB0
          have hnr : Near (tt s m) 10000 := (tt_near s hh.2 m).mono (by omega)
          have hkk := tok_of' hnr
          refine wpIn_rangeCounts (N := m) rfl (by omega) (gf := 48) (lb := #[.pointer (some ⟨w.heap.size + 1 + 1 + 1, 0, none⟩)]) rfl trivial (enters_of Tryd.func48 (by kernel_rfl) rfl)
            (each_counts s 5 (w.heap.size + 1 + 1 + 1) m W0 (by omega) (by omega) hbw hD0 (wordB_all hh.1) hh.2) (fun _ => rfl)
            (fun k W => Mem W w.heap.size m 0 0 0 false ∧ Below w.heap.size w W ∧ k < m)
            (fun c W => Below w.heap.size w W ∧ c = .ret ∧ Mem W w.heap.size m (tt s m).x (tt s m).y (tt s m).k true)
            (fun k A C h hb => ⟨h.1.below hb (by omega), h.2.1.trans (hb.mono (by omega)), h.2.2⟩)
            (fun c A C h hb => ⟨h.1.trans (hb.mono (by omega)), h.2.1, h.2.2.below hb (by omega)⟩)
            (fun k W h => h.2.2) ⟨hr0, hB0, hm0⟩ ?round ?stop
          case round =>
            rintro l k W hl0 hl1 ⟨hr, hB, hk⟩
            dsimp only [enc]
            gi_wp2
            refine ⟨by go_grown, fun W3 hs3 hg3 hi3 => ?_⟩
            have hT : TCell W3 W.heap.size (tt s (k + 1)) := TCell.grown (Cells3.new W _ _ _ 23) hg3 (by omega)
            have hTl := Cells3.lt hT
            have HT := Lib.hid hT
            obtain ⟨⟨ta, tb, tc⟩, td, te, tf⟩ := hT
            obtain ⟨hr3, hB3, -⟩ := hi3
            have hr3' := Lib.hid hr3
            obtain ⟨⟨ra, rb⟩, ⟨⟨rc, rd, re⟩, rf, rg, rh⟩, ri, rj⟩ := hr3
            have hmx : Tryd.prog.follows .mixedOrders = true := by kernel_rfl
            gi_wp2
            · rename_i hkm _ _
              have e : m = k + 1 := by have := eq_of_beq hkm; omega
              have hok : ∀ w, Calls Tryd.prog 36 #[.agg #[.int .i64 (tt s (k + 1)).x, .int .i64 (tt s (k + 1)).y, .int .i64 (tt s (k + 1)).k]] w fun e w' => e = .returned (.bool true) ∧ Below w.heap.size w w' := by
                intro w
                have := turtleOk_impl (tt s (k + 1)).x (tt s (k + 1)).y (tt s (k + 1)).k w
                rw [e] at hkk
                have hkk' : Tw.tokB ⟨(tt s (k + 1)).x, (tt s (k + 1)).y, (tt s (k + 1)).k⟩ = true := hkk
                rwa [hkk'] at this
              have HOK := Lib.hid hok; clear hok
              gi_region_with_o (refine ⟨trivial, ?_⟩; gi_at_call 36; refine (CallsIn.inRound l (callsIn_wide.2 (HOK.out _))).mono ?_; rintro e w1 ⟨rfl, hb1⟩; obtain ⟨⟨ta1, tb1, tc1⟩, td1, te1, tf1⟩ := Cells3.below (by exact HT.out) hb1 (by exact hTl); obtain ⟨⟨ra1, rb1⟩, ⟨⟨rc1, rd1, re1⟩, rf1, rg1, rh1⟩, ri1, rj1⟩ := Mem.below (by exact hr3'.out) hb1 (by show _ < W3.heap.size; omega))
              all_goals gi_wp2
              all_goals
                refine ⟨((((((KeepsOthers.drew W3).trans (keepsOthers_below hb1)).trans (KeepsOthers.setCell _ _ _)).trans (KeepsOthers.setCell _ _ _)).trans (KeepsOthers.setCell _ _ _)).trans (KeepsOthers.setCell _ _ _)), ?_, rfl, ?_⟩
                · exact (((((hB3.drew).trans (hb1.mono (by exact hB3.size))).setCell (by simp) _).setCell (by simp) _).setCell (by simp) _).setCell (by simp; omega) _
                · rw [e]
                  refine ⟨⟨?_, ?_⟩, ⟨⟨?_, ?_, ?_⟩, ?_, ?_, ?_⟩, ?_, ?_⟩ <;> simp [go_sem, ra1, rb1, rc1, rd1, re1, rf1, rg1, rh1, ri1, rj1, (show (m : Int) = (k : Int) + 1 by omega)]
            · have hkm : ((k : Int) + 1 == (m : Int)) = false := by assumption
              exact ⟨Below.refl _ _, hr3'.out, hB3, by have := ne_of_beq_false hkm; omega⟩
          case stop =>
            rintro D c W hD ⟨hB, rfl, hr⟩ hK
            have hp : Below (w.heap.size + 4) W (W.putObj D (.deferred none)) := below_putObj W D _ (by omega) (Array.getElem?_eq_some_iff.1 hK).1
            obtain ⟨⟨qa, qb⟩, ⟨⟨qc, qd, qe⟩, qf, qg, qh⟩, qi, qj⟩ := hr.below hp (by omega)
            gi_wp2
            refine ⟨by simp, .inl ⟨_, _, rfl, run_takeDeferred hK, ?_⟩⟩
            refine ⟨.tuple #[.agg #[.int .i64 (tt s m).x, .int .i64 (tt s m).y, .int .i64 (tt s m).k], .bool true], by simp [results, Tryd.results20, Tryd.f20, go_sem, qc, qd, qe, qi], rfl, hB.trans (hp.mono (by omega))⟩
end Go.Proofs.YtdkhibkebakepaaDoor
