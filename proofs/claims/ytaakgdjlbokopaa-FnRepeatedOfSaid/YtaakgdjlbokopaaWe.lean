/- WordFor of the program and of the reference; the law FnExactWordFor answers true. No condition. -/
import Derived.Test.YtaakgdjlbokopaaWd
import Derived.Test.YtaakgdjlbokopaaLh
namespace Go.Proofs.Ytaakgdjlbokopaa
open Go.RowKit
open Tw (Row)
set_option linter.unusedVariables false
set_option linter.unusedSimpArgs false

theorem pl_size (r : Row) : ∀ q, q ∈ pl r → Row.size q ≤ Row.size r := by
  induction r with
  | nil => intro q h; cases h
  | letter c r ih =>
    intro q h
    rcases List.mem_cons.1 h with rfl | h
    · simp only [Row.size]; omega
    · have := ih q h; simp only [Row.size]; omega
  | times d i r _ ih =>
    intro q h
    rcases List.mem_cons.1 h with rfl | h
    · simp only [Row.size]; omega
    · have := ih q h; simp only [Row.size]; omega
theorem pj_size (r : Row) (j : Nat) : Row.size (pj r j) ≤ Row.size r := by
  have : r = Row.app (pj r j) (join ((pl r).drop j)) := by
    conv => lhs; rw [← join_pl r, ← List.take_append_drop j (pl r)]
    unfold pj
    generalize (pl r).take j = a
    generalize (pl r).drop j = b
    induction a with
    | nil => rfl
    | cons q a ih => simp only [List.cons_append, join, ih, Row.app_assoc]
  conv => rhs; rw [this]
  rw [Row.size_app]; omega
theorem times_size (d : UInt8) (i : Row) (h : Row.isD d = true) : Row.size i ≤ Row.size (.times d i .nil) := by
  have := Row.num_ge d h
  show Row.size i ≤ Row.num d * Row.size i + 0
  have h2 : 1 * Row.size i ≤ Row.num d * Row.size i := Nat.mul_le_mul_right _ (by omega)
  omega
theorem pl_wf (r : Row) (hw : Row.wf r = true) : ∀ q, q ∈ pl r → Row.wf q = true := by
  induction r with
  | nil => intro q h; cases h
  | letter c r ih =>
    simp only [Row.wf, Bool.and_eq_true] at hw
    intro q h
    rcases List.mem_cons.1 h with rfl | h
    · simp [Row.wf, hw.1]
    · exact ih hw.2 q h
  | times d i r _ ih =>
    simp only [Row.wf, Bool.and_eq_true] at hw
    intro q h
    rcases List.mem_cons.1 h with rfl | h
    · simp [Row.wf, hw.1]
    · exact ih hw.2 q h
theorem cells_app (a b : List UInt8) : Lib.byteCells a ++ Lib.strCells (bs b) = Lib.byteCells (a ++ b) := by
  show Lib.byteCells a ++ Lib.byteCells b = _
  unfold Lib.byteCells; rw [List.map_append]
set_option maxHeartbeats 2000000 in
set_option maxRecDepth 100000 in
theorem rowWord_any : ∀ (n : Nat) (r : Row), (Row.text r).length < n → (Row.text r).length ≤ 60 → Row.wf r = true → Row.size r ≤ 256 → ∀ (w : World) (F : Nat → Prop) (v : Value), RV w F v r → Calls Try.prog 38 #[v] w fun e w' => e = .returned (.string (bs (Row.word r))) ∧ Below w.heap.size w w' := by
  intro n
  induction n with
  | zero => intro r h; omega
  | succ n ih =>
    intro r hr hlen hwf hsz w F v hrv
    obtain ⟨p, cap, us, rfl, hvs, hpv⟩ := id hrv
    obtain ⟨hul, hat⟩ := PV.at _ _ hpv
    have HRV := Lib.hid hrv
    have HAT := Lib.hid hat
    have HVS := Lib.hid hvs
    have HIH := Lib.hid ih
    have HWF := Lib.hid hwf
    have HPS := Lib.hid (pj_size r)
    clear hrv hat hvs hpv ih hwf
    have hul60 : us.length ≤ 60 := by have := pl_len r; omega
    have HUL := Lib.hid hul
    clear hul
    go_enter Try.func38, Try.ntmps38
    go_wp2_with fail
    have hb0 := Lib.fresh_isBuilder 61 5 w
    have hB0 : Below w.heap.size w (w.alloc (.cells #[.pointer none, .slice none 0 0] 61)) := (Below.refl _ w).alloc (Nat.le_refl _) _
    go_loopw [8] (fun i wr => ∃ j : Nat, j ≤ us.length ∧ i = .int .i64 (j : Int) ∧ Hid (Lib.IsBuilder 61 5 w.heap.size w.heap.size (Lib.byteCells (Row.word (pj r j))) wr) ∧ Below w.heap.size w wr) (fun i _ => us.length - (intOf i).toNat)
    case atStart => exact ⟨0, by omega, rfl, Lib.hid hb0, hB0⟩
    case round =>
      obtain ⟨j, hj, rfl, HBu, hB⟩ := hrel
      have hz := hB.size
      by_cases hjl : j < us.length
      · obtain ⟨q, hq⟩ : ∃ q, (pl r)[j]? = some q := ⟨_, List.getElem?_eq_getElem (by have := HUL.out; omega)⟩
        obtain ⟨u, hu, hpu⟩ := HAT.out j q hq
        obtain ⟨g, rfl, hF, hc0⟩ := HVS.out j u hu
        have hc := ((bcell hB).1 g j (cell_lt hc0)).trans hc0
        have hst := congrArg Row.word (pj_step r j q hq)
        rw [Row.word_app] at hst
        have hps := HPS.out j
        have hwl := Row.word_len (pj r j)
        have hql := pl_size r q (List.mem_of_getElem? hq)
        have hqw := Row.word_len q
        have hqm := pl_kind r q (List.mem_of_getElem? hq)
        rcases hqm with ⟨c, rfl⟩ | ⟨d, i, rfl, hil, hdw⟩
        · obtain ⟨us', e, -⟩ := hpu
          obtain rfl : u = .iface 69 (.int .u8 (c.toNat : Int)) := (List.cons.inj e).1
          have hcw : Tw.isW c = true := by
            have := pl_wf r HWF.out _ (List.mem_of_getElem? hq)
            simp only [Row.wf, Bool.and_true] at this
            exact this
          have h0 : Row.word (.letter c .nil) = [c] := rfl
          rw [h0] at hst
          have HST := Lib.hid hst
          have HLw := Lib.hid (letter_word c wr hcw)
          have hbl : (Lib.byteCells (Row.word (pj r j))).length + (bs [c]).size ≤ 140737488355328 := by rw [Lib.byteCells_length, hwl, bs_size]; simp; omega
          have HBL := Lib.hid hbl
          clear hst hq e h0 hc0 hwl hqw hql hbl
          go_wp2_with fail
          refine HLw.out.mono ?_
          rintro e w' ⟨rfl, rfl⟩
          go_wp2_with fail
          refine (writeString_any _ _ _ _ _ HBu.out HBL.out hz).mono ?_
          rintro e w2 ⟨rfl, hb2, hBb⟩
          rw [cells_app, ← HST.out] at hb2
          have HB2 : Hid (Lib.IsBuilder 61 5 w.heap.size w.heap.size (Lib.byteCells (Row.word (pj r (j + 1)))) w2) := Lib.hid (.inr hb2)
          have hB2 := hB.trans hBb
          clear hb2 hBb
          go_wp2_with fail
          exact ⟨⟨j + 1, by omega, by go_num, HB2, hB2⟩, by simp [intOf]; omega⟩
        · obtain ⟨us', p', cap', vs, e, hv', hi', -⟩ := hpu
          obtain rfl : u = _ := (List.cons.inj e).1
          have hdw2 := hdw HWF.out
          have hrv' : RV w F (.slice p' vs.length cap') i := ⟨p', cap', vs, rfl, hv', hi'⟩
          have hnd := Row.num_ge d hdw2.1
          have his := times_size d i hdw2.1
          have hcall := times_word (Row.num d) (.slice p' vs.length cap') (Row.word i) wr ⟨_, _, _, rfl⟩ hnd.2 (by rw [Row.word_len]; omega) (fun w' hb' => HIH.out i (by omega) (by omega) hdw2.2 (by omega) w' F _ ((hrv'.below hB).below (by exact hb')))
          have h0 : Row.word (.times d i .nil) = Row.reps (Row.word i) (Row.num d) := by show Row.reps (Row.word i) (Row.num d) ++ [] = _; rw [List.append_nil]
          rw [h0] at hst hqw
          have hbl : (Lib.byteCells (Row.word (pj r j))).length + (bs (Row.reps (Row.word i) (Row.num d))).size ≤ 140737488355328 := by rw [Lib.byteCells_length, hwl, bs_size, hqw]; omega
          have HCall := Lib.hid hcall
          have HST := Lib.hid hst
          have HBL := Lib.hid hbl
          clear hst hq e hc0 hcall hrv' hv' hi' hdw hdw2 h0 hwl hqw hql hbl his
          go_wp2_with fail
          refine HCall.out.mono ?_
          rintro e w1 ⟨rfl, hb1⟩
          have hB1 := Below.up hB hB.size hb1
          have HBu1 := Lib.hid (builder_below HBu.out hb1)
          have hz1 := hB1.size
          go_wp2_with fail
          refine (writeString_any _ _ _ _ _ HBu1.out HBL.out hz1).mono ?_
          rintro e w2 ⟨rfl, hb2, hBb⟩
          rw [cells_app, ← HST.out] at hb2
          have HB2 : Hid (Lib.IsBuilder 61 5 w.heap.size w.heap.size (Lib.byteCells (Row.word (pj r (j + 1)))) w2) := Lib.hid (.inr hb2)
          have hB2 := hB1.trans hBb
          clear hb2 hBb
          go_wp2_with fail
          exact ⟨⟨j + 1, by omega, by go_num, HB2, hB2⟩, by simp [intOf]; omega⟩
      · obtain rfl : j = us.length := by omega
        have hbu := HBu.out
        rw [HUL.out, pj_all] at hbu
        have HBu2 := Lib.hid hbu
        clear hbu
        go_wp2_with fail
        refine (string_any _ _ _ _ HBu2.out hz).mono ?_
        rintro e w2 ⟨rfl, hb2⟩
        have hB2 := hB.trans hb2
        go_wp2_with fail
        go_ret
        exact ⟨rfl, hB2⟩
end Go.Proofs.Ytaakgdjlbokopaa
