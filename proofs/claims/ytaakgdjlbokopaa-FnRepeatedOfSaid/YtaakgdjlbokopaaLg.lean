/- The program's long of rows of parts; LongOf. No condition. -/
import Derived.Test.YtaakgdjlbokopaaDp
import Derived.Test.YtaakgdjlbokopaaPeel
namespace Go.Proofs.Ytaakgdjlbokopaa
open Go.RowKit
open Tw (Row)
set_option linter.unusedVariables false
set_option linter.unusedSimpArgs false

theorem letter_long (c : Int) (w : World) : Calls Try.prog 69 #[.int .u8 c] w fun e w' => e = .returned (.int .i64 1) ∧ w = w' := by
  go_enter Try.func69, Try.ntmps69
  go_wp2
  go_ret
  exact ⟨rfl, rfl⟩
theorem cap_le (n : Nat) : Row.cap n ≤ 1000000 := by unfold Row.cap; omega
set_option maxRecDepth 100000 in
theorem times_long (m : Nat) (v : Value) (x : Nat) (w : World) (hv : ∃ p n c, v = .slice p n c) (hm : m ≤ 9) (hx : x ≤ 1000000) (H : ∀ w', Below w.heap.size w w' → Calls Try.prog 37 #[v] w' fun e w'' => e = .returned (.int .i64 (x : Int)) ∧ Below w'.heap.size w' w'') :
    Calls Try.prog 72 #[.agg #[.int .i64 (m : Int), v]] w fun e w' => e = .returned (.int .i64 (Row.cap (m * x) : Int)) ∧ Below w.heap.size w w' := by
  obtain ⟨p, n, c, rfl⟩ := hv
  have HH := Lib.hid H; clear H
  have hmx : m * x ≤ 9 * 1000000 := Nat.mul_le_mul hm hx
  have hmi : (0 : Int) ≤ (m : Int) * (x : Int) := Int.mul_nonneg (by omega) (by omega)
  have hmj : (m : Int) * (x : Int) ≤ 9000000 := by have : ((m * x : Nat) : Int) ≤ 9000000 := by omega
                                                   simpa using this
  have hwm : IntKind.i64.wrap ((m : Int) * (x : Int)) = (m : Int) * (x : Int) := IntWalk.i64_in _ (by omega)
  have hcap : (if (1000000 : Int) < (m : Int) * (x : Int) then (1000000 : Int) else (m : Int) * (x : Int)) = (Row.cap (m * x) : Int) := by
    have e : ((m : Int) * (x : Int)) = ((m * x : Nat) : Int) := by simp
    rw [e]; unfold Row.cap
    split <;> omega
  have HC := Lib.hid hcap; clear hcap hmx
  go_enter Try.func72, Try.ntmps72
  go_wp2_with fail
  have hB1 : Below w.heap.size w (w.alloc (.cells #[.int .i64 (m : Int), .slice p n c] 71)) := (Below.refl _ w).alloc (Nat.le_refl _) _
  have hc0 : (w.alloc (.cells #[.int .i64 (m : Int), .slice p n c] 71)).cell? ⟨w.heap.size, 0, none⟩ = some (.int .i64 (m : Int)) := by rw [World.cell?_alloc_new]; rfl
  have hc1 : (w.alloc (.cells #[.int .i64 (m : Int), .slice p n c] 71)).cell? ⟨w.heap.size, 1, none⟩ = some (.slice p n c) := by rw [World.cell?_alloc_new]; rfl
  have hz : w.heap.size < (w.alloc (.cells #[.int .i64 (m : Int), .slice p n c] 71)).heap.size := by simp
  generalize w.alloc (.cells #[.int .i64 (m : Int), .slice p n c] 71) = wa at *
  refine wp_region_peel (n := 7) (S := fun w' => w'.cell? ⟨w.heap.size, 0, none⟩ = some (.int .i64 (m : Int)) ∧ w'.cell? ⟨w.heap.size, 1, none⟩ = some (.slice p n c)) (by kernel_rfl) (lasts_of (by kernel_rfl)) ⟨hc0, hc1⟩ (fun hHeld => ?_)
  refine wpAnyH_take (i := 0) (v := ?_) rfl (by kernel_rfl) (by kernel_rfl) (by kernel_rfl) (fun _ _ _ h => h) (Or.inl ⟨by rfl, ?_⟩) (by assumption) ?_
  rotate_left
  · intro w hSw; (try dsimp only at hSw); go_simp; try with_reducible rfl
  try simp only [Act.put, List.setIfInBounds_toArray, List.set_cons_zero, List.set_cons_succ, List.getElem_toArray, List.getElem_cons_zero, List.getElem_cons_succ]
  refine wpAnyH_take (i := 1) (v := ?_) rfl (by kernel_rfl) (by kernel_rfl) (by kernel_rfl) (fun _ _ _ h => h) (Or.inl ⟨by rfl, ?_⟩) (by assumption) ?_
  rotate_left
  · intro w hSw; (try dsimp only at hSw); go_simp; try with_reducible rfl
  try simp only [Act.put, List.setIfInBounds_toArray, List.set_cons_zero, List.set_cons_succ, List.getElem_toArray, List.getElem_cons_zero, List.getElem_cons_succ]
  refine wpAnyH_take (i := 2) (v := ?_) rfl (by kernel_rfl) (by kernel_rfl) (by kernel_rfl) (fun _ _ _ h => h) (Or.inl ⟨by rfl, ?_⟩) (by assumption) ?_
  rotate_left
  · intro w hSw; (try dsimp only at hSw); go_simp; try with_reducible rfl
  try simp only [Act.put, List.setIfInBounds_toArray, List.set_cons_zero, List.set_cons_succ, List.getElem_toArray, List.getElem_cons_zero, List.getElem_cons_succ]
  refine wpAnyH_take (i := 3) (v := ?_) rfl (by kernel_rfl) (by kernel_rfl) (by kernel_rfl) (fun _ _ _ h => h) (Or.inl ⟨by rfl, ?_⟩) (by assumption) ?_
  rotate_left
  · intro w hSw; (try dsimp only at hSw); go_simp; try with_reducible rfl
  try simp only [Act.put, List.setIfInBounds_toArray, List.set_cons_zero, List.set_cons_succ, List.getElem_toArray, List.getElem_cons_zero, List.getElem_cons_succ]
  refine wpAnyH_ready (rs := [4]) (by kernel_rfl) (by simp) ?_
  refine AllReadyH.cons rfl (fun K hK => ?_) AllReadyH.nil
  go_simp
  refine (HH.out _ (by exact hB1.drew)).mono ?_
  rintro e w2 ⟨rfl, hb2⟩
  have h1 : w2.cell? ⟨w.heap.size, 0, none⟩ = some (.int .i64 (m : Int)) := ((bcell hb2).1 w.heap.size 0 (by exact hz)).trans hc0
  have h2 : w2.cell? ⟨w.heap.size, 1, none⟩ = some (.slice p n c) := ((bcell hb2).1 w.heap.size 1 (by exact hz)).trans hc1
  have hB2 : Below w.heap.size w w2 := Below.up (by exact hB1.drew) (by exact hB1.size) hb2
  try go_wp2_with fail
  refine hK.out _ _ ⟨h1, h2⟩ (fun hHeld => ?_)
  clear hK K
  try simp only [Act.put, List.setIfInBounds_toArray, List.set_cons_zero, List.set_cons_succ]
  refine wpAnyH_take (i := 5) (v := ?_) rfl (by kernel_rfl) (by kernel_rfl) (by kernel_rfl) (fun _ _ _ h => h) (Or.inl ⟨by rfl, ?_⟩) (by assumption) ?_
  rotate_left
  · intro w hSw; (try dsimp only at hSw); go_simp; try with_reducible rfl
  try simp only [Act.put, List.setIfInBounds_toArray, List.set_cons_zero, List.set_cons_succ, List.getElem_toArray, List.getElem_cons_zero, List.getElem_cons_succ]
  refine wpAnyH_take (i := 6) (v := ?_) rfl (by kernel_rfl) (by kernel_rfl) (by kernel_rfl) (fun _ _ _ h => h) (Or.inl ⟨by rfl, ?_⟩) (by assumption) ?_
  rotate_left
  · intro w hSw; (try dsimp only at hSw); go_simp; try with_reducible rfl
  try simp only [Act.put, List.setIfInBounds_toArray, List.set_cons_zero, List.set_cons_succ, List.getElem_toArray, List.getElem_cons_zero, List.getElem_cons_succ]
  rw [HC.out]
  obtain ⟨y, hy⟩ : ∃ y : Int, (Row.cap (m * x) : Int) = y := ⟨_, rfl⟩
  rw [hy]
  have HY := Lib.hid hy
  clear hwm hmi hmj hy HC
  generalize (m : Int) * (x : Int) = z
  refine wpAnyH_done (by kernel_rfl) ?_ _
  refine peel_here ?_
  refine wpOp_step rfl (fun K hK => ?_)
  go_simp
  refine hK _ _ ?_
  go_wp2_with fail
  go_ret
  exact ⟨by rw [HY.out]; rfl, hB2⟩
theorem cap_app (p q : Row) : Row.cap (Row.size (Row.app p q)) = Row.cap (Row.cap (Row.size p) + Row.cap (Row.size q)) := by rw [Row.size_app, Row.cap_add2]
theorem cap_num (d : UInt8) (i : Row) (h : Row.isD d = true) : Row.cap (Row.size (.times d i .nil)) = Row.cap (Row.num d * Row.cap (Row.size i)) := by
  have h2 := Row.num_ge d h
  rw [Row.cap_mul _ _ (by omega)]
  show Row.cap (Row.num d * Row.size i + 0) = _
  rfl
set_option maxHeartbeats 2000000 in
set_option maxRecDepth 100000 in
theorem long_any : ∀ (n : Nat) (r : Row), (Row.text r).length < n → (Row.text r).length ≤ 60 → Row.wf r = true → ∀ (w : World) (F : Nat → Prop) (v : Value), RV w F v r → Calls Try.prog 37 #[v] w fun e w' => e = .returned (.int .i64 (Row.cap (Row.size r) : Int)) ∧ Below w.heap.size w w' := by
  intro n
  induction n with
  | zero => intro r h; omega
  | succ n ih =>
    intro r hr hlen hwf w F v hrv
    obtain ⟨p, cap, us, rfl, hvs, hpv⟩ := id hrv
    obtain ⟨hul, hat⟩ := PV.at _ _ hpv
    have hcl := fun j => cap_le (Row.size (pj r j))
    have HRV := Lib.hid hrv
    have HAT := Lib.hid hat
    have HVS := Lib.hid hvs
    have HCL := Lib.hid hcl
    have HIH := Lib.hid ih
    have HWF := Lib.hid hwf
    clear hrv hat hvs hpv hcl ih hwf
    have hul60 : us.length ≤ 60 := by have := pl_len r; omega
    have HUL := Lib.hid hul
    clear hul
    go_enter Try.func37, Try.ntmps37
    go_wp2_with fail
    go_loopw [3, 8] (fun f i wr => ∃ j : Nat, j ≤ us.length ∧ i = .int .i64 (j : Int) ∧ f = .int .i64 (Row.cap (Row.size (pj r j)) : Int) ∧ Below w.heap.size w wr) (fun _ i _ => us.length - (intOf i).toNat)
    case atStart => exact ⟨0, by omega, rfl, rfl, Below.refl _ _⟩
    case round =>
      obtain ⟨j, hj, rfl, rfl, hB⟩ := hrel
      by_cases hjl : j < us.length
      · obtain ⟨q, hq⟩ : ∃ q, (pl r)[j]? = some q := ⟨_, List.getElem?_eq_getElem (by have := HUL.out; omega)⟩
        obtain ⟨u, hu, hpu⟩ := HAT.out j q hq
        obtain ⟨g, rfl, hF, hc0⟩ := HVS.out j u hu
        have hc := ((bcell hB).1 g j (cell_lt hc0)).trans hc0
        have hst := congrArg (fun x => Row.cap (Row.size x)) (pj_step r j q hq)
        simp only [cap_app] at hst
        have hd1 := HCL.out j
        have hqm := pl_kind r q (List.mem_of_getElem? hq)
        rcases hqm with ⟨c, rfl⟩ | ⟨d, i, rfl, hil, hdw⟩
        · obtain ⟨us', e, -⟩ := hpu
          obtain rfl : u = .iface 69 (.int .u8 (c.toNat : Int)) := (List.cons.inj e).1
          have h0 : Row.cap (Row.size (.letter c .nil)) = 1 := rfl
          rw [h0] at hst
          generalize Row.cap (Row.size (pj r j)) = x at *
          have HST := Lib.hid hst
          clear hst hq e h0 hc0
          go_wp2_with (go_at_call 69; refine (letter_long _ _).mono ?_; rintro e w' ⟨rfl, rfl⟩)
          refine ⟨⟨j + 1, by omega, by go_num, int_eq ?_, hB⟩, by simp [intOf]; omega⟩
          rw [HST.out]
          unfold Row.cap
          split <;> omega
        · obtain ⟨us', p', cap', vs, e, hv', hi', -⟩ := hpu
          obtain rfl : u = _ := (List.cons.inj e).1
          have hdw2 := hdw HWF.out
          have hrv' : RV w F (.slice p' vs.length cap') i := ⟨p', cap', vs, rfl, hv', hi'⟩
          have hci := cap_le (Row.size i)
          have hnd := Row.num_ge d hdw2.1
          have hcall := times_long (Row.num d) (.slice p' vs.length cap') (Row.cap (Row.size i)) wr ⟨_, _, _, rfl⟩ hnd.2 hci (fun w' hb' => HIH.out i (by omega) (by omega) hdw2.2 w' F _ ((hrv'.below hB).below (by exact hb')))
          rw [cap_num d i hdw2.1] at hst
          have HCall := Lib.hid hcall
          have hcy := cap_le (Row.num d * Row.cap (Row.size i))
          generalize Row.cap (Row.num d * Row.cap (Row.size i)) = y at *
          generalize Row.cap (Row.size (pj r j)) = x at *
          have HST := Lib.hid hst
          clear hst hq e hc0 hcall hrv' hv' hi' hdw hdw2
          go_wp2_with (go_at_call 72; refine HCall.out.mono ?_; rintro e w2 ⟨rfl, hb2⟩)
          have hB2 := Below.up hB hB.size hb2
          refine ⟨⟨j + 1, by omega, by go_num, int_eq ?_, hB2⟩, by simp [intOf]; omega⟩
          rw [HST.out]
          unfold Row.cap
          split <;> omega
      · obtain rfl : j = us.length := by omega
        go_wp2_with fail
        go_ret
        exact ⟨by rw [HUL.out, pj_all]; rfl, hB⟩
open Classical in
/-- How long the word of a program is; -1 for others. -/
noncomputable def longV (s : ByteArray) : Int := if h : ∃ r, Row.Prog s.data.toList r then (Row.cap (Row.size h.choose) : Int) else -1
theorem longV_yes {s : ByteArray} {r : Row} (h : Row.Prog s.data.toList r) : longV s = (Row.cap (Row.size r) : Int) := by
  unfold longV
  rw [dif_pos ⟨r, h⟩, Row.prog_one (Exists.choose_spec ⟨r, h⟩) h]
theorem longV_no {s : ByteArray} (h : ¬ ∃ r, Row.Prog s.data.toList r) : longV s = -1 := dif_neg h
set_option maxHeartbeats 1000000 in
theorem longOf_impl (s : ByteArray) (w : World) (hs : s.size ≤ maxLen) : Calls Try.prog 26 #[.string s] w fun e w' => e = .returned (.int .i64 (longV s)) ∧ Below w.heap.size w w' := by
  have HR := Lib.hid (readProgram_any s w hs)
  go_enter Try.func26, Try.ntmps26
  go_wp2_with fail
  refine HR.out.mono ?_
  rintro e w1 ⟨hv, hB1⟩
  rcases hv with ⟨r, v, hr, rfl, hrv⟩ | ⟨hn, rfl⟩
  · have HV := Lib.hid (longV_yes hr)
    have HD := Lib.hid (long_any _ r (Nat.lt_succ_self _) (prog_len hr) hr.2.1 w1 _ v hrv)
    clear hr hrv
    go_wp2_with fail
    refine HD.out.mono ?_
    rintro e w2 ⟨rfl, hb2⟩
    have hB2 := Below.up hB1 hB1.size hb2
    go_wp2_with fail
    go_ret
    exact ⟨by rw [HV.out]; rfl, hB2⟩
  · have HV := Lib.hid (longV_no hn)
    clear hn
    go_wp2_with fail
    go_ret
    exact ⟨by rw [HV.out]; rfl, hB1⟩
end Go.Proofs.Ytaakgdjlbokopaa
