/- The program's deep and long of rows of parts. No condition but the size of the text. -/
import Derived.Test.YtaakgdjlbokopaaPi
import Derived.Handy
namespace Go.Proofs.Ytaakgdjlbokopaa
open Go.RowKit
open Tw (Row)
set_option linter.unusedVariables false
set_option linter.unusedSimpArgs false

/-- The parts of a row, one by one. -/
def pl : Row → List Row
  | .nil => []
  | .letter c r => .letter c .nil :: pl r
  | .times d i r => .times d i .nil :: pl r
def join : List Row → Row
  | [] => .nil
  | q :: l => Row.app q (join l)
theorem join_pl (r : Row) : join (pl r) = r := by
  induction r with
  | nil => rfl
  | letter c r ih => simp only [pl, join, Row.app, ih]
  | times d i r _ ih => simp only [pl, join, Row.app, ih]
theorem join_snoc (l : List Row) (q : Row) : join (l ++ [q]) = Row.app (join l) q := by
  induction l with
  | nil => simp only [List.nil_append, join, Row.app, Row.app_nil]
  | cons p l ih => simp only [List.cons_append, join, ih, Row.app_assoc]
/-- The first j parts. -/
def pj (r : Row) (j : Nat) : Row := join ((pl r).take j)
theorem pj_zero (r : Row) : pj r 0 = .nil := rfl
theorem pj_all (r : Row) : pj r (pl r).length = r := by unfold pj; rw [List.take_length, join_pl]
theorem pj_step (r : Row) (j : Nat) (q : Row) (h : (pl r)[j]? = some q) : pj r (j + 1) = Row.app (pj r j) q := by
  unfold pj
  rw [← join_snoc]
  congr 1
  obtain ⟨hj, rfl⟩ := List.getElem?_eq_some_iff.1 h
  rw [List.take_add_one, List.getElem?_eq_getElem hj]; rfl
theorem pl_kind (r : Row) : ∀ q, q ∈ pl r → (∃ c, q = .letter c .nil) ∨ ∃ d i, q = .times d i .nil ∧ (Row.text i).length < (Row.text r).length ∧ (Row.wf r = true → Row.isD d = true ∧ Row.wf i = true) := by
  induction r with
  | nil => intro q h; cases h
  | letter c r ih =>
    intro q h
    rcases List.mem_cons.1 h with rfl | h
    · exact .inl ⟨c, rfl⟩
    · rcases ih q h with h | ⟨d, i, h1, h2, h4⟩
      · exact .inl h
      · refine .inr ⟨d, i, h1, by simp only [Row.text, List.length_cons]; omega, fun hw => h4 ?_⟩
        simp only [Row.wf, Bool.and_eq_true] at hw; exact hw.2
  | times d i r ih1 ih2 =>
    intro q h
    rcases List.mem_cons.1 h with rfl | h
    · refine .inr ⟨d, i, rfl, by simp only [Row.text, List.length_cons, List.length_append]; omega, fun hw => ?_⟩
      simp only [Row.wf, Bool.and_eq_true] at hw; exact hw.1
    · rcases ih2 q h with h | ⟨d', i', h1, h2, h4⟩
      · exact .inl h
      · refine .inr ⟨d', i', h1, by simp only [Row.text, List.length_cons, List.length_append]; omega, fun hw => h4 ?_⟩
        simp only [Row.wf, Bool.and_eq_true] at hw; exact hw.2
theorem PV.at {w : World} {F : Nat → Prop} : ∀ (r : Row) (us : List Value), PV w F r us → us.length = (pl r).length ∧ ∀ (j : Nat) (q : Row), (pl r)[j]? = some q → ∃ u : Value, us[j]? = some u ∧ PV w F q [u] := by
  intro r
  induction r with
  | nil => intro us h; have : us = [] := h; subst this; exact ⟨rfl, fun j q h => by simp [pl] at h⟩
  | letter c r ih =>
    intro us h
    obtain ⟨us', rfl, h⟩ := h
    obtain ⟨h1, h2⟩ := ih _ h
    refine ⟨by simp [pl, h1], fun j q hq => ?_⟩
    cases j with
    | zero => simp only [pl, List.getElem?_cons_zero, Option.some.injEq] at hq; subst hq; exact ⟨_, rfl, [], rfl, rfl⟩
    | succ j => simp only [pl, List.getElem?_cons_succ] at hq ⊢; exact h2 j q hq
  | times d i r _ ih =>
    intro us h
    obtain ⟨us', p, cap, vs, rfl, hv, hi, h⟩ := h
    obtain ⟨h1, h2⟩ := ih _ h
    refine ⟨by simp [pl, h1], fun j q hq => ?_⟩
    cases j with
    | zero => simp only [pl, List.getElem?_cons_zero, Option.some.injEq] at hq; subst hq; exact ⟨_, rfl, [], p, cap, vs, rfl, hv, hi, rfl⟩
    | succ j => simp only [pl, List.getElem?_cons_succ] at hq ⊢; exact h2 j q hq
theorem deep_len (r : Row) : Row.deep r ≤ (Row.text r).length := by
  induction r with
  | nil => simp [Row.deep]
  | letter c r ih => simp only [Row.deep, Row.text, List.length_cons]; omega
  | times d i r ih1 ih2 => simp only [Row.deep, Row.text, List.length_cons, List.length_append]; omega
theorem pj_deep (r : Row) (j : Nat) : Row.deep (pj r j) ≤ Row.deep r := by
  have : r = Row.app (pj r j) (join ((pl r).drop j)) := by
    conv => lhs; rw [← join_pl r, ← List.take_append_drop j (pl r)]
    unfold pj
    generalize (pl r).take j = a
    generalize (pl r).drop j = b
    induction a with
    | nil => rfl
    | cons q a ih => simp only [List.cons_append, join, ih, Row.app_assoc]
  conv => rhs; rw [this]
  rw [Row.deep_app]; omega
theorem pl_len (r : Row) : (pl r).length ≤ (Row.text r).length := by
  induction r with
  | nil => simp [pl]
  | letter c r ih => simp only [pl, Row.text, List.length_cons]; omega
  | times d i r _ ih => simp only [pl, Row.text, List.length_cons, List.length_append]; omega
theorem RV.below {w w' : World} {F : Nat → Prop} {v : Value} {r : Row} (h : RV w F v r) (hb : Below w.heap.size w w') : RV w' F v r := h.turn (fun b hl hF => ⟨hb.block b hl, hF⟩)
theorem letter_deep (c : Int) (w : World) : Calls Try.prog 68 #[.int .u8 c] w fun e w' => e = .returned (.int .i64 0) ∧ w = w' := by
  go_enter Try.func68, Try.ntmps68
  go_wp2
  go_ret
  exact ⟨rfl, rfl⟩
theorem times_deep (m : Int) (v : Value) (x : Nat) (w : World) (hv : ∃ p n c, v = .slice p n c) (hx : x ≤ 60) (H : ∀ w', Below w.heap.size w w' → Calls Try.prog 42 #[v] w' fun e w'' => e = .returned (.int .i64 (x : Int)) ∧ Below w'.heap.size w' w'') :
    Calls Try.prog 71 #[.agg #[.int .i64 m, v]] w fun e w' => e = .returned (.int .i64 ((x : Int) + 1)) ∧ Below w.heap.size w w' := by
  obtain ⟨p, n, c, rfl⟩ := hv
  have HH := Lib.hid H; clear H
  go_enter Try.func71, Try.ntmps71
  go_wp2_with fail
  refine (HH.out _ (by go_grown)).mono ?_
  rintro e w2 ⟨rfl, hb2⟩
  have hB2 : Below w.heap.size w w2 := Below.up ((Below.refl _ w).alloc (Nat.le_refl _) _) (by simp) hb2
  go_wp2_with fail
  go_ret
  exact ⟨rfl, hB2⟩
set_option maxHeartbeats 2000000 in
set_option maxRecDepth 100000 in
theorem deep_any : ∀ (n : Nat) (r : Row), (Row.text r).length < n → (Row.text r).length ≤ 60 → ∀ (w : World) (F : Nat → Prop) (v : Value), RV w F v r → Calls Try.prog 42 #[v] w fun e w' => e = .returned (.int .i64 (Row.deep r : Int)) ∧ Below w.heap.size w w' := by
  intro n
  induction n with
  | zero => intro r h; omega
  | succ n ih =>
    intro r hr hlen w F v hrv
    obtain ⟨p, cap, us, rfl, hvs, hpv⟩ := id hrv
    obtain ⟨hul, hat⟩ := PV.at _ _ hpv
    have hdl := deep_len r
    have hpd := pj_deep r
    have HRV := Lib.hid hrv
    have HAT := Lib.hid hat
    have HVS := Lib.hid hvs
    have HPD := Lib.hid hpd
    have HIH := Lib.hid ih
    clear hrv hat hvs hpv hpd ih
    have hul60 : us.length ≤ 60 := by have := pl_len r; omega
    have HUL := Lib.hid hul
    clear hul
    go_enter Try.func42, Try.ntmps42
    go_wp2_with fail
    go_loopw [3, 8] (fun f i wr => ∃ j : Nat, j ≤ us.length ∧ i = .int .i64 (j : Int) ∧ f = .int .i64 (Row.deep (pj r j) : Int) ∧ Below w.heap.size w wr) (fun _ i _ => us.length - (intOf i).toNat)
    case atStart => exact ⟨0, by omega, rfl, rfl, Below.refl _ _⟩
    case round =>
      obtain ⟨j, hj, rfl, rfl, hB⟩ := hrel
      by_cases hjl : j < us.length
      · obtain ⟨q, hq⟩ : ∃ q, (pl r)[j]? = some q := ⟨_, List.getElem?_eq_getElem (by have := HUL.out; omega)⟩
        obtain ⟨u, hu, hpu⟩ := HAT.out j q hq
        obtain ⟨g, rfl, hF, hc0⟩ := HVS.out j u hu
        have hc := ((bcell hB).1 g j (cell_lt hc0)).trans hc0
        have hst := congrArg Row.deep (pj_step r j q hq)
        rw [Row.deep_app] at hst
        have hd1 := HPD.out j
        have hqm := pl_kind r q (List.mem_of_getElem? hq)
        rcases hqm with ⟨c, rfl⟩ | ⟨d, i, rfl, hil, -⟩
        · obtain ⟨us', e, -⟩ := hpu
          obtain rfl : u = .iface 69 (.int .u8 (c.toNat : Int)) := (List.cons.inj e).1
          have h0 : Row.deep (.letter c .nil) = 0 := rfl
          rw [h0] at hst
          generalize Row.deep (pj r j) = x at *
          have HST := Lib.hid hst
          clear hst hq e h0 hc0
          go_wp2_with (go_at_call 68; refine (letter_deep _ _).mono ?_; rintro e w' ⟨rfl, rfl⟩)
          exact ⟨⟨j + 1, by omega, by go_num, by rw [HST.out, Nat.max_eq_left (Nat.zero_le _)], hB⟩, by simp [intOf]; omega⟩
        · obtain ⟨us', p', cap', vs, e, hv', hi', -⟩ := hpu
          obtain rfl : u = _ := (List.cons.inj e).1
          have hrv' : RV w F (.slice p' vs.length cap') i := ⟨p', cap', vs, rfl, hv', hi'⟩
          have hdi := deep_len i
          have hcall := times_deep (Row.num d : Int) (.slice p' vs.length cap') (Row.deep i) wr ⟨_, _, _, rfl⟩ (by omega) (fun w' hb' => HIH.out i (by omega) (by omega) w' F _ ((hrv'.below hB).below (by exact hb')))
          have h0 : Row.deep (.times d i .nil) = Row.deep i + 1 := by simp only [Row.deep]; omega
          rw [h0] at hst
          have HCall := Lib.hid hcall
          have hdi2 : Row.deep i ≤ 60 := by omega
          generalize Row.deep (pj r j) = x at *
          generalize Row.deep i = y at *
          have HST := Lib.hid hst
          clear hst hq e h0 hc0 hcall hrv' hv' hi'
          go_wp2_with (go_at_call 71; refine HCall.out.mono ?_; rintro e w2 ⟨rfl, hb2⟩)
          have hB2 := Below.up hB hB.size hb2
          refine ⟨⟨j + 1, by omega, by go_num, int_eq ?_, hB2⟩, by simp [intOf]; omega⟩
          rw [HST.out]
          split <;> omega
      · obtain rfl : j = us.length := by omega
        go_wp2_with fail
        go_ret
        exact ⟨by rw [HUL.out, pj_all]; rfl, hB⟩
open Classical in
/-- How deep a program is; -1 for others. -/
noncomputable def deepV (s : ByteArray) : Int := if h : ∃ r, Row.Prog s.data.toList r then (Row.deep h.choose : Int) else -1
theorem deepV_yes {s : ByteArray} {r : Row} (h : Row.Prog s.data.toList r) : deepV s = (Row.deep r : Int) := by
  unfold deepV
  rw [dif_pos ⟨r, h⟩, Row.prog_one (Exists.choose_spec ⟨r, h⟩) h]
theorem deepV_no {s : ByteArray} (h : ¬ ∃ r, Row.Prog s.data.toList r) : deepV s = -1 := dif_neg h
theorem prog_len {s : ByteArray} {r : Row} (h : Row.Prog s.data.toList r) : (Row.text r).length ≤ 60 := by rw [← h.2.2]; exact h.1
set_option maxHeartbeats 1000000 in
theorem deepOf_impl (s : ByteArray) (w : World) (hs : s.size ≤ maxLen) : Calls Try.prog 24 #[.string s] w fun e w' => e = .returned (.int .i64 (deepV s)) ∧ Below w.heap.size w w' := by
  have HR := Lib.hid (readProgram_any s w hs)
  go_enter Try.func24, Try.ntmps24
  go_wp2_with fail
  refine HR.out.mono ?_
  rintro e w1 ⟨hv, hB1⟩
  rcases hv with ⟨r, v, hr, rfl, hrv⟩ | ⟨hn, rfl⟩
  · have HV := Lib.hid (deepV_yes hr)
    have HD := Lib.hid (deep_any _ r (Nat.lt_succ_self _) (prog_len hr) w1 _ v hrv)
    clear hr hrv
    go_wp2_with fail
    refine HD.out.mono ?_
    rintro e w2 ⟨rfl, hb2⟩
    have hB2 := Below.up hB1 hB1.size hb2
    go_wp2_with fail
    go_ret
    exact ⟨by rw [HV.out]; rfl, hB2⟩
  · have HV := Lib.hid (deepV_no hn)
    clear hn
    go_wp2_with fail
    go_ret
    exact ⟨by rw [HV.out]; rfl, hB1⟩
/-- The scan of the first k signs. -/
def scanK (s : ByteArray) (k : Nat) : Int × Int := (s.data.toList.take k).foldl Row.scan (0, 0)
theorem scanK_step (s : ByteArray) (k : Nat) (h : k < s.size) : scanK s (k + 1) = Row.scan (scanK s k) s[k] := by
  unfold scanK; rw [take_snoc s k h, List.foldl_append]; rfl
theorem scanK_bd (s : ByteArray) (k : Nat) (h : k ≤ s.size) : -(k : Int) ≤ (scanK s k).1 ∧ (scanK s k).1 ≤ k ∧ 0 ≤ (scanK s k).2 ∧ (scanK s k).2 ≤ k := by
  induction k with
  | zero => simp [scanK]
  | succ k ih =>
    have := ih (by omega)
    rw [scanK_step s k (by omega)]
    unfold Row.scan
    simp only
    (repeat' split) <;> omega
theorem scanK_all {s : ByteArray} {r : Row} (h : Row.Prog s.data.toList r) : (scanK s s.size).2 = (Row.deep r : Int) := by
  unfold scanK
  rw [take_all, h.2.2, Row.scan_text r 0 0 h.2.1 (by omega)]
  simp only
  omega
set_option maxHeartbeats 1000000 in
theorem deepOf_spec (s : ByteArray) (w : World) (hs : s.size ≤ maxLen) : Calls Try.prog 23 #[.string s] w fun e w' => e = .returned (.int .i64 (deepV s)) ∧ w = w' := by
  have hp := fun w => programOk_spec s w hs
  have HP := Lib.hid hp; clear hp
  unfold maxLen at hs
  go_enter Try.func23, Try.ntmps23
  go_wp2_with fail
  go_loop [3, 4, 5] (fun d m i => ∃ k : Nat, k ≤ s.size ∧ i = .int .i64 (k : Int) ∧ d = .int .i64 (scanK s k).1 ∧ m = .int .i64 (scanK s k).2) (fun _ _ i => s.size - (intOf i).toNat)
  case atStart => exact ⟨0, by omega, rfl, rfl, rfl⟩
  case round =>
    obtain ⟨k, hk, rfl, rfl, rfl⟩ := hrel
    by_cases hlt : k < s.size
    · have hb := byte_le s[k]
      obtain ⟨b0, b1, b2, b3⟩ := scanK_bd s k hk
      have hst := scanK_step s k hlt
      unfold Row.scan at hst
      simp only [is40, is41] at hst
      have HST := Lib.hid hst; clear hst
      generalize scanK s k = dm at *
      obtain ⟨d, m⟩ := dm
      simp only at b0 b1 b2 b3
      by_cases h40 : (s[k].toNat : Int) = 40
      · have g40 : ((s[k].toNat : Int) == 40) = true := by simpa using h40
        go_wp2_with fail
        refine ⟨⟨k + 1, by omega, by go_num, int_eq ?_, int_eq ?_⟩, by simp [intOf]; omega⟩
        · rw [HST.out]; simp [h40]
        · rw [HST.out]; simp only [h40, if_true]; (try split) <;> omega
      · have g40 : ((s[k].toNat : Int) == 40) = false := by simpa using h40
        by_cases h41 : (s[k].toNat : Int) = 41
        · have g41 : ((s[k].toNat : Int) == 41) = true := by simpa using h41
          go_wp2_with fail
          refine ⟨⟨k + 1, by omega, by go_num, int_eq ?_, int_eq ?_⟩, by simp [intOf]; omega⟩
          · rw [HST.out]; simp only [h40, h41, if_true, if_false]; (try split) <;> omega
          · rw [HST.out]; simp only [h40, h41, if_true, if_false]; (repeat' split) <;> omega
        · have g41 : ((s[k].toNat : Int) == 41) = false := by simpa using h41
          go_wp2_with fail
          refine ⟨⟨k + 1, by omega, by go_num, int_eq ?_, int_eq ?_⟩, by simp [intOf]; omega⟩
          · rw [HST.out]; simp only [h40, h41, if_false]
          · rw [HST.out]; simp only [h40, h41, if_false]; (try split) <;> omega
    · obtain rfl : k = s.size := by omega
      cases hpv : progV s
      · have hp := HP.out
        rw [hpv] at hp
        have HP2 := Lib.hid hp
        have HV := Lib.hid (deepV_no (fun h => by rw [(progV_iff s).2 h] at hpv; cases hpv))
        clear hpv hp
        go_wp2_with (go_at_call 19; refine (HP2.out _).mono ?_; rintro e w' ⟨rfl, rfl⟩)
        go_ret
        exact ⟨by rw [HV.out]; rfl, rfl⟩
      · have hp := HP.out
        rw [hpv] at hp
        have HP2 := Lib.hid hp
        obtain ⟨r, hr⟩ := (progV_iff s).1 hpv
        have hv := deepV_yes hr
        rw [← scanK_all hr] at hv
        have HV := Lib.hid hv
        clear hpv hp hr hv
        go_wp2_with (go_at_call 19; refine (HP2.out _).mono ?_; rintro e w' ⟨rfl, rfl⟩)
        go_ret
        exact ⟨by rw [HV.out]; rfl, rfl⟩
theorem law_FnExactDeepOf (s : ByteArray) (w : World) (hs : s.size ≤ maxLen) : Calls Try.prog 6 #[.string s] w fun e w' => e = .returned (.bool true) ∧ Below w.heap.size w w' := by
  have h1 := fun w => deepOf_spec s w hs
  have h2 := fun w => deepOf_impl s w hs
  generalize deepV s = b at h1 h2
  have H1 := Lib.hid h1; clear h1
  have H2 := Lib.hid h2; clear h2
  unfold maxLen at hs
  go_enter Try.func6, Try.ntmps6
  go_wp2_with fail
  · go_ret
    exact ⟨rfl, Below.refl _ _⟩
  · refine (H1.out _).mono ?_
    rintro e w2 ⟨rfl, rfl⟩
    go_wp2_with fail
    refine (H2.out _).mono ?_
    rintro e w4 ⟨rfl, hb4⟩
    go_wp2_with fail
    all_goals
      go_ret
      exact ⟨rfl, hb4⟩
end Go.Proofs.Ytaakgdjlbokopaa
