/- LongOf of the reference; the law FnExactLongOf answers true. No condition. -/
import Derived.Test.YtaakgdjlbokopaaLg
namespace Go.Proofs.Ytaakgdjlbokopaa
open Go.RowKit
open Tw (Row)
set_option linter.unusedVariables false
set_option linter.unusedSimpArgs false

theorem quiet_of_drew {P : Program} {f : FuncId} {args : Array Value} {w : World} {n : Nat} {v : Value} (h : Calls P f args (w.drewN n) fun e w' => e = .returned v ∧ ∃ m, w' = (w.drewN n).drewN m) :
    Calls P f args (w.drewN n) fun e w'' => e = .returned v ∧ ∃ m, w'' = w.drewN m :=
  h.mono fun e w' ⟨he, m, hm⟩ => ⟨he, n + m, by rw [hm, World.drewN_drewN]⟩
def LongPost (r : Row) (w : World) (e : Ending) (w' : World) : Prop := e = .returned (.int .i64 (Row.cap (Row.size r) : Int)) ∧ ∃ m, w' = w.drewN m
/-- The rest of a row behind what has been read. -/
theorem rest_of {s : ByteArray} {k : Nat} {p r : Row} (h : Read s 0 k p) (hr : s.data.toList = Row.text r) (hw : Row.wf r = true) : ∃ q, r = Row.app p q ∧ Row.wf q = true ∧ from_ s k = Row.text q := by
  have h1 : Row.text p ++ from_ s k = Row.text r ++ [] := by rw [List.append_nil, ← hr, ← from_zero]; exact h.is.symm
  obtain ⟨q, e1, e2, e3⟩ := Row.strip p r (from_ s k) [] h.wf hw Row.stop_nil h1
  exact ⟨q, e1, e2, by rw [e3, List.append_nil]⟩
/-- Where a bracket that stands there closes. -/
theorem end_is {s : ByteArray} {a : Nat} {v : Int} {i q : Row} (h : EndIs s a v) (hi : Row.wf i = true) (ht : from_ s a = Row.text i ++ 41 :: Row.text q) (ha : a ≤ s.size) :
    ∃ m : Nat, v = m ∧ m < s.size ∧ Read s a m i ∧ from_ s m = 41 :: Row.text q := by
  have hrd : Row.Rd (from_ s a) i (41 :: Row.text q) := ⟨hi, Row.stop_close _, ht⟩
  rcases h with ⟨m, i', hm, hst, rfl⟩ | ⟨hn, -⟩
  · obtain ⟨rfl, e⟩ := Row.rd_one (hm.done hst) hrd
    refine ⟨m, rfl, ?_, hm, e⟩
    rcases Nat.lt_or_ge m s.size with h | h
    · exact h
    · have : m = s.size := by have := hm.le; omega
      rw [this, from_end] at e
      cases e
  · exact absurd hrd (hn _ _)
theorem ext_text {s : ByteArray} {a m : Nat} {i : Row} (h : Read s a m i) (ha : a ≤ s.size) : (s.extract a m).data.toList = Row.text i := by
  have hl := h.len ha
  rw [ByteArray.data_extract, Array.toList_extract]
  show ((s.data.toList.drop a).take (m - a)) = _
  have e : s.data.toList.drop a = Row.text i ++ from_ s m := h.is
  rw [e, show m - a = (Row.text i).length by omega, List.take_left]
set_option maxHeartbeats 2000000 in
set_option maxRecDepth 100000 in
theorem l2Long_any : ∀ (n : Nat) (r : Row), (Row.text r).length < n → ∀ (s : ByteArray) (w : World), s.data.toList = Row.text r → Row.wf r = true → s.size ≤ 60 → Calls Try.prog 40 #[.string s] w (LongPost r w) := by
  intro n
  induction n with
  | zero => intro r h; omega
  | succ n ih =>
    intro r hr s w hsr hwf hs
    have HIH := Lib.hid ih
    have HSR := Lib.hid hsr
    have HWF := Lib.hid hwf
    clear ih hsr hwf
    go_enter Try.func40, Try.ntmps40
    go_wp2_with fail
    go_loopw [3, 4, 5] (fun f i y wr => ∃ (k : Nat) (p : Row), k ≤ s.size ∧ i = .int .i64 (k : Int) ∧ f = .int .i64 (Row.cap (Row.size p) : Int) ∧ Hid (Read s 0 k p) ∧ ∃ m, wr = w.drewN m) (fun _ i _ _ => s.size - (intOf i).toNat)
    case atStart => exact ⟨0, .nil, by omega, rfl, rfl, Lib.hid (Read.start (by omega)), 0, rfl⟩
    case round =>
      obtain ⟨k, p, hk, rfl, rfl, HR, m0, hm0⟩ := hrel
      have HM := Lib.hid hm0; clear hm0
      obtain ⟨q, hq, hqw, hqt⟩ := rest_of HR.out HSR.out HWF.out
      have hcp := cap_le (Row.size p)
      cases q with
      | nil =>
        have hks : k = s.size := by
          have := congrArg List.length hqt
          rw [from_len] at this
          simp [Row.text] at this
          omega
        subst hks
        rw [Row.app_nil] at hq
        subst hq
        clear hqw hqt
        generalize hx : Row.cap (Row.size r) = x at *
        have HX := Lib.hid hx; clear hx
        go_wp2_with fail
        go_ret
        exact ⟨by rw [HX.out]; rfl, m0, HM.out⟩
      | letter c q' =>
        have hlt : k < s.size := by
          rcases Nat.lt_or_ge k s.size with h | h
          · exact h
          · rw [show k = s.size by omega, from_end] at hqt; cases hqt
        have hc : s[k] = c := by rw [from_cons s k hlt] at hqt; exact (List.cons.inj hqt).1
        have hW : Tw.isW s[k] = true := by
          simp only [Row.wf, Bool.and_eq_true] at hqw
          rw [hc]; exact hqw.1
        have HR2 := Lib.hid (HR.out.letter hlt hW)
        have hw := (isW_num s[k]).1 hW
        have hst : Row.cap (Row.size (Row.app p (.letter s[k] .nil))) = Row.cap (Row.cap (Row.size p) + 1) := by rw [cap_app]; rfl
        have y50 : 50 ≤ (s[k].toNat : Int) := by omega
        have n57 : ¬ (s[k].toNat : Int) ≤ 57 := by omega
        generalize Row.cap (Row.size p) = x at *
        have HST := Lib.hid hst
        clear hq hqw hqt hc hW hw hst
        go_wp2_with fail
        refine ⟨⟨k + 1, _, by omega, by go_num, int_eq ?_, HR2, m0, HM.out⟩, by simp [intOf]; omega⟩
        rw [HST.out]
        unfold Row.cap
        (try split) <;> omega
      | times d i q' =>
        have hlt : k < s.size := by
          rcases Nat.lt_or_ge k s.size with h | h
          · exact h
          · rw [show k = s.size by omega, from_end] at hqt; cases hqt
        rw [from_cons s k hlt] at hqt
        have hc : s[k] = d := (List.cons.inj hqt).1
        have ht1 := (List.cons.inj hqt).2
        have hlt1 : k + 1 < s.size := by
          rcases Nat.lt_or_ge (k + 1) s.size with h | h
          · exact h
          · rw [show k + 1 = s.size by omega, from_end] at ht1; cases ht1
        rw [from_cons s (k + 1) hlt1] at ht1
        have h40 : s[k + 1] = 40 := (List.cons.inj ht1).1
        have ht2 : from_ s (k + 2) = Row.text i ++ 41 :: Row.text q' := (List.cons.inj ht1).2
        simp only [Row.wf, Bool.and_eq_true] at hqw
        obtain ⟨⟨hD, hiw⟩, hqw'⟩ := hqw
        rw [← hc] at hD
        have hd := (isD_num s[k]).1 hD
        obtain ⟨h50, h57⟩ := hd
        have hE := Lib.hid (fun w => l2End_any s hs s.size (k + 2) w (by omega) (by omega))
        have e2 : ((k + 2 : Nat) : Int) = (k : Int) + 2 := by omega
        rw [e2] at hE
        have HD := Lib.hid hD
        have H40 := Lib.hid h40
        have HT2 := Lib.hid ht2
        have hil : (Row.text i).length < n := by
          have := congrArg List.length HSR.out
          rw [bytes_len] at this
          have h3 := congrArg List.length ht2
          rw [from_len, List.length_append] at h3
          simp only [List.length_cons] at h3
          omega
        have hnd := Row.num_ge s[k] hD
        have hnum := num_int s[k] hD
        clear hq hqt ht1 h40 ht2 hc hqw'
        go_wp2_with fail
        refine (hE.out _).mono ?_
        rintro e w' ⟨⟨v, rfl, hv⟩, rfl⟩
        obtain ⟨m, rfl, hml, hmr, hmt⟩ := end_is hv hiw HT2.out (by omega)
        have h41 : s[m] = 41 := by rw [from_cons s m hml] at hmt; exact (List.cons.inj hmt).1
        have HR2 := Lib.hid (HR.out.times hlt hlt1 HD.out H40.out hmr hml h41)
        have hkm := hmr.len (by omega)
        have hxt := ext_text hmr (by omega)
        have hxs : (s.extract (k + 2) m).size ≤ 60 := by rw [ByteArray.size_extract]; omega
        have hkm2 : k + 2 ≤ m := by omega
        clear hkm
        have hcall := fun w => HIH.out i hil (s.extract (k + 2) m) w hxt hiw hxs
        have hsl : ∀ wx, (Instr.slice 9 (.string s) (some (.int .i64 ((k : Int) + 2))) (some (.int .i64 (m : Int))) none).run Try.prog wx = .ok (.string (s.extract (k + 2) m)) wx := fun wx => by
          have := run_slice_string (P := Try.prog) wx 9 s .i64 .i64 ((k : Int) + 2) (m : Int) Try.underlying9 (by omega) (by omega) (by omega)
          have e1 : ((k : Int) + 2).toNat = k + 2 := by omega
          rw [e1] at this
          simpa using this
        have hst : Row.cap (Row.size (Row.app p (.times s[k] i .nil))) = Row.cap (Row.cap (Row.size p) + Row.cap (Row.num s[k] * Row.cap (Row.size i))) := by rw [cap_app, cap_num _ _ HD.out]
        have hci := cap_le (Row.size i)
        have HST := Lib.hid hst
        unfold LongPost at hcall
        have HCall := Lib.hid hcall
        generalize s.extract (k + 2) m = sx at *
        clear hv hmr hmt h41 hxt hxs hst hcall
        generalize Row.cap (Row.size p) = x at *
        generalize Row.cap (Row.size i) = y at *
        have hu8 : IntKind.u8.wrap ((s[k].toNat : Int) - 48) = (Row.num s[k] : Int) := by rw [IntKind.wrap_u8, hnum]; omega
        clear hnum
        generalize Row.num s[k] = nd at *
        have hzb : nd * y ≤ 9 * 1000000 := Nat.mul_le_mul hnd.2 hci
        have hzi : (nd : Int) * (y : Int) = ((nd * y : Nat) : Int) := by simp
        generalize nd * y = z at *
        have hw1 : IntKind.i64.wrap (nd : Int) = (nd : Int) := IntWalk.i64_in _ (by omega)
        have hw2 : IntKind.i64.wrap (z : Int) = (z : Int) := IntWalk.i64_in _ (by omega)
        have hw3 : IntKind.i64.wrap ((x : Int) + (z : Int)) = (x : Int) + (z : Int) := IntWalk.i64_in _ (by omega)
        have hw4 : IntKind.i64.wrap ((k : Int) + 2) = (k : Int) + 2 := IntWalk.i64_in _ (by omega)
        go_wp2_with fail
        go_quiet (first | (go_at_call 40; refine quiet_of_drew (HCall.out _)))
        have hif : (if (x : Int) + (z : Int) < 1000000 then (x : Int) + (z : Int) else 1000000) = ((Row.cap (x + Row.cap z) : Nat) : Int) := by
          unfold Row.cap
          split <;> omega
        rw [hif, ← HST.out]
        clear hzi hw1 hw2 hw3 hw4 hif
        go_wp2_with fail
        exact ⟨⟨m + 1, _, by omega, by go_num, rfl, HR2, _, by rw [HM.out, World.drewN_drewN]⟩, by simp [intOf]; omega⟩
theorem longOf_spec (s : ByteArray) (w : World) (hs : s.size ≤ maxLen) : Calls Try.prog 27 #[.string s] w fun e w' => e = .returned (.int .i64 (longV s)) ∧ Below w.heap.size w w' := by
  have hp := fun w => programOk_spec s w hs
  cases hpv : progV s
  · rw [hpv] at hp
    have HP2 := Lib.hid hp
    have HV := Lib.hid (longV_no (fun h => by rw [(progV_iff s).2 h] at hpv; cases hpv))
    clear hpv hp
    go_enter Try.func27, Try.ntmps27
    go_wp2_with (go_at_call 19; refine (HP2.out _).mono ?_; rintro e w' ⟨rfl, rfl⟩)
    go_ret
    exact ⟨by rw [HV.out]; rfl, Below.refl _ _⟩
  · rw [hpv] at hp
    have HP2 := Lib.hid hp
    obtain ⟨r, hr⟩ := (progV_iff s).1 hpv
    have HV := Lib.hid (longV_yes hr)
    have h60 : s.size ≤ 60 := by rw [← bytes_len]; exact hr.1
    have HL := Lib.hid (fun w => l2Long_any _ r (Nat.lt_succ_self _) s w hr.2.2 hr.2.1 h60)
    clear hpv hp hr
    go_enter Try.func27, Try.ntmps27
    go_wp2_with (go_at_call 19; refine (HP2.out _).mono ?_; rintro e w' ⟨rfl, rfl⟩)
    refine (HL.out _).mono ?_
    rintro e w2 ⟨rfl, m, rfl⟩
    go_wp2_with fail
    go_ret
    exact ⟨by rw [HV.out]; rfl, below_drewN (Below.refl _ _) _⟩
theorem law_FnExactLongOf (s : ByteArray) (w : World) (hs : s.size ≤ maxLen) : Calls Try.prog 9 #[.string s] w fun e w' => e = .returned (.bool true) ∧ Below w.heap.size w w' := by
  have h1 := fun w => longOf_spec s w hs
  have h2 := fun w => longOf_impl s w hs
  generalize longV s = b at h1 h2
  have H1 := Lib.hid h1; clear h1
  have H2 := Lib.hid h2; clear h2
  unfold maxLen at hs
  go_enter Try.func9, Try.ntmps9
  go_wp2_with fail
  · go_ret
    exact ⟨rfl, Below.refl _ _⟩
  · refine (H1.out _).mono ?_
    rintro e w2 ⟨rfl, hb2⟩
    go_wp2_with fail
    refine (H2.out _).mono ?_
    rintro e w4 ⟨rfl, hb4⟩
    have hB4 := Below.up hb2 hb2.size hb4
    go_wp2_with fail
    all_goals
      go_ret
      exact ⟨rfl, hB4⟩
end Go.Proofs.Ytaakgdjlbokopaa
