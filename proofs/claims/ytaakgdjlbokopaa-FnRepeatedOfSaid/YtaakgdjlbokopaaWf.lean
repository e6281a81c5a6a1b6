/- WordFor of the program and of the reference; the law FnExactWordFor answers true. No condition. -/
import Derived.Test.YtaakgdjlbokopaaWe
namespace Go.Proofs.Ytaakgdjlbokopaa
open Go.RowKit
open Tw (Row)
set_option linter.unusedVariables false
set_option linter.unusedSimpArgs false

/-- Is the word told? -/
noncomputable def wdB (s : ByteArray) : Bool := decide (0 ≤ longV s ∧ longV s ≤ 256)
open Classical in
/-- The word of a program, if it is told. -/
noncomputable def wdT (s : ByteArray) : ByteArray := if h : ∃ r, Row.Prog s.data.toList r ∧ Row.size r ≤ 256 then bs (Row.word h.choose) else bs []
theorem wdT_yes {s : ByteArray} {r : Row} (h : Row.Prog s.data.toList r) (hs : Row.size r ≤ 256) : wdT s = bs (Row.word r) := by
  unfold wdT
  rw [dif_pos ⟨r, h, hs⟩, Row.prog_one (Exists.choose_spec (p := fun r => Row.Prog s.data.toList r ∧ Row.size r ≤ 256) ⟨r, h, hs⟩).1 h]
theorem wdT_no {s : ByteArray} (h : ¬ ∃ r, Row.Prog s.data.toList r ∧ Row.size r ≤ 256) : wdT s = bs [] := dif_neg h
theorem wdB_yes {s : ByteArray} {r : Row} (h : Row.Prog s.data.toList r) (hs : Row.size r ≤ 256) : wdB s = true := by
  unfold wdB; rw [longV_yes h, decide_eq_true_iff]; unfold Row.cap; omega
theorem wdB_big {s : ByteArray} {r : Row} (h : Row.Prog s.data.toList r) (hs : 256 < Row.size r) : wdB s = false := by
  unfold wdB; rw [longV_yes h, decide_eq_false_iff_not]; unfold Row.cap; omega
theorem wdB_no {s : ByteArray} (h : ¬ ∃ r, Row.Prog s.data.toList r) : wdB s = false := by
  unfold wdB; rw [longV_no h, decide_eq_false_iff_not]; omega
theorem wdT_big {s : ByteArray} {r : Row} (h : Row.Prog s.data.toList r) (hs : 256 < Row.size r) : wdT s = bs [] := wdT_no (fun ⟨r', h', hs'⟩ => by
  have := Row.prog_one h h'
  subst this; omega)
theorem wdT_none {s : ByteArray} (h : ¬ ∃ r, Row.Prog s.data.toList r) : wdT s = bs [] := wdT_no (fun ⟨r', h', _⟩ => h ⟨r', h'⟩)
def ToldPost (s : ByteArray) (t : ByteArray) (b : Bool) (w : World) (e : Ending) (w' : World) : Prop := e = .returned (.tuple #[.string t, .bool b]) ∧ Below w.heap.size w w'
theorem cap_256 {n : Nat} (h : n ≤ 256) : Row.cap n ≤ 256 := by unfold Row.cap; omega
theorem cap_big {n : Nat} (h : 256 < n) : 256 < Row.cap n := by unfold Row.cap; omega
set_option maxHeartbeats 1000000 in
theorem wordFor_impl (s : ByteArray) (w : World) (hs : s.size ≤ maxLen) : Calls Try.prog 17 #[.string s] w (ToldPost s (wdT s) (wdB s) w) := by
  have HR := Lib.hid (readProgram_any s w hs)
  unfold ToldPost
  go_enter Try.func17, Try.ntmps17
  go_wp2_with fail
  refine HR.out.mono ?_
  rintro e w1 ⟨hv, hB1⟩
  rcases hv with ⟨r, v, hr, rfl, hrv⟩ | ⟨hn, rfl⟩
  · have HD := Lib.hid (long_any _ r (Nat.lt_succ_self _) (prog_len hr) hr.2.1 w1 _ v hrv)
    by_cases hsz : Row.size r ≤ 256
    · have HT := Lib.hid (wdT_yes hr hsz)
      have HB := Lib.hid (wdB_yes hr hsz)
      have hc := cap_256 hsz
      have HW := Lib.hid (fun w2 (hb : Below w1.heap.size w1 w2) => rowWord_any _ r (Nat.lt_succ_self _) (prog_len hr) hr.2.1 hsz w2 _ v (hrv.below hb))
      clear hr hrv
      go_wp2_with fail
      refine HD.out.mono ?_
      rintro e w2 ⟨rfl, hb2⟩
      have hB2 := Below.up hB1 hB1.size hb2
      have HW2 := Lib.hid (HW.out w2 hb2)
      clear HW
      generalize Row.cap (Row.size r) = x at *
      go_wp2_with fail
      refine HW2.out.mono ?_
      rintro e w3 ⟨rfl, hb3⟩
      have hB3 := Below.up hB2 hB2.size hb3
      go_wp2_with fail
      go_ret2
      exact ⟨by rw [HT.out, HB.out]; rfl, hB3⟩
    · have HT := Lib.hid (wdT_big hr (by omega))
      have HB := Lib.hid (wdB_big hr (by omega))
      have hc := cap_big (show 256 < Row.size r by omega)
      have hcl := cap_le (Row.size r)
      clear hr hrv
      go_wp2_with fail
      refine HD.out.mono ?_
      rintro e w2 ⟨rfl, hb2⟩
      have hB2 := Below.up hB1 hB1.size hb2
      generalize Row.cap (Row.size r) = x at *
      go_wp2_with fail
      go_ret2
      exact ⟨by rw [HT.out, HB.out]; rfl, hB2⟩
  · have HT := Lib.hid (wdT_none hn)
    have HB := Lib.hid (wdB_no hn)
    clear hn
    go_wp2_with fail
    go_ret2
    exact ⟨by rw [HT.out, HB.out]; rfl, hB1⟩
theorem grow_bound (p i : Row) (d : UInt8) (h : Row.size (Row.app p (.times d i .nil)) ≤ 256) : ∀ j, j ≤ Row.num d → (bs (Row.word p ++ Row.reps (Row.word i) j)).size ≤ 256 := by
  intro j hj
  rw [bs_size, List.length_append, Row.reps_len, Row.word_len, Row.word_len]
  rw [Row.size_app] at h
  have h2 : Row.size p + (Row.num d * Row.size i + 0) ≤ 256 := h
  have h3 : j * Row.size i ≤ Row.num d * Row.size i := Nat.mul_le_mul_right _ hj
  omega
set_option maxHeartbeats 2000000 in
set_option maxRecDepth 100000 in
theorem l2Word_any : ∀ (n : Nat) (r : Row), (Row.text r).length < n → ∀ (s : ByteArray) (w : World), s.data.toList = Row.text r → Row.wf r = true → s.size ≤ 60 → Row.size r ≤ 256 → Calls Try.prog 41 #[.string s] w fun e w' => e = .returned (.string (bs (Row.word r))) ∧ w = w' := by
  intro n
  induction n with
  | zero => intro r h; omega
  | succ n ih =>
    intro r hr s w hsr hwf hs hsz
    have HIH := Lib.hid ih
    have HSR := Lib.hid hsr
    have HWF := Lib.hid hwf
    clear ih hsr hwf
    go_enter Try.func41, Try.ntmps41
    go_wp2_with fail
    go_loop [3, 4, 5, 6, 7] (fun f i y6 y7 y8 => ∃ (k : Nat) (p : Row), k ≤ s.size ∧ i = .int .i64 (k : Int) ∧ f = .string (bs (Row.word p)) ∧ Hid (Read s 0 k p) ∧ Row.size p ≤ 256) (fun _ i _ _ _ => s.size - (intOf i).toNat)
    case atStart => exact ⟨0, .nil, by omega, rfl, rfl, Lib.hid (Read.start (by omega)), by simp [Row.size]⟩
    case round =>
      obtain ⟨k, p, hk, rfl, rfl, HR, hpz⟩ := hrel
      obtain ⟨q, hq, hqw, hqt⟩ := rest_of HR.out HSR.out HWF.out
      have hpl := Row.word_len p
      cases q with
      | nil =>
        have hks : k = s.size := by
          have := congrArg List.length hqt
          rw [from_len] at this
          simp [Row.text] at this
          omega
        subst hks
        rw [Row.app_nil] at hq
        subst hq
        clear hqw hqt
        go_wp2_with fail
        go_ret
        exact ⟨rfl, rfl⟩
      | letter c q' =>
        have hlt : k < s.size := by
          rcases Nat.lt_or_ge k s.size with h | h
          · exact h
          · rw [show k = s.size by omega, from_end] at hqt; cases hqt
        have hc : s[k] = c := by rw [from_cons s k hlt] at hqt; exact (List.cons.inj hqt).1
        have hW : Tw.isW s[k] = true := by
          simp only [Row.wf, Bool.and_eq_true] at hqw
          rw [hc]; exact hqw.1
        have HR2 := Lib.hid (HR.out.letter hlt hW)
        have hw := (isW_num s[k]).1 hW
        have hz2 : Row.size (Row.app p (.letter s[k] .nil)) ≤ 256 := by
          have := congrArg Row.size hq
          rw [Row.size_app] at this ⊢
          simp only [Row.size] at this ⊢
          omega
        have hst : bs (Row.word (Row.app p (.letter s[k] .nil))) = bs (Row.word p) ++ s.extract k (k + 1) := by
          rw [Row.word_app]
          have e : s.extract k (k + 1) = bs [s[k]] := by
            apply ba_ext
            rw [ByteArray.data_extract, Array.toList_extract, bs_list]
            show (s.data.toList.drop k).take (k + 1 - k) = _
            have e2 : s.data.toList.drop k = s[k] :: from_ s (k + 1) := from_cons s k hlt
            rw [e2, show k + 1 - k = 1 by omega]; rfl
          rw [e, bs_append]; rfl
        have hbz : (bs (Row.word p)).size = Row.size p := by rw [bs_size, hpl]
        have y50 : 50 ≤ (s[k].toNat : Int) := by omega
        have n57 : ¬ (s[k].toNat : Int) ≤ 57 := by omega
        have hsl : ∀ wx, (Instr.slice 9 (.string s) (some (.int .i64 (k : Int))) (some (.int .i64 ((k : Int) + 1))) none).run Try.prog wx = .ok (.string (s.extract k (k + 1))) wx := fun wx => by
          have := run_slice_string (P := Try.prog) wx 9 s .i64 .i64 (k : Int) ((k : Int) + 1) Try.underlying9 (by omega) (by omega) (by omega)
          have e1 : ((k : Int) + 1).toNat = k + 1 := by omega
          rw [e1] at this
          simpa using this
        have hxz : (s.extract k (k + 1)).size = 1 := by rw [ByteArray.size_extract]; omega
        have HST := Lib.hid hst
        generalize s.extract k (k + 1) = x at *
        generalize bs (Row.word p) = o at *
        clear hq hqw hqt hc hW hw hst hpl
        go_wp2_with fail
        exact ⟨⟨k + 1, _, by omega, by go_num, by rw [HST.out], HR2, hz2⟩, by simp [intOf]; omega⟩
      | times d i q' =>
        have hlt : k < s.size := by
          rcases Nat.lt_or_ge k s.size with h | h
          · exact h
          · rw [show k = s.size by omega, from_end] at hqt; cases hqt
        rw [from_cons s k hlt] at hqt
        have hc : s[k] = d := (List.cons.inj hqt).1
        have ht1 := (List.cons.inj hqt).2
        have hlt1 : k + 1 < s.size := by
          rcases Nat.lt_or_ge (k + 1) s.size with h | h
          · exact h
          · rw [show k + 1 = s.size by omega, from_end] at ht1; cases ht1
        rw [from_cons s (k + 1) hlt1] at ht1
        have h40 : s[k + 1] = 40 := (List.cons.inj ht1).1
        have ht2 : from_ s (k + 2) = Row.text i ++ 41 :: Row.text q' := (List.cons.inj ht1).2
        simp only [Row.wf, Bool.and_eq_true] at hqw
        obtain ⟨⟨hD, hiw⟩, hqw'⟩ := hqw
        rw [← hc] at hD
        have hd := (isD_num s[k]).1 hD
        obtain ⟨h50, h57⟩ := hd
        have hE := Lib.hid (fun w => l2End_any s hs s.size (k + 2) w (by omega) (by omega))
        have e2 : ((k + 2 : Nat) : Int) = (k : Int) + 2 := by omega
        rw [e2] at hE
        have HD := Lib.hid hD
        have H40 := Lib.hid h40
        have HT2 := Lib.hid ht2
        have hil : (Row.text i).length < n := by
          have := congrArg List.length HSR.out
          rw [bytes_len] at this
          have h3 := congrArg List.length ht2
          rw [from_len, List.length_append] at h3
          simp only [List.length_cons] at h3
          omega
        have hnd := Row.num_ge s[k] hD
        have hnum := num_int s[k] hD
        have hz2 : Row.size (Row.app p (.times s[k] i .nil)) ≤ 256 := by
          have := congrArg Row.size hq
          rw [← hc, Row.size_app] at this
          rw [Row.size_app]
          simp only [Row.size] at this ⊢
          omega
        have hiz : Row.size i ≤ 256 := by
          have h1 := times_size s[k] i hD
          rw [Row.size_app] at hz2
          omega
        clear hq hqt ht1 h40 ht2 hc hqw'
        go_wp2_with fail
        refine (hE.out _).mono ?_
        rintro e w' ⟨⟨v, rfl, hv⟩, rfl⟩
        obtain ⟨m, rfl, hml, hmr, hmt⟩ := end_is hv hiw HT2.out (by omega)
        have h41 : s[m] = 41 := by rw [from_cons s m hml] at hmt; exact (List.cons.inj hmt).1
        have HR2 := Lib.hid (HR.out.times hlt hlt1 HD.out H40.out hmr hml h41)
        have hkm := hmr.len (by omega)
        have hxt := ext_text hmr (by omega)
        have hxs : (s.extract (k + 2) m).size ≤ 60 := by rw [ByteArray.size_extract]; omega
        have hkm2 : k + 2 ≤ m := by omega
        clear hkm
        have hcall := fun w => HIH.out i hil (s.extract (k + 2) m) w hxt hiw hxs hiz
        have hsl : ∀ wx, (Instr.slice 9 (.string s) (some (.int .i64 ((k : Int) + 2))) (some (.int .i64 (m : Int))) none).run Try.prog wx = .ok (.string (s.extract (k + 2) m)) wx := fun wx => by
          have := run_slice_string (P := Try.prog) wx 9 s .i64 .i64 ((k : Int) + 2) (m : Int) Try.underlying9 (by omega) (by omega) (by omega)
          have e1 : ((k : Int) + 2).toNat = k + 2 := by omega
          rw [e1] at this
          simpa using this
        have HCall := Lib.hid hcall
        generalize s.extract (k + 2) m = sx at *
        clear hv hmr hmt h41 hxt hxs hcall
        have hu8 : IntKind.u8.wrap ((s[k].toNat : Int) - 48) = (Row.num s[k] : Int) := by rw [IntKind.wrap_u8, hnum]; omega
        have hw1 : IntKind.i64.wrap (Row.num s[k] : Int) = (Row.num s[k] : Int) := IntWalk.i64_in _ (by omega)
        have hst : bs (Row.word (Row.app p (.times s[k] i .nil))) = bs (Row.word p ++ Row.reps (Row.word i) (Row.num s[k])) := by
          rw [Row.word_app]; show bs (_ ++ (Row.reps (Row.word i) (Row.num s[k]) ++ [])) = _; rw [List.append_nil]
        have HST := Lib.hid hst
        have hbd := Lib.hid (grow_bound p i s[k] hz2)
        have hwz : (bs (Row.word i)).size ≤ 256 := by rw [bs_size, Row.word_len]; exact hiz
        have HWZ := Lib.hid hwz
        have HZ2 := Lib.hid hz2
        have hrp0 : bs (Row.word p ++ Row.reps (Row.word i) 0) = bs (Row.word p) := by show bs (_ ++ []) = _; rw [List.append_nil]
        have HRP0 := Lib.hid hrp0
        clear hst hz2 hwz hiz hrp0 hpl hil hnum
        generalize Row.num s[k] = nd at *
        go_wp2_with fail
        refine (HCall.out _).mono ?_
        rintro e w' ⟨rfl, rfl⟩
        go_wp2_with fail
        go_loop [3, 7] (fun o c => ∃ j : Nat, j ≤ nd ∧ c = .int .i64 (j : Int) ∧ o = .string (bs (Row.word p ++ Row.reps (Row.word i) j))) (fun _ c => nd - (intOf c).toNat)
        case atStart => exact ⟨0, by omega, rfl, by rw [HRP0.out]⟩
        case round =>
          obtain ⟨j, hj, rfl, rfl⟩ := hrel
          by_cases hjn : j < nd
          · have hoz : (bs (Row.word p ++ Row.reps (Row.word i) j)).size ≤ 256 := hbd.out j (by omega)
            have hwz := HWZ.out
            have hst : bs (Row.word p ++ Row.reps (Row.word i) (j + 1)) = bs (Row.word p ++ Row.reps (Row.word i) j) ++ bs (Row.word i) := by
              rw [bs_append]; show bs (_ ++ (Row.reps (Row.word i) j ++ Row.word i)) = _; rw [List.append_assoc]
            have HS1 := Lib.hid hst
            clear hst
            generalize bs (Row.word p ++ Row.reps (Row.word i) j) = o at *
            generalize bs (Row.word i) = o2 at *
            go_wp2_with fail
            exact ⟨⟨j + 1, by omega, by go_num, by rw [HS1.out]⟩, by simp [intOf]; omega⟩
          · obtain rfl : j = nd := by omega
            go_wp2_with fail
            exact ⟨⟨m + 1, _, by omega, by go_num, by rw [HST.out], HR2, HZ2.out⟩, by simp [intOf]; omega⟩
end Go.Proofs.Ytaakgdjlbokopaa
