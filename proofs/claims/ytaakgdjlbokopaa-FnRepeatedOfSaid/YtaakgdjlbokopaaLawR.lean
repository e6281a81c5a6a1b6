/- The law FnRepeatedOf answers true, for all lists of bytes. No condition. -/
import Derived.Test.YtaakgdjlbokopaaLawQ
namespace Go.Proofs.Ytaakgdjlbokopaa
open Go.RowKit
open Tw (Row)
set_option linter.unusedVariables false
set_option linter.unusedSimpArgs false
def DrawRPost (w : World) (e : Ending) (w' : World) : Prop := ∃ (s : ByteArray) (n : Int), e = .returned (.tuple #[.string s, .int .i64 n]) ∧ s.size ≤ 192 ∧ 1 ≤ n ∧ n ≤ 10 ∧ Below w.heap.size w w'
theorem drawRepeatedOf {a : Option Addr} {len cap : Nat} {zs : List Int} {w : World} (h : IsRow w a len cap zs) : Calls Try.prog 13 #[.slice a len cap] w (DrawRPost w) := by
  have ho := open_any h
  have HO := Lib.hid ho; clear ho h
  go_enter Try.func13, Try.ntmps13
  go_wp2_with fail
  refine HO.out.mono ?_
  rintro e w1 ⟨R, a1, len1, cap1, rfl, hR, hr1, hB1⟩
  go_wp2_with fail
  refine (text_any (p := 0) _ hr1 (by omega) (by omega) (by omega) (by omega)).mono ?_
  rintro e w2 ⟨s, p', rfl, hs, hp0, hp1, hr2, hg2⟩
  go_wp2_with fail
  refine (pick_any _ hr2 (by omega) (by omega) (by omega) (by omega)).mono ?_
  rintro e w3 ⟨v2, v20, v21, rfl, hr3, hg3, hs3⟩
  have hB3 := below_drawn hB1 hR (hg2.trans hg3)
  go_wp2_with fail
  go_ret2
  exact ⟨s, 1 + v2, rfl, hs, by omega, by omega, hB3⟩
/-- So many times. -/
def reps (T : ByteArray) (j : Nat) : ByteArray := bs (Row.reps T.data.toList j)
theorem reps_zero (T : ByteArray) : reps T 0 = ⟨#[]⟩ := rfl
theorem reps_next (T : ByteArray) (j : Nat) : reps T (j + 1) = reps T j ++ T := by
  unfold reps
  conv => rhs; rhs; rw [← bs_of T]
  rw [bs_append]; rfl
theorem reps_size (T : ByteArray) (j : Nat) : (reps T j).size = j * T.size := by
  unfold reps; rw [bs_size, Row.reps_len, bytes_len]
theorem reps_bound (T : ByteArray) (j n : Nat) (h : T.size ≤ 256) (hj : j ≤ n) (hn : n ≤ 10) : (reps T j).size ≤ 2560 := by
  rw [reps_size]
  have := Nat.mul_le_mul (Nat.le_trans hj hn) h
  omega
theorem rep_dig {n : Int} (h2 : 2 ≤ n) (h9 : n ≤ 9) : Row.num (UInt8.ofNat (48 + n).toNat) = n.toNat := by
  unfold Row.num
  rw [UInt8.toNat_ofNat']
  omega
theorem told_rep {s : ByteArray} {n : Int} (h : repB s n = true) (hb : wdB (repT s n) = true) : wdB s = true ∧ wdT (repT s n) = reps (wdT s) n.toNat := by
  obtain ⟨hp, h2, h9, h63⟩ := (repB_iff s n).1 h
  obtain ⟨r, hr⟩ := (progV_iff s).1 hp
  have hq := rep_prog hr h2 h9 h63
  obtain ⟨q, hq', hqs⟩ := told_yes hb
  obtain rfl := Row.prog_one hq hq'
  have e : Row.size (.times (UInt8.ofNat (48 + n).toNat) r .nil) = n.toNat * Row.size r := by
    show Row.num (UInt8.ofNat (48 + n).toNat) * Row.size r + 0 = _
    rw [rep_dig h2 h9, Nat.add_zero]
  have hs : Row.size r ≤ 256 := by
    rw [e] at hqs
    have : 1 * Row.size r ≤ n.toNat * Row.size r := Nat.mul_le_mul_right _ (by omega)
    omega
  refine ⟨wdB_yes hr hs, ?_⟩
  rw [wdT_yes hq hqs, wdT_yes hr hs]
  unfold reps
  rw [bs_list]
  show bs (Row.reps (Row.word r) (Row.num (UInt8.ofNat (48 + n).toNat)) ++ []) = _
  rw [rep_dig h2 h9, List.append_nil]
theorem told_any (s : ByteArray) : (wdT s).size ≤ 256 := by
  cases h : wdB s
  · rw [told_no h]; decide
  · exact told_small h
theorem rep_progV {s : ByteArray} {n : Int} (h : repB s n = true) : progV (repT s n) = true := by
  obtain ⟨hp, h2, h9, h63⟩ := (repB_iff s n).1 h
  obtain ⟨r, hr⟩ := (progV_iff s).1 hp
  exact (progV_iff _).2 ⟨_, rep_prog hr h2 h9 h63⟩
set_option maxHeartbeats 4000000 in
set_option maxRecDepth 100000 in
theorem law_FnRepeatedOf (a : Option Addr) (len cap : Nat) (zs : List Int) (w : World) (h : IsRow w a len cap zs) : Calls Try.prog 3 #[.slice a len cap] w fun e w' => e = .returned (.bool true) ∧ Below w.heap.size w w' := by
  have hdr := drawRepeatedOf h
  have HDr := Lib.hid hdr; clear hdr h
  go_enter Try.func3, Try.ntmps3
  go_wp2_with fail
  · go_ret
    exact ⟨rfl, Below.refl _ _⟩
  · refine HDr.out.mono ?_
    rintro e w1 ⟨s, n, rfl, hs, hn1, hn10, hB1⟩
    have hsm : s.size ≤ maxLen := by unfold maxLen; omega
    have hwf : (Lit.int .i64 n).wf = true := wf_i64 (by omega) (by omega)
    have hi := fun w => repeatedOf_impl s n w (by omega) hwf
    have hsp := fun w => repeatedOf_spec s n w (by omega) hwf
    unfold repPost at hi hsp
    cases hb : repB s n
    · rw [hb] at hi hsp
      have e0 : bs [] = (⟨#[]⟩ : ByteArray) := rfl
      simp only [Bool.false_eq_true, if_false, e0] at hi hsp
      have HI := Lib.hid hi; clear hi
      have HSp := Lib.hid hsp; clear hsp
      clear hsm hb hwf
      go_wp2_with fail
      refine (HI.out _).mono ?_
      rintro e w2 ⟨rfl, hb2⟩
      have hB2 := Below.up hB1 hB1.size hb2
      go_wp2_with fail
      refine (HSp.out _).mono ?_
      rintro e w3 ⟨rfl, hb3⟩
      have hB3 := Below.up hB2 hB2.size hb3
      go_wp2_with (go_at_call 16; refine (alive_any _).mono ?_; rintro e w' ⟨rfl, rfl⟩)
      go_ret
      exact ⟨rfl, hB3⟩
    · rw [hb] at hi hsp
      simp only [if_true] at hi hsp
      have hrz := repT_size s n
      have hrep := fun h => told_rep hb h
      have hw := fun w => wordFor_impl s w hsm
      have hx := fun w => wordFor_impl (repT s n) w (by rw [hrz]; unfold maxLen; omega)
      have hp := fun w => programOk_impl (repT s n) w (by rw [hrz]; unfold maxLen; omega)
      rw [rep_progV hb] at hp
      unfold ToldPost at hw hx
      have hTz := told_any s
      generalize wdT (repT s n) = V at *
      generalize wdB (repT s n) = vb at *
      generalize wdT s = T at *
      generalize wdB s = tb at *
      generalize repT s n = X at *
      obtain ⟨m, rfl⟩ : ∃ m : Nat, n = (m : Int) := ⟨n.toNat, by omega⟩
      rw [show ((m : Int)).toNat = m by omega] at hrep
      have HI := Lib.hid hi; clear hi
      have HSp := Lib.hid hsp; clear hsp
      have HW := Lib.hid hw; clear hw
      have HX := Lib.hid hx; clear hx
      have HP := Lib.hid hp; clear hp
      have HRep := Lib.hid hrep; clear hrep
      have HBd := Lib.hid (fun j (hj : j ≤ m) => reps_bound T j m hTz hj (by omega))
      clear hsm hb hwf
      go_wp2_with fail
      refine (HI.out _).mono ?_
      rintro e w2 ⟨rfl, hb2⟩
      have hB2 := Below.up hB1 hB1.size hb2
      go_wp2_with fail
      refine (HSp.out _).mono ?_
      rintro e w3 ⟨rfl, hb3⟩
      have hB3 := Below.up hB2 hB2.size hb3
      go_wp2_with fail
      refine (HW.out _).mono ?_
      rintro e w4 ⟨rfl, hb4⟩
      have hB4 := Below.up hB3 hB3.size hb4
      go_wp2_with fail
      refine (HX.out _).mono ?_
      rintro e w5 ⟨rfl, hb5⟩
      have hB5 := Below.up hB4 hB4.size hb5
      go_wp2_with fail
      go_loop [13, 14] (fun o c => ∃ j : Nat, j ≤ m ∧ c = .int .i64 (j : Int) ∧ o = .string (reps T j)) (fun _ c => m - (intOf c).toNat)
      case atStart => exact ⟨0, by omega, rfl, rfl⟩
      case round =>
        obtain ⟨j, hj, rfl, rfl⟩ := hrel
        by_cases hjm : j < m
        · have hoz := HBd.out j hj
          have HS := Lib.hid (reps_next T j)
          generalize reps T j = o at *
          go_wp2_with fail
          exact ⟨⟨j + 1, by omega, by go_num, by rw [HS.out]⟩, by simp [intOf]; omega⟩
        · obtain rfl : j = m := by omega
          cases vb
          · clear HRep
            go_wp2_with fail
            refine (HP.out _).mono ?_
            rintro e w6 ⟨rfl, hb6⟩
            have hB6 := Below.up hB5 hB5.size hb6
            go_wp2_with fail
            go_ret
            exact ⟨rfl, hB6⟩
          · obtain ⟨rfl, rfl⟩ := HRep.out rfl
            clear HRep
            generalize reps T j = o at *
            go_wp2_with fail
            refine (HP.out _).mono ?_
            rintro e w6 ⟨rfl, hb6⟩
            have hB6 := Below.up hB5 hB5.size hb6
            go_wp2_with fail
            go_ret
            exact ⟨rfl, hB6⟩
end Go.Proofs.Ytaakgdjlbokopaa
