/- The law FnMovedOn answers true, for every list of bytes; the table of directions holds what the program's own text lays. -/
import Derived.Test.YtminclapchnheaaDoorLawL
namespace Go.Proofs.YtminclapchnheaaDoor
open Go.RowKit
set_option linter.unusedVariables false
set_option linter.unusedSimpArgs false

def DrawMPost (w : World) (e : Ending) (w' : World) : Prop := ∃ (s : ByteArray) (n : Int), e = .returned (.tuple #[.string s, .int .i64 n]) ∧ s.size ≤ 41 ∧ -1 ≤ n ∧ n ≤ 50 ∧ Below w.heap.size w w'
theorem drawMovedOn {a : Option Addr} {len cap : Nat} {zs : List Int} {w : World} (h : IsRow w a len cap zs) : Calls Tryd.prog 29 #[.slice a len cap] w (DrawMPost w) := by
  have ho := open_any h
  have HO := Lib.hid ho; clear ho h
  go_enter Tryd.func29, Tryd.ntmps29
  go_wp2_with fail
  refine HO.out.mono ?_
  rintro e w1 ⟨R, a1, len1, cap1, rfl, hR, hr1, hB1⟩
  go_wp2_with fail
  refine (walk_any (p := 0) _ hr1 (by omega) (by omega) (by omega) (by omega)).mono ?_
  rintro e w2 ⟨s, p', rfl, hs, hp0, hp1, hr2, hg2⟩
  go_wp2_with fail
  refine (pick_any _ hr2 (by omega) (by omega) (by omega) (by omega)).mono ?_
  rintro e w3 ⟨v2, v20, v21, rfl, hr3, hg3, hs3⟩
  go_wp2_with fail
  refine (pick_any _ hr3 (by omega) (by omega) (by omega) (by omega)).mono ?_
  rintro e w4 ⟨v3, v30, v31, rfl, hr4, hg4, hs4⟩
  have hB4 := below_drawn hB1 hR ((hg2.trans hg3).trans hg4)
  go_wp2_with fail
  have hd : 0 ≤ v3 / 29 ∧ v3 / 29 ≤ 1 := by omega
  go_ret2
  exact ⟨s, v2 - v3 / 29, rfl, hs, by omega, by omega, hB4⟩
theorem wf_i64 {n : Int} (h0 : -9223372036854775808 ≤ n) (h1 : n ≤ 9223372036854775807) : (Lit.int .i64 n).wf = true := by
  simp [Lit.wf, IntKind.min, IntKind.max, IntKind.signed, IntKind.bits]
  omega
theorem mvB_size (s : ByteArray) (k : Nat) : (mvB s k).size = s.size := by unfold mvB; rw [bs_size, Tw.moved_len, bytes_len]
theorem mvB_zero (s : ByteArray) : mvB s 0 = s := by unfold mvB; rw [Tw.moved_zero]; exact bs_of s
theorem mvB_back (s : ByteArray) (k : Nat) (hk : k ≤ s.size) : mvB (mvB s k) (s.size - k) = s := by
  unfold mvB
  rw [bs_list, ← bytes_len, Tw.moved_back]
  exact bs_of s
theorem mvB_closed {s : ByteArray} (k : Nat) (h : Tw.closedB s.data.toList = true) : Tw.closedB (mvB s k).data.toList = true := by
  unfold mvB; rw [bs_list]; exact Tw.moved_closed _ _ h
theorem closed_pos {s : ByteArray} (h : Tw.closedB s.data.toList = true) : 0 < s.size := by
  rcases Nat.eq_zero_or_pos s.size with h0 | h0
  · exact absurd (List.length_eq_zero_iff.1 ((bytes_len s).trans h0)) ((Tw.closedB_iff _).1 h).2.1
  · exact h0
set_option maxHeartbeats 2000000 in
set_option maxRecDepth 100000 in
theorem law_FnMovedOn (a : Option Addr) (len cap : Nat) (zs : List Int) (w : World) (h : IsRow w a len cap zs) (hd : Dirs w) : Calls Tryd.prog 9 #[.slice a len cap] w fun e w' => e = .returned (.bool true) ∧ Below w.heap.size w w' := by
  have hdr := drawMovedOn h
  have HDr := Lib.hid hdr; clear hdr h
  have HD := Lib.hid hd; clear hd
  go_enter Tryd.func9, Tryd.ntmps9
  go_wp2_with fail
  · go_ret
    exact ⟨rfl, Below.refl _ _⟩
  · refine HDr.out.mono ?_
    rintro e w1 ⟨s, n, rfl, hs, hn0, hn1, hB1⟩
    have HD1 := Lib.hid (HD.out.same hB1)
    have hsm : s.size ≤ maxLen := by unfold maxLen; omega
    have hwf : (Lit.int .i64 n).wf = true := wf_i64 (by omega) (by omega)
    have hi := fun w hd => movedOn_impl s n w hsm hwf hd
    have hsp := fun w => movedOn_spec s n w hsm hwf
    have hx : (mvV s n).toList.isEmpty = true ∨ (Tw.closedB s.data.toList = true ∧ 0 ≤ n ∧ n < s.size) := by
      by_cases hc : Tw.closedB s.data.toList = true ∧ 0 ≤ n ∧ n < s.size
      · exact .inr hc
      · exact .inl (by rw [mvV_not hc, ByteArray.toList_eq]; rfl)
    rcases hx with hE | ⟨hc, h0, h1⟩
    · generalize mvV s n = x at *
      have HI := Lib.hid hi; clear hi
      have HSp := Lib.hid hsp; clear hsp
      clear hwf hsm
      go_wp2_with fail
      refine (HI.out _ HD1.out).mono ?_
      rintro e w2 ⟨rfl, hb2⟩
      have HD2 := Lib.hid (HD1.out.same hb2)
      have hB2 := Below.up hB1 hB1.size hb2
      go_wp2_with fail
      refine (HSp.out _).mono ?_
      rintro e w3 ⟨rfl, hb3⟩
      have hB3 := Below.up hB2 hB2.size hb3
      go_wp2_with (go_at_call 28; refine (alive_any _).mono ?_; rintro e w' ⟨rfl, rfl⟩)
      go_ret
      exact ⟨rfl, hB3⟩
    · obtain ⟨k, rfl⟩ : ∃ k : Nat, n = k := ⟨n.toNat, by omega⟩
      have hk : k < s.size := by omega
      rw [mvV_yes hc h0 h1, show ((k : Int)).toNat = k from rfl] at hi hsp
      have hxz := mvB_size s k
      have hxc : ∀ w (hd : Dirs w), Calls Tryd.prog 13 #[.string (mvB s k)] w fun e w' => e = .returned (.bool true) ∧ Below w.heap.size w w' := fun w hd => by
        have := closedOk_impl (mvB s k) w (by rw [hxz]; exact hsm) hd
        rw [mvB_closed k hc] at this
        exact this
      have hxm : ∀ w (hd : Dirs w), 0 < k → Calls Tryd.prog 15 #[.string (mvB s k), .int .i64 ((s.size : Int) - (k : Int))] w fun e w' => e = .returned (.string s) ∧ Below w.heap.size w w' := fun w hd hk0 => by
        have := movedOn_impl (mvB s k) ((s.size : Int) - (k : Int)) w (by rw [hxz]; exact hsm) (wf_i64 (by omega) (by omega)) hd
        rw [mvV_yes (mvB_closed k hc) (by omega) (by rw [hxz]; omega), show ((s.size : Int) - (k : Int)).toNat = s.size - k by omega, mvB_back s k (by omega)] at this
        exact this
      have hx0 : k = 0 → mvB s k = s := fun e => by rw [e]; exact mvB_zero s
      have hE : (mvB s k).toList.isEmpty = false := by
        rw [ByteArray.toList_eq, ← Bool.not_eq_true, ← List.length_eq_zero_iff.trans List.isEmpty_iff.symm, bytes_len, hxz]
        omega
      have HX0 := Lib.hid hx0; clear hx0
      generalize mvB s k = x at *
      have HI := Lib.hid hi; clear hi
      have HSp := Lib.hid hsp; clear hsp
      have HXc := Lib.hid hxc; clear hxc
      have HXm := Lib.hid hxm; clear hxm
      clear hwf hsm hc
      go_wp2_with fail
      refine (HI.out _ HD1.out).mono ?_
      rintro e w2 ⟨rfl, hb2⟩
      have HD2 := Lib.hid (HD1.out.same hb2)
      have hB2 := Below.up hB1 hB1.size hb2
      go_wp2_with fail
      refine (HSp.out _).mono ?_
      rintro e w3 ⟨rfl, hb3⟩
      have HD3 := Lib.hid (HD2.out.same hb3)
      have hB3 := Below.up hB2 hB2.size hb3
      go_wp2_with fail
      refine (HXc.out _ HD3.out).mono ?_
      rintro e w4 ⟨rfl, hb4⟩
      have HD4 := Lib.hid (HD3.out.same hb4)
      have hB4 := Below.up hB3 hB3.size hb4
      by_cases hk0 : k = 0
      · obtain rfl := HX0.out hk0
        subst hk0
        go_wp2_with fail
        go_ret
        exact ⟨rfl, hB4⟩
      · have hkp : 0 < k := by omega
        have hki : (0 : Int) < (k : Int) := by omega
        have hkn : ¬ (k : Int) = 0 := by omega
        have hkb : ((k : Int) == 0) = false := by simpa using hkn
        go_wp2_with fail
        refine (HXm.out _ HD4.out hkp).mono ?_
        rintro e w5 ⟨rfl, hb5⟩
        have hB5 := Below.up hB4 hB4.size hb5
        go_wp2_with fail
        go_ret
        exact ⟨rfl, hB5⟩
end Go.Proofs.YtminclapchnheaaDoor
