/- Where the parts of a program end: l2End and ProgramOk of the reference. No condition. -/
import Derived.Test.YtaakgdjlbokopaaWordOk
import Derived.Test.YtaakgdjlbokopaaBytes
import Derived.Test.YtaakgdjlbokopaaTwP
namespace Go.Proofs.Ytaakgdjlbokopaa
open Go.RowKit
open Tw (Row)
set_option linter.unusedVariables false
set_option linter.unusedSimpArgs false

/-- What stands from place k on. -/
def from_ (s : ByteArray) (k : Nat) : List UInt8 := s.data.toList.drop k
theorem from_cons (s : ByteArray) (k : Nat) (h : k < s.size) : from_ s k = s[k] :: from_ s (k + 1) := by
  unfold from_
  rw [List.drop_eq_getElem_cons (by rw [bytes_len]; exact h)]; rfl
theorem from_end (s : ByteArray) : from_ s s.size = [] := by unfold from_; rw [← bytes_len, List.drop_length]
theorem from_len (s : ByteArray) (k : Nat) : (from_ s k).length = s.size - k := by unfold from_; rw [List.length_drop, bytes_len]
theorem from_zero (s : ByteArray) : from_ s 0 = s.data.toList := rfl
theorem from_app (s : ByteArray) (k : Nat) (l r : List UInt8) (h : from_ s k = l ++ r) : from_ s (k + l.length) = r := by
  unfold from_ at h ⊢
  rw [← List.drop_drop, h, List.drop_left]
/-- The parts p have been read from place a on: what is left stands at place k. -/
structure Read (s : ByteArray) (a k : Nat) (p : Row) : Prop where
  le : k ≤ s.size
  wf : Row.wf p = true
  is : from_ s a = Row.text p ++ from_ s k
theorem Read.start {s : ByteArray} {a : Nat} (h : a ≤ s.size) : Read s a a .nil := ⟨h, rfl, rfl⟩
theorem Read.len {s : ByteArray} {a k : Nat} {p : Row} (h : Read s a k p) (ha : a ≤ s.size) : k = a + (Row.text p).length := by
  have := congrArg List.length h.is
  rw [List.length_append, from_len, from_len] at this
  have := h.le
  omega
theorem Read.letter {s : ByteArray} {a k : Nat} {p : Row} (h : Read s a k p) (hk : k < s.size) (hc : Tw.isW s[k] = true) : Read s a (k + 1) (Row.app p (.letter s[k] .nil)) :=
  ⟨hk, by rw [Row.wf_app, h.wf]; simp [Row.wf, hc], by rw [Row.text_app, h.is, from_cons s k hk]; simp [Row.text]⟩
theorem Read.done {s : ByteArray} {a k : Nat} {p : Row} (h : Read s a k p) (hs : Row.Stop (from_ s k)) : Row.Rd (from_ s a) p (from_ s k) := ⟨h.wf, hs, h.is⟩
theorem Read.no {s : ByteArray} {a k : Nat} {p : Row} (h : Read s a k p) (hn : Row.NoRd (from_ s k)) : Row.NoRd (from_ s a) := by rw [h.is]; exact Row.noRd_app h.wf hn
theorem Read.times {s : ByteArray} {a k m : Nat} {p i : Row} (h : Read s a k p) (hk : k < s.size) (hk1 : k + 1 < s.size) (hd : Row.isD s[k] = true) (ho : s[k + 1] = 40) (hi : Read s (k + 2) m i) (hm : m < s.size) (hc : s[m] = 41) :
    Read s a (m + 1) (Row.app p (.times s[k] i .nil)) :=
  ⟨hm, by rw [Row.wf_app, h.wf]; simp [Row.wf, hd, hi.wf], by
    rw [Row.text_app, h.is, from_cons s k hk, from_cons s (k + 1) hk1, ho, show k + 1 + 1 = k + 2 from rfl, hi.is, from_cons s m hm, hc]; simp [Row.text]⟩
theorem stop_byte {s : ByteArray} {k : Nat} (h : k < s.size) (hc : s[k] = 41) : Row.Stop (from_ s k) := .inr ⟨_, by rw [from_cons s k h, hc]⟩
theorem stop_end (s : ByteArray) : Row.Stop (from_ s s.size) := .inl (from_end s)
theorem stop_is {s : ByteArray} {k : Nat} (hk : k < s.size) (h : Row.Stop (from_ s k)) : s[k] = 41 := by
  rcases h with h | ⟨t, h⟩
  · rw [from_cons s k hk] at h; cases h
  · rw [from_cons s k hk] at h; exact (List.cons.inj h).1
/-- What a reading from place a on comes to. -/
def EndIs (s : ByteArray) (a : Nat) (v : Int) : Prop := (∃ k r, Read s a k r ∧ Row.Stop (from_ s k) ∧ v = k) ∨ (Row.NoRd (from_ s a) ∧ v = -1)
theorem no_sign {s : ByteArray} {k : Nat} (h : k < s.size) (h1 : Tw.isW s[k] = false) (h2 : Row.isD s[k] = false) (h3 : s[k] ≠ 41) : Row.NoRd (from_ s k) := by
  rw [from_cons s k h]; exact Row.noRd_sign h1 h2 h3
theorem no_last {s : ByteArray} {k : Nat} (h : k < s.size) (h1 : s.size ≤ k + 1) (h2 : Row.isD s[k] = true) : Row.NoRd (from_ s k) := by
  rw [from_cons s k h, show k + 1 = s.size by omega, from_end]
  exact Row.noRd_digit h2 (fun t e => by cases e)
theorem no_open {s : ByteArray} {k : Nat} (h : k < s.size) (h1 : k + 1 < s.size) (h2 : Row.isD s[k] = true) (h3 : s[k + 1] ≠ 40) : Row.NoRd (from_ s k) := by
  rw [from_cons s k h, from_cons s (k + 1) h1]
  exact Row.noRd_digit h2 (fun t e => h3 (List.cons.inj e).1)
theorem no_inner {s : ByteArray} {k : Nat} (h : k < s.size) (h1 : k + 1 < s.size) (h2 : Row.isD s[k] = true) (h3 : s[k + 1] = 40) (h4 : Row.NoRd (from_ s (k + 2))) : Row.NoRd (from_ s k) := by
  rw [from_cons s k h, from_cons s (k + 1) h1, h3]
  exact Row.noRd_bad h2 h4
theorem no_close {s : ByteArray} {k : Nat} {i : Row} (h : k < s.size) (h1 : k + 1 < s.size) (h2 : Row.isD s[k] = true) (h3 : s[k + 1] = 40) (h4 : Read s (k + 2) s.size i) : Row.NoRd (from_ s k) := by
  rw [from_cons s k h, from_cons s (k + 1) h1, h3]
  have := h4.done (stop_end s)
  rw [from_end] at this
  exact Row.noRd_open h2 this
/-- The tests on a sign, as numbers. -/
theorem isW_num (c : UInt8) : Tw.isW c = true ↔ (c.toNat : Int) = 70 ∨ (c.toNat : Int) = 76 ∨ (c.toNat : Int) = 82 := by
  have e1 : c = 70 ↔ (c.toNat : Int) = 70 := byte_eq c 70 (by omega)
  have e2 : c = 76 ↔ (c.toNat : Int) = 76 := byte_eq c 76 (by omega)
  have e3 : c = 82 ↔ (c.toNat : Int) = 82 := byte_eq c 82 (by omega)
  unfold Tw.isW
  rw [Bool.or_eq_true, Bool.or_eq_true, beq_iff_eq, beq_iff_eq, beq_iff_eq, e1, e2, e3, or_assoc]
theorem isD_num (c : UInt8) : Row.isD c = true ↔ 50 ≤ (c.toNat : Int) ∧ (c.toNat : Int) ≤ 57 := by
  unfold Row.isD
  rw [decide_eq_true_iff]
  omega
theorem isW_not {c : UInt8} (h : Tw.isW c = false) : ¬ ((c.toNat : Int) = 70 ∨ (c.toNat : Int) = 76 ∨ (c.toNat : Int) = 82) := fun e => by rw [← isW_num, h] at e; cases e
theorem isD_not {c : UInt8} (h : Row.isD c = false) : ¬ (50 ≤ (c.toNat : Int) ∧ (c.toNat : Int) ≤ 57) := fun e => by rw [← isD_num, h] at e; cases e
theorem is41 (c : UInt8) : c = 41 ↔ (c.toNat : Int) = 41 := byte_eq c 41 (by omega)
theorem is40 (c : UInt8) : c = 40 ↔ (c.toNat : Int) = 40 := byte_eq c 40 (by omega)
def EndPost (s : ByteArray) (a : Nat) (w : World) (e : Ending) (w' : World) : Prop := (∃ v, e = .returned (.int .i64 v) ∧ EndIs s a v) ∧ w = w'
set_option maxHeartbeats 4000000 in
set_option maxRecDepth 100000 in
theorem l2End_step (s : ByteArray) (a : Nat) (w : World) (hs : s.size ≤ 60) (ha : a ≤ s.size)
    (IH : ∀ b w, b ≤ s.size → a < b → Calls Try.prog 39 #[.string s, .int .i64 (b : Int)] w (EndPost s b w)) :
    Calls Try.prog 39 #[.string s, .int .i64 (a : Int)] w (EndPost s a w) := by
  have HI := Lib.hid IH; clear IH
  go_enter Try.func39, Try.ntmps39
  go_wp2_with fail
  go_loop [1] (fun i => ∃ (k : Nat) (p : Row), i = .int .i64 (k : Int) ∧ a ≤ k ∧ k ≤ s.size ∧ Hid (Read s a k p)) (fun i => s.size - (intOf i).toNat)
  case atStart => exact ⟨a, .nil, rfl, by omega, ha, Lib.hid (Read.start ha)⟩
  case round =>
    obtain ⟨k, p, rfl, hak, hk, HR⟩ := hrel
    by_cases hlt : k < s.size
    · have hb := byte_le s[k]
      by_cases h41 : s[k] = 41
      · have H := Lib.hid (HR.out.done (stop_byte hlt h41))
        have HS := Lib.hid (stop_byte hlt h41)
        have hc := (is41 _).1 h41
        have g41 : ((s[k].toNat : Int) == 41) = true := by simpa using hc
        clear h41
        go_wp2_with fail
        all_goals
          go_ret
          exact ⟨⟨_, rfl, .inl ⟨k, p, HR.out, HS.out, rfl⟩⟩, rfl⟩
      · have hc41 := fun e => h41 ((is41 _).2 e)
        have g41 : ((s[k].toNat : Int) != 41) = true := by simpa using hc41
        have g41e : ((s[k].toNat : Int) == 41) = false := by simpa using hc41
        have H41 := Lib.hid h41; clear h41
        cases hW : Tw.isW s[k]
        · have hw := isW_not hW
          have h70 : ¬ (s[k].toNat : Int) = 70 := fun e => hw (.inl e)
          have h76 : ¬ (s[k].toNat : Int) = 76 := fun e => hw (.inr (.inl e))
          have h82 : ¬ (s[k].toNat : Int) = 82 := fun e => hw (.inr (.inr e))
          have g70 : ((s[k].toNat : Int) == 70) = false := by simpa using h70
          have g76 : ((s[k].toNat : Int) == 76) = false := by simpa using h76
          have g82 : ((s[k].toNat : Int) == 82) = false := by simpa using h82
          have HW := Lib.hid hW; clear hW hw
          cases hD : Row.isD s[k]
          · have HN := Lib.hid (HR.out.no (no_sign hlt HW.out hD H41.out))
            have hd := isD_not hD
            clear hD
            by_cases h50 : (s[k].toNat : Int) < 50
            · clear hd
              go_wp2_with fail
              go_ret
              exact ⟨⟨_, rfl, .inr ⟨HN.out, rfl⟩⟩, rfl⟩
            · have h57 : 57 < (s[k].toNat : Int) := by omega
              clear hd
              go_wp2_with fail
              go_ret
              exact ⟨⟨_, rfl, .inr ⟨HN.out, rfl⟩⟩, rfl⟩
          · have hd := (isD_num s[k]).1 hD
            have HD := Lib.hid hD; clear hD
            obtain ⟨h50, h57⟩ := hd
            have n50 : ¬ (s[k].toNat : Int) < 50 := by omega
            have n57 : ¬ 57 < (s[k].toNat : Int) := by omega
            by_cases hk1 : k + 1 < s.size
            · have nkl : ¬ (s.size : Int) ≤ (k : Int) + 1 := by omega
              by_cases h40 : s[k + 1] = 40
              · have hc40 := (is40 _).1 h40
                have H40 := Lib.hid h40; clear h40
                have hI := fun w => HI.out (k + 2) w (by omega) (by omega)
                have HI2 := Lib.hid hI; clear hI
                have e2 : ((k + 2 : Nat) : Int) = (k : Int) + 2 := by omega
                rw [e2] at HI2
                go_wp2_with fail
                refine (HI2.out _).mono ?_
                rintro e w' ⟨⟨v, rfl, hv⟩, rfl⟩
                rcases hv with ⟨m, i, hi, hst, rfl⟩ | ⟨hn, rfl⟩
                · have hm := hi.le
                  by_cases hml : m < s.size
                  · have hlen := hi.len (by omega)
                    have HR2 := Lib.hid (HR.out.times hlt hk1 HD.out H40.out hi hml (stop_is hml hst))
                    clear hi hst
                    go_wp2_with fail
                    exact ⟨⟨m + 1, _, by go_num, by omega, by omega, HR2⟩, by simp [intOf]; omega⟩
                  · obtain rfl : m = s.size := by omega
                    have HN := Lib.hid (HR.out.no (no_close hlt hk1 HD.out H40.out hi))
                    clear hi hst
                    go_wp2_with fail
                    go_ret
                    exact ⟨⟨_, rfl, .inr ⟨HN.out, rfl⟩⟩, rfl⟩
                · have HN := Lib.hid (HR.out.no (no_inner hlt hk1 HD.out H40.out hn))
                  clear hn
                  go_wp2_with fail
                  go_ret
                  exact ⟨⟨_, rfl, .inr ⟨HN.out, rfl⟩⟩, rfl⟩
              · have HN := Lib.hid (HR.out.no (no_open hlt hk1 HD.out h40))
                have hc40 := fun e => h40 ((is40 _).2 e)
                have g40 : ((s[k + 1].toNat : Int) == 40) = false := by simpa using hc40
                clear h40
                go_wp2_with fail
                go_ret
                exact ⟨⟨_, rfl, .inr ⟨HN.out, rfl⟩⟩, rfl⟩
            · have HN := Lib.hid (HR.out.no (no_last hlt (by omega) HD.out))
              have ykl : (s.size : Int) ≤ (k : Int) + 1 := by omega
              go_wp2_with fail
              go_ret
              exact ⟨⟨_, rfl, .inr ⟨HN.out, rfl⟩⟩, rfl⟩
        · have HR2 := Lib.hid (HR.out.letter hlt hW)
          have hw := (isW_num s[k]).1 hW
          clear hW
          rcases hw with hc | hc | hc
          all_goals
            go_wp2_with fail
            exact ⟨⟨k + 1, _, by go_num, by omega, by omega, HR2⟩, by simp [intOf]; omega⟩
    · obtain rfl : k = s.size := by omega
      go_wp2_with fail
      go_ret
      exact ⟨⟨_, rfl, .inl ⟨_, p, HR.out, stop_end s, rfl⟩⟩, rfl⟩
end Go.Proofs.Ytaakgdjlbokopaa
