/- RepeatedOf of the program and of the reference; the law FnExactRepeatedOf answers true. No condition. -/
import Derived.Test.YtaakgdjlbokopaaNu
namespace Go.Proofs.Ytaakgdjlbokopaa
open Go.RowKit
open Tw (Row)
set_option linter.unusedVariables false
set_option linter.unusedSimpArgs false

/-- May the text be repeated so many times? -/
noncomputable def repB (s : ByteArray) (n : Int) : Bool := progV s && decide (2 ≤ n ∧ n ≤ 9 ∧ s.size + 3 ≤ 60)
/-- The text in brackets behind a digit. -/
def repT (s : ByteArray) (n : Int) : ByteArray := bs [UInt8.ofNat (48 + n).toNat] ++ ⟨#[40]⟩ ++ s ++ ⟨#[41]⟩
noncomputable def repPost (s : ByteArray) (n : Int) (w : World) (e : Ending) (w' : World) : Prop :=
  e = .returned (.tuple #[.string (if repB s n then repT s n else bs []), .bool (repB s n)]) ∧ Below w.heap.size w w'
theorem repT_size (s : ByteArray) (n : Int) : (repT s n).size = s.size + 3 := by
  unfold repT
  rw [ByteArray.size_append, ByteArray.size_append, ByteArray.size_append, bs_size]
  show 1 + 1 + s.size + 1 = _
  omega
set_option maxHeartbeats 1000000 in
theorem repeatedOf_spec (s : ByteArray) (n : Int) (w : World) (hs : s.size ≤ 1048576) (hn : (Lit.int .i64 n).wf = true) : Calls Try.prog 15 #[.string s, .int .i64 n] w (repPost s n w) := by
  have hp := fun w => programOk_spec s w (by unfold maxLen; omega)
  have hl := fun w => nu_l1In_any n 2 9 w
  unfold repPost
  by_cases h29 : 2 ≤ n ∧ n ≤ 9
  · have HN := Lib.hid (fun w => number_small n w (by omega) (by omega))
    rw [decide_eq_true h29] at hl
    have HL := Lib.hid hl; clear hl
    have hrb : repB s n = (progV s && decide (s.size + 3 ≤ 60)) := by
      unfold repB; congr 1; apply decide_eq_decide.2; constructor
      · exact fun h => h.2.2
      · exact fun h => ⟨h29.1, h29.2, h⟩
    have hz := repT_size s n
    unfold repT at hz ⊢
    rw [hrb]
    obtain ⟨b, hb⟩ : ∃ b, progV s = b := ⟨_, rfl⟩
    rw [hb] at hp ⊢
    have HP := Lib.hid hp; clear hp hrb hb
    have hdz : (bs [UInt8.ofNat (48 + n).toNat]).size = 1 := bs_size _
    generalize bs [UInt8.ofNat (48 + n).toNat] = dg at *
    cases b
    · rw [show (false && decide (s.size + 3 ≤ 60)) = false from rfl, if_neg (by simp)]
      clear hz
      go_enter Try.func15, Try.ntmps15
      go_wp2_with fail
      refine (HN.out _).mono ?_
      rintro e w1 ⟨rfl, hb1⟩
      go_wp2_with fail
      generalize hT : dg ++ ⟨#[40]⟩ ++ s ++ ⟨#[41]⟩ = T at *
      have HT := Lib.hid hT; clear hT
      go_wp2_with (first
        | (go_at_call 19; refine (HP.out _).mono ?_; rintro e w' ⟨rfl, rfl⟩)
        | (go_at_call 35; refine (HL.out _).mono ?_; rintro e w' ⟨rfl, rfl⟩))
      go_ret2
      first | exact ⟨rfl, hb1⟩ | exact ⟨by rw [HT.out]; rfl, hb1⟩
    · by_cases h60 : s.size + 3 ≤ 60
      · rw [show (true && decide (s.size + 3 ≤ 60)) = true by rw [decide_eq_true h60]; rfl, if_pos rfl]
        go_enter Try.func15, Try.ntmps15
        go_wp2_with fail
        refine (HN.out _).mono ?_
        rintro e w1 ⟨rfl, hb1⟩
        go_wp2_with fail
        generalize hT : dg ++ ⟨#[40]⟩ ++ s ++ ⟨#[41]⟩ = T at *
        have HT := Lib.hid hT; clear hT
        go_wp2_with (first
          | (go_at_call 19; refine (HP.out _).mono ?_; rintro e w' ⟨rfl, rfl⟩)
          | (go_at_call 35; refine (HL.out _).mono ?_; rintro e w' ⟨rfl, rfl⟩))
        go_ret2
        first | exact ⟨rfl, hb1⟩ | exact ⟨by rw [HT.out]; rfl, hb1⟩
      · rw [show (true && decide (s.size + 3 ≤ 60)) = false by rw [decide_eq_false h60]; rfl, if_neg (by simp)]
        go_enter Try.func15, Try.ntmps15
        go_wp2_with fail
        refine (HN.out _).mono ?_
        rintro e w1 ⟨rfl, hb1⟩
        go_wp2_with fail
        generalize hT : dg ++ ⟨#[40]⟩ ++ s ++ ⟨#[41]⟩ = T at *
        have HT := Lib.hid hT; clear hT
        go_wp2_with (first
          | (go_at_call 19; refine (HP.out _).mono ?_; rintro e w' ⟨rfl, rfl⟩)
          | (go_at_call 35; refine (HL.out _).mono ?_; rintro e w' ⟨rfl, rfl⟩))
        go_ret2
        first | exact ⟨rfl, hb1⟩ | exact ⟨by rw [HT.out]; rfl, hb1⟩
  · have HN := Lib.hid (fun w => number_any n w hn)
    rw [decide_eq_false h29] at hl
    have HL := Lib.hid hl; clear hl
    have hrb : repB s n = false := by
      unfold repB
      rw [Bool.and_eq_false_iff]
      right
      exact decide_eq_false (fun h => h29 ⟨h.1, h.2.1⟩)
    rw [hrb, if_neg (by simp)]
    obtain ⟨b, hb⟩ : ∃ b, progV s = b := ⟨_, rfl⟩
    rw [hb] at hp
    have HP := Lib.hid hp; clear hp hrb hb
    clear h29 hn
    cases b
    · go_enter Try.func15, Try.ntmps15
      go_wp2_with fail
      refine (HN.out _).mono ?_
      rintro e w1 ⟨t, rfl, ht, hb1⟩
      go_wp2_with fail
      generalize t ++ ⟨#[40]⟩ ++ s ++ ⟨#[41]⟩ = T at *
      go_wp2_with (first
        | (go_at_call 19; refine (HP.out _).mono ?_; rintro e w' ⟨rfl, rfl⟩)
        | (go_at_call 35; refine (HL.out _).mono ?_; rintro e w' ⟨rfl, rfl⟩))
      go_ret2
      exact ⟨rfl, hb1⟩
    · go_enter Try.func15, Try.ntmps15
      go_wp2_with fail
      refine (HN.out _).mono ?_
      rintro e w1 ⟨t, rfl, ht, hb1⟩
      go_wp2_with fail
      generalize t ++ ⟨#[40]⟩ ++ s ++ ⟨#[41]⟩ = T at *
      go_wp2_with (first
        | (go_at_call 19; refine (HP.out _).mono ?_; rintro e w' ⟨rfl, rfl⟩)
        | (go_at_call 35; refine (HL.out _).mono ?_; rintro e w' ⟨rfl, rfl⟩))
      go_ret2
      exact ⟨rfl, hb1⟩
theorem enc_dig (n : Int) (h : 2 ≤ n ∧ n ≤ 9) : Utf8.encode (48 + n) = bs [UInt8.ofNat (48 + n).toNat] := by
  have : n = 2 ∨ n = 3 ∨ n = 4 ∨ n = 5 ∨ n = 6 ∨ n = 7 ∨ n = 8 ∨ n = 9 := by omega
  rcases this with rfl | rfl | rfl | rfl | rfl | rfl | rfl | rfl <;> rfl
set_option maxHeartbeats 1000000 in
theorem repeatedOf_impl (s : ByteArray) (n : Int) (w : World) (hs : s.size ≤ 1048576) (hn : (Lit.int .i64 n).wf = true) : Calls Try.prog 14 #[.string s, .int .i64 n] w (repPost s n w) := by
  have hp := fun w => programOk_impl s w (by unfold maxLen; omega)
  unfold repPost
  by_cases h29 : 2 ≤ n ∧ n ≤ 9
  · have henc := enc_dig n h29
    have h29' := h29
    obtain ⟨hn2, hn9⟩ := h29'
    have nn2 : ¬ n < 2 := by omega
    have nn9 : ¬ 9 < n := by omega
    have hrb : repB s n = (progV s && decide (s.size + 3 ≤ 60)) := by
      unfold repB; congr 1; apply decide_eq_decide.2; constructor
      · exact fun h => h.2.2
      · exact fun h => ⟨h29.1, h29.2, h⟩
    have hz := repT_size s n
    unfold repT at hz ⊢
    rw [hrb]
    obtain ⟨b, hb⟩ : ∃ b, progV s = b := ⟨_, rfl⟩
    rw [hb] at hp ⊢
    have HP := Lib.hid hp; clear hp hrb hb
    have hdz : (bs [UInt8.ofNat (48 + n).toNat]).size = 1 := bs_size _
    generalize bs [UInt8.ofNat (48 + n).toNat] = dg at *
    clear h29
    cases b
    · rw [show (false && decide (s.size + 3 ≤ 60)) = false from rfl, if_neg (by simp)]
      clear hz
      go_enter Try.func14, Try.ntmps14
      go_wp2_with (go_at_call 18; refine (HP.out _).mono ?_; rintro e w1 ⟨rfl, hb1⟩)
      go_ret2
      exact ⟨rfl, hb1⟩
    · by_cases h60 : s.size + 3 ≤ 60
      · rw [show (true && decide (s.size + 3 ≤ 60)) = true by rw [decide_eq_true h60]; rfl, if_pos rfl]
        go_enter Try.func14, Try.ntmps14
        go_wp2_with (go_at_call 18; refine (HP.out _).mono ?_; rintro e w1 ⟨rfl, hb1⟩)
        go_ret2
        exact ⟨rfl, hb1⟩
      · rw [show (true && decide (s.size + 3 ≤ 60)) = false by rw [decide_eq_false h60]; rfl, if_neg (by simp)]
        go_enter Try.func14, Try.ntmps14
        go_wp2_with (go_at_call 18; refine (HP.out _).mono ?_; rintro e w1 ⟨rfl, hb1⟩)
        go_ret2
        exact ⟨rfl, hb1⟩
  · have hrb : repB s n = false := by
      unfold repB
      rw [Bool.and_eq_false_iff]
      right
      exact decide_eq_false (fun h => h29 ⟨h.1, h.2.1⟩)
    rw [hrb, if_neg (by simp)]
    obtain ⟨b, hb⟩ : ∃ b, progV s = b := ⟨_, rfl⟩
    rw [hb] at hp
    have HP := Lib.hid hp; clear hp hrb hb
    have hb := bounds_i64 hn
    by_cases h2 : n < 2
    · cases b
      · go_enter Try.func14, Try.ntmps14
        go_wp2_with (go_at_call 18; refine (HP.out _).mono ?_; rintro e w1 ⟨rfl, hb1⟩)
        go_ret2
        exact ⟨rfl, hb1⟩
      · go_enter Try.func14, Try.ntmps14
        go_wp2_with (go_at_call 18; refine (HP.out _).mono ?_; rintro e w1 ⟨rfl, hb1⟩)
        go_ret2
        exact ⟨rfl, hb1⟩
    · have h9 : 9 < n := by omega
      clear h29
      cases b
      · go_enter Try.func14, Try.ntmps14
        go_wp2_with (go_at_call 18; refine (HP.out _).mono ?_; rintro e w1 ⟨rfl, hb1⟩)
        go_ret2
        exact ⟨rfl, hb1⟩
      · go_enter Try.func14, Try.ntmps14
        go_wp2_with (go_at_call 18; refine (HP.out _).mono ?_; rintro e w1 ⟨rfl, hb1⟩)
        go_ret2
        exact ⟨rfl, hb1⟩
theorem law_FnExactRepeatedOf (s : ByteArray) (n : Int) (w : World) (hs : s.size ≤ maxLen) (hn : (Lit.int .i64 n).wf = true) : Calls Try.prog 7 #[.string s, .int .i64 n] w fun e w' => e = .returned (.bool true) ∧ Below w.heap.size w w' := by
  by_cases hbig : 1048576 < s.size
  · unfold maxLen at hs
    go_enter Try.func7, Try.ntmps7
    go_wp2_with fail
    go_ret
    exact ⟨rfl, Below.refl _ _⟩
  · have h1 := fun w => repeatedOf_spec s n w (by omega) hn
    have h2 := fun w => repeatedOf_impl s n w (by omega) hn
    unfold repPost at h1 h2
    generalize repB s n = b at h1 h2
    generalize (if b = true then repT s n else bs []) = t at h1 h2
    have H1 := Lib.hid h1; clear h1
    have H2 := Lib.hid h2; clear h2
    unfold maxLen at hs
    go_enter Try.func7, Try.ntmps7
    go_wp2_with fail
    refine (H1.out _).mono ?_
    rintro e w2 ⟨rfl, hb2⟩
    go_wp2_with fail
    refine (H2.out _).mono ?_
    rintro e w4 ⟨rfl, hb4⟩
    have hB4 := Below.up hb2 hb2.size hb4
    go_wp2_with fail
    all_goals
      go_ret
      exact ⟨rfl, hB4⟩
end Go.Proofs.Ytaakgdjlbokopaa
