/- The law FnProgramOk answers true, for all lists of bytes. No condition. -/
import Derived.Test.YtaakgdjlbokopaaLawN
namespace Go.Proofs.Ytaakgdjlbokopaa
open Go.RowKit
open Tw (Row)
set_option linter.unusedVariables false
set_option linter.unusedSimpArgs false

/-- No digits. -/
def noD (s : ByteArray) : Prop := s.data.toList.all (fun c => !Row.isD c) = true
theorem noD_app {s t : ByteArray} (h : noD s) (h' : noD t) : noD (s ++ t) := by
  unfold noD at *; rw [app_list, List.all_append, h, h']; rfl
theorem arr_plain (ss : List ByteArray) (w w2 : World) (R : Nat) (T : TypeId) (v : Int) (hg : (w.alloc (.cells (ss.map Value.string).toArray T)).grownBy w2 (some R)) (hR : R < w.heap.size) (h0 : 0 ≤ v) (h1 : v < ss.length) (hm : ∀ s ∈ ss, s.size ≤ 1 ∧ noD s) :
    ∃ t : ByteArray, w2.cell? ⟨w.heap.size, v.toNat, none⟩ = some (.string t) ∧ t.size ≤ 1 ∧ Hid (noD t) := by
  have hlt : v.toNat < ss.length := by omega
  refine ⟨ss[v.toNat], ?_, (hm _ (List.getElem_mem hlt)).1, Lib.hid (hm _ (List.getElem_mem hlt)).2⟩
  refine hg.cell ?_ (by simp; omega)
  rw [World.cell?_alloc_new]
  simp [hlt]
theorem four_plain : ∀ s ∈ [(⟨#[70]⟩ : ByteArray), ⟨#[70]⟩, ⟨#[76]⟩, ⟨#[82]⟩], s.size ≤ 1 ∧ noD s := by
  intro s hs
  simp only [List.mem_cons, List.not_mem_nil, or_false] at hs
  rcases hs with rfl | rfl | rfl | rfl <;> exact ⟨by decide, by unfold noD; decide⟩
theorem three_plain : ∀ s ∈ [(⟨#[120]⟩ : ByteArray), ⟨#[102]⟩, ⟨#[32]⟩], s.size ≤ 1 ∧ noD s := by
  intro s hs
  simp only [List.mem_cons, List.not_mem_nil, or_false] at hs
  rcases hs with rfl | rfl | rfl <;> exact ⟨by decide, by unfold noD; decide⟩
def PlainPost (w : World) (R : Nat) (a : Option Addr) (len cap : Nat) (zs : List Int) (p most : Int) (e : Ending) (w' : World) : Prop :=
  ∃ (s : ByteArray) (p' : Int), e = .returned (.string s) ∧ (s.size : Int) ≤ most + 1 ∧ Hid (noD s) ∧ p ≤ p' ∧ p' ≤ p + most + 3 ∧ Reader w' R a len cap zs p' ∧ w.grownBy w' (some R)
set_option maxRecDepth 100000 in
set_option maxHeartbeats 1000000 in
theorem word_plain (most n : Int) {R : Nat} {a : Option Addr} {len cap : Nat} {zs : List Int} {p : Int} {w : World} (h : Reader w R a len cap zs p) (h0 : 0 ≤ p) (h1 : p ≤ 90000) (hm0 : 0 ≤ most) (hm1 : most ≤ 1000) (hn : 1 ≤ n) (hn2 : n ≤ 1000000) :
    Calls Try.prog 43 #[.pointer (some ⟨R, 0, none⟩), .int .i64 most, .int .i64 n] w (PlainPost w R a len cap zs p most) := by
  have hR := h.lt
  go_enter Try.func43, Try.ntmps43
  go_wp2_with (go_at_call 33; refine (pick_any _ h h0 (by omega) (by omega) (by omega)).mono ?_; rintro e w1 hp; obtain ⟨v, v0, v1, rfl, hr1, hg1, hs1⟩ := hp)
  have hR1 := hr1.lt
  go_loopw [7, 8] (fun o i wr => ∃ (s : ByteArray) (k p' : Int), o = .string s ∧ i = .int .i64 k ∧ 0 ≤ k ∧ (s.size : Int) + k ≤ most ∧ Hid (noD s) ∧ p ≤ p' ∧ p' + k ≤ p + most + 1 ∧ Reader wr R a len cap zs p' ∧ w.grownBy wr (some R)) (fun _ i _ => (intOf i).toNat)
  case atStart => exact ⟨_, v, p + 1, rfl, rfl, v0, by show ((0 : Nat) : Int) + v ≤ most; omega, Lib.hid (by unfold noD; rfl), by omega, by omega, hr1, hg1⟩
  case round =>
    obtain ⟨s, k, p', rfl, rfl, hk0, hsk, HN, hp0, hp1, hr, hg⟩ := hrel
    have hRr := hr.lt
    have hgs := hg.size
    clear hr1 hg1 hs1 h hR1
    by_cases hk : 0 < k
    · go_wp2_with (go_at_call 33; refine (pick_any _ (hr.alloc _) (by omega) (by omega) (by omega) (by omega)).mono ?_; rintro e w2 hp; obtain ⟨v2, v20, v21, rfl, hr2, hg2, hs2⟩ := hp; obtain ⟨t, ht, hts, HT⟩ := arr_plain [⟨#[70]⟩, ⟨#[70]⟩, ⟨#[76]⟩, ⟨#[82]⟩] _ _ _ _ _ hg2 hRr v20 v21 four_plain)
      have hgw : w.grownBy w2 (some R) := (hg.trans (World.grownBy_alloc _ _ _)).trans hg2
      exact ⟨⟨s ++ t, k - 1, p' + 1, rfl, rfl, by omega, by rw [ByteArray.size_append]; omega, Lib.hid (noD_app HN.out HT.out), by omega, by omega, hr2, hgw⟩, by simp [intOf]; omega⟩
    · go_wp2_with (first
        | (go_at_call 45; refine (odd_any _ hr (by omega) (by omega) hn hn2).mono ?_; rintro e w2 hp; obtain ⟨b, rfl, hr2, hg2, hs2⟩ := hp)
        | (go_at_call 33; refine (pick_any _ (hr2.alloc _) (by omega) (by omega) (by omega) (by omega)).mono ?_; rintro e w3 hp; obtain ⟨v3, v30, v31, rfl, hr3, hg3, hs3⟩ := hp; obtain ⟨t, ht, hts, HT⟩ := arr_plain [⟨#[120]⟩, ⟨#[102]⟩, ⟨#[32]⟩] _ _ _ _ _ hg3 hr2.lt v30 v31 three_plain))
      · go_ret
        exact ⟨s ++ t, p' + 1 + 1, rfl, by rw [ByteArray.size_append]; omega, Lib.hid (noD_app HN.out HT.out), by omega, by omega, hr3, ((hg.trans hg2).trans (World.grownBy_alloc _ _ _)).trans hg3⟩
      · go_ret
        exact ⟨s, p' + 1, rfl, by omega, HN, by omega, by omega, hr2, hg.trans hg2⟩
def PlainText (w : World) (e : Ending) (w' : World) : Prop := ∃ s : ByteArray, e = .returned (.string s) ∧ s.size ≤ 40 ∧ Hid (noD s) ∧ Below w.heap.size w w'
theorem drawWordPlain {a : Option Addr} {len cap : Nat} {zs : List Int} {w : World} (h : IsRow w a len cap zs) : Calls Try.prog 29 #[.slice a len cap] w (PlainText w) := by
  have ho := open_any h
  have HO := Lib.hid ho; clear ho h
  go_enter Try.func29, Try.ntmps29
  go_wp2_with (first
    | (go_at_call 31; refine HO.out.mono ?_; rintro e w1 hp; obtain ⟨R, a1, len1, cap1, rfl, hR, hr1, hB1⟩ := hp)
    | (go_at_call 43; refine (word_plain _ _ hr1 (by omega) (by omega) (by omega) (by omega) (by omega) (by omega)).mono ?_; rintro e w2 hp; obtain ⟨s, p', rfl, hs, HN, hp0, hp1, hr2, hg2⟩ := hp))
  go_ret
  exact ⟨s, rfl, by omega, HN, below_drawn hB1 hR hg2⟩
theorem plain_row (r : Row) (h : Row.wf r = true) (hn : (Row.text r).all (fun c => !Row.isD c) = true) : (Row.text r).all Tw.isW = true := by
  induction r with
  | nil => rfl
  | letter c r ih =>
    simp only [Row.wf, Bool.and_eq_true] at h
    simp only [Row.text, List.all_cons, Bool.and_eq_true] at hn ⊢
    exact ⟨h.1, ih h.2 hn.2⟩
  | times d i r _ _ =>
    simp only [Row.wf, Bool.and_eq_true] at h
    simp only [Row.text, List.all_cons, Bool.and_eq_true] at hn
    rw [h.1.1] at hn
    simp at hn
theorem plain_prog {s : ByteArray} (hs : s.size ≤ 60) (hn : noD s) : progV s = Tw.wordB s.data.toList := by
  rw [Bool.eq_iff_iff, progV_iff, wordB_of, decide_eq_true (show s.size ≤ 256 by omega), Bool.and_true]
  constructor
  · rintro ⟨r, hr⟩
    unfold noD at hn
    rw [hr.2.2] at hn ⊢
    exact plain_row r hr.2.1 hn
  · intro h
    exact ⟨Row.ofWord s.data.toList, by rw [bytes_len]; exact hs, by rw [Row.ofWord_wf]; exact h, (Row.ofWord_text _).symm⟩
theorem both_prog {s t : ByteArray} (hs : progV s = true) (ht : progV t = true) (h : s.size + t.size ≤ 60) : progV (s ++ t) = true := by
  obtain ⟨r, hr⟩ := (progV_iff s).1 hs
  obtain ⟨q, hq⟩ := (progV_iff t).1 ht
  refine (progV_iff _).2 ⟨Row.app r q, ?_, by rw [Row.wf_app, hr.2.1, hq.2.1]; rfl, by rw [app_list, hr.2.2, hq.2.2, Row.text_app]⟩
  rw [bytes_len, ByteArray.size_append]; exact h
theorem empty_prog : progV ⟨#[]⟩ = true := (progV_iff _).2 ⟨.nil, by simp, rfl, rfl⟩
set_option maxHeartbeats 4000000 in
set_option maxRecDepth 100000 in
theorem law_FnProgramOk (a : Option Addr) (len cap : Nat) (zs : List Int) (a' : Option Addr) (len' cap' : Nat) (zs' : List Int) (w : World) (h : IsRow w a len cap zs) (h' : IsRow w a' len' cap' zs') : Calls Try.prog 10 #[.slice a len cap, .slice a' len' cap'] w fun e w' => e = .returned (.bool true) ∧ Below w.heap.size w w' := by
  have hdr := drawProgramOk h
  have HDr := Lib.hid hdr; clear hdr h
  have HR' := Lib.hid h'; clear h'
  go_enter Try.func10, Try.ntmps10
  go_wp2_with fail
  · go_ret
    exact ⟨rfl, Below.refl _ _⟩
  rotate_left
  · go_ret
    exact ⟨rfl, Below.refl _ _⟩
  · refine HDr.out.mono ?_
    rintro e w1 ⟨s, rfl, hs, hB1⟩
    have hsm : s.size ≤ maxLen := by unfold maxLen; omega
    have hi := Lib.hid (fun w => programOk_impl s w hsm)
    have hsp := Lib.hid (fun w => programOk_spec s w hsm)
    go_wp2_with fail
    refine (hi.out _).mono ?_
    rintro e w2 ⟨rfl, hb2⟩
    have hB2 := Below.up hB1 hB1.size hb2
    go_wp2_with fail
    refine (hsp.out _).mono ?_
    rintro e w3 ⟨rfl, rfl⟩
    go_wp2_with fail
    refine (drawLongOf (HR'.out.same hB2)).mono ?_
    rintro e w4 ⟨t, rfl, ht, hb4⟩
    have hB4 := Below.up hB2 hB2.size hb4
    go_wp2_with fail
    refine (drawWordPlain (HR'.out.same hB4)).mono ?_
    rintro e w5 ⟨wd, rfl, hwd, HN, hb5⟩
    have hB5 := Below.up hB4 hB4.size hb5
    have hpw := fun w => programOk_impl wd w (by unfold maxLen; omega)
    rw [plain_prog (by omega) HN.out] at hpw
    have hww := fun w => wordOk_impl wd w (by unfold maxLen; omega)
    have hpe : ∀ w, Calls Try.prog 18 #[.string ⟨#[]⟩] w fun e w' => e = .returned (.bool true) ∧ Below w.heap.size w w' := fun w => by
      have := programOk_impl ⟨#[]⟩ w (by decide)
      rw [empty_prog] at this
      exact this
    have hpt := fun w => programOk_impl t w (by unfold maxLen; omega)
    have hst : progV s = true → progV t = true → s.size + t.size ≤ 60 → ∀ w, Calls Try.prog 18 #[.string (s ++ t)] w fun e w' => e = .returned (.bool true) ∧ Below w.heap.size w w' := fun h1 h2 h3 w => by
      have := programOk_impl (s ++ t) w (by rw [ByteArray.size_append]; unfold maxLen; omega)
      rw [both_prog h1 h2 h3] at this
      exact this
    generalize Tw.wordB wd.data.toList = q at *
    have HPw := Lib.hid hpw; clear hpw
    have HWw := Lib.hid hww; clear hww
    have HPe := Lib.hid hpe; clear hpe
    have HPt := Lib.hid hpt; clear hpt
    have HSt := Lib.hid hst; clear hst
    clear hi hsp hsm
    generalize progV s = b at *
    by_cases h60 : 60 < s.size + t.size
    · go_wp2_with fail
      refine (HPw.out _).mono ?_
      rintro e w6 ⟨rfl, hb6⟩
      have hB6 := Below.up hB5 hB5.size hb6
      go_wp2_with fail
      refine (HWw.out _).mono ?_
      rintro e w7 ⟨rfl, rfl⟩
      go_wp2_with fail
      refine (HPe.out _).mono ?_
      rintro e w8 ⟨rfl, hb8⟩
      have hB8 := Below.up hB6 hB6.size hb8
      go_wp2_with (go_at_call 16; refine (alive_any _).mono ?_; rintro e w' ⟨rfl, rfl⟩)
      go_ret
      exact ⟨rfl, hB8⟩
    · cases b
      · go_wp2_with fail
        refine (HPw.out _).mono ?_
        rintro e w6 ⟨rfl, hb6⟩
        have hB6 := Below.up hB5 hB5.size hb6
        go_wp2_with fail
        refine (HWw.out _).mono ?_
        rintro e w7 ⟨rfl, rfl⟩
        go_wp2_with fail
        refine (HPe.out _).mono ?_
        rintro e w8 ⟨rfl, hb8⟩
        have hB8 := Below.up hB6 hB6.size hb8
        go_wp2_with (go_at_call 16; refine (alive_any _).mono ?_; rintro e w' ⟨rfl, rfl⟩)
        go_ret
        exact ⟨rfl, hB8⟩
      · go_wp2_with fail
        refine (HPt.out _).mono ?_
        rintro e wt ⟨rfl, hbt⟩
        have hBt := Below.up hB5 hB5.size hbt
        generalize progV t = c at *
        cases c
        · go_wp2_with fail
          refine (HPw.out _).mono ?_
          rintro e w6 ⟨rfl, hb6⟩
          have hB6 := Below.up hBt hBt.size hb6
          go_wp2_with fail
          refine (HWw.out _).mono ?_
          rintro e w7 ⟨rfl, rfl⟩
          go_wp2_with fail
          refine (HPe.out _).mono ?_
          rintro e w8 ⟨rfl, hb8⟩
          have hB8 := Below.up hB6 hB6.size hb8
          go_wp2_with (go_at_call 16; refine (alive_any _).mono ?_; rintro e w' ⟨rfl, rfl⟩)
          go_ret
          exact ⟨rfl, hB8⟩
        · go_wp2_with fail
          refine (HSt.out (by trivial) (by trivial) (by omega) _).mono ?_
          rintro e ws ⟨rfl, hbs⟩
          have hBs := Below.up hBt hBt.size hbs
          go_wp2_with fail
          refine (HPw.out _).mono ?_
          rintro e w6 ⟨rfl, hb6⟩
          have hB6 := Below.up hBs hBs.size hb6
          go_wp2_with fail
          refine (HWw.out _).mono ?_
          rintro e w7 ⟨rfl, rfl⟩
          go_wp2_with fail
          refine (HPe.out _).mono ?_
          rintro e w8 ⟨rfl, hb8⟩
          have hB8 := Below.up hB6 hB6.size hb8
          go_wp2_with (go_at_call 16; refine (alive_any _).mono ?_; rintro e w' ⟨rfl, rfl⟩)
          go_ret
          exact ⟨rfl, hB8⟩
end Go.Proofs.Ytaakgdjlbokopaa
