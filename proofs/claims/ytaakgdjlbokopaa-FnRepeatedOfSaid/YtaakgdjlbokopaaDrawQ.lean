/- What is drawn: a program, a text. No condition. -/
import Derived.Test.YtaakgdjlbokopaaDrawP
import Derived.Deep.RegionWith
namespace Go.Proofs.Ytaakgdjlbokopaa
open Go.RowKit
set_option linter.unusedVariables false
set_option linter.unusedSimpArgs false

set_option maxRecDepth 100000 in
set_option maxHeartbeats 8000000 in
theorem program_two {R : Nat} {a : Option Addr} {len cap : Nat} {zs : List Int} {p : Int} {w : World} (h : Reader w R a len cap zs p) (h0 : 0 ≤ p) (h1 : p ≤ 7000) :
    Calls Try.prog 44 #[.pointer (some ⟨R, 0, none⟩), .int .i64 2] w (GrowPost w R a len cap zs p 125 188) := by
  have hR := h.lt
  go_enter Try.func44, Try.ntmps44
  go_wp2_with (go_at_call 33; refine (pick_any _ h h0 (by omega) (by omega) (by omega)).mono ?_; rintro e w1 hp; obtain ⟨v, v0, v1, rfl, hr1, hg1, hs1⟩ := hp)
  have hR1 := hr1.lt
  go_loopw [5, 6] (fun o i wr => ∃ (s : ByteArray) (k p' : Int), o = .string s ∧ i = .int .i64 k ∧ -1 ≤ k ∧ k ≤ 3 ∧ (s.size : Int) + (k + 1) * 47 ≤ 188 ∧ p ≤ p' ∧ p' + (k + 1) * 31 ≤ p + 125 ∧ Reader wr R a len cap zs p' ∧ w.grownBy wr (some R)) (fun _ i _ => (intOf i + 1).toNat)
  case atStart => exact ⟨_, v, p + 1, rfl, rfl, by omega, by omega, by show ((0 : Nat) : Int) + (v + 1) * 47 ≤ 188; omega, by omega, by omega, hr1, hg1⟩
  case round =>
    obtain ⟨s, k, p', rfl, rfl, hk0, hk3, hsk, hp0, hp1, hrl, hgl⟩ := hrel
    clear hr1 hg1 hs1 h hR1
    by_cases hk : 0 ≤ k
    · go_wp2_with fail
      refine (pick_any _ hrl (by omega) (by omega) (by omega) (by omega)).mono ?_
      rintro e w2 ⟨vb, vb0, vb1, rfl, hr, hg2, hs2⟩
      have hg := hgl.trans hg2
      have hRr := hr.lt
      have hgs := hg.size
      clear hrl hgl hg2
      by_cases hvb : vb = 0
      · subst hvb
        go_wp2_with fail
        go_region_with (first
          | (go_at_call 33; refine (pick_any _ (Reader.same hr (by go_grown)) (by omega) (by omega) (by omega) (by omega)).mono ?_; rintro e wP ⟨vv, vv0, vv1, rfl, hrP, hgP, hsP⟩; obtain ⟨t, hts, hta, htb⟩ := arr_lit4 vv vv0 vv1; have hRP := hrP.lt; have hgPP := World.grownBy.trans (World.grownBy.trans hg (rw_grown (by go_grown) (some R))) hgP; try (have hcP := grown_lit (g := w2.heap.size) hgP (lit_drew w2 _ _ _ _ hta) (by omega)))
          | (go_at_call 44; refine (program_one (Reader.same hrP (by go_grown)) (by omega) (by omega)).mono ?_; rintro e wG ⟨tp, pp, rfl, htp, hpp0, hpp1, hrG, hgG⟩; have hgGG := World.grownBy.trans (World.grownBy.trans hgPP (rw_grown (by go_grown) (some R))) hgG; first | (have hcG := grown_lit (g := w2.heap.size) hgG (by exact hcP) (by omega)) | (have hcG := grown_lit (g := wP.heap.size) hgG (lit_any2 wP _ _ _ _ hta) (by omega)) | skip))
        all_goals
          try simp only [Act.put, List.setIfInBounds_toArray, List.set_cons_zero, List.set_cons_succ, List.getElem_toArray, List.getElem_cons_zero, List.getElem_cons_succ]
          go_wp2_with fail
          exact ⟨⟨_, k - 1, pp, rfl, rfl, by omega, by omega, by rw [ByteArray.size_append, ByteArray.size_append, ByteArray.size_append, ByteArray.size_append]; show ((s.size + t.size + 1 + tp.size + 1 : Nat) : Int) + _ ≤ _; omega, by omega, by omega, Reader.same hrG (by go_grown), World.grownBy.trans hgGG (rw_grown (by go_grown) _)⟩, by simp [intOf]; omega⟩
      · have hvn : ¬ vb = 0 := hvb
        have hvbb : (vb == 0) = false := by simpa using hvb
        go_wp2_with (go_at_call 33; refine (pick_any _ (hr.alloc _) (by omega) (by omega) (by omega) (by omega)).mono ?_; rintro e w3 hp; obtain ⟨v2, v20, v21, rfl, hr2, hg2, hs2⟩ := hp; obtain ⟨t, ht, hts⟩ := lit_any [⟨#[70]⟩, ⟨#[76]⟩, ⟨#[82]⟩, ⟨#[70, 70]⟩, ⟨#[70, 76]⟩] 2 hg2 hRr v20 v21 (by decide))
        have hgw : w.grownBy w3 (some R) := (hg.trans (World.grownBy_alloc _ _ _)).trans hg2
        exact ⟨⟨s ++ t, k - 1, p' + 1 + 1, rfl, rfl, by omega, by omega, by rw [ByteArray.size_append]; omega, by omega, by omega, hr2, hgw⟩, by simp [intOf]; omega⟩
    · go_wp2_with fail
      go_ret
      exact ⟨s, p', rfl, by omega, by omega, by omega, hrl, hgl⟩
end Go.Proofs.Ytaakgdjlbokopaa
