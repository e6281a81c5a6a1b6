/- What is drawn: a program, a text. No condition. -/
import Derived.Test.YtaakgdjlbokopaaDrawW
import Derived.Test.YtaakgdjlbokopaaRe
import Derived.Deep.RegionWith
namespace Go.Proofs.Ytaakgdjlbokopaa
open Go.RowKit
set_option linter.unusedVariables false
set_option linter.unusedSimpArgs false

/-- A program has been drawn. -/
def GrowPost (w : World) (R : Nat) (a : Option Addr) (len cap : Nat) (zs : List Int) (p q : Int) (m : Nat) (e : Ending) (w' : World) : Prop :=
  ∃ (s : ByteArray) (p' : Int), e = .returned (.string s) ∧ s.size ≤ m ∧ p ≤ p' ∧ p' ≤ p + q ∧ Reader w' R a len cap zs p' ∧ w.grownBy w' (some R)
theorem arr_lit (ss : List ByteArray) (m : Nat) (v : Int) (h0 : 0 ≤ v) (h1 : v < ss.length) (hm : ∀ s ∈ ss, s.size ≤ m) : ∃ t : ByteArray, t.size ≤ m ∧ (ss.map Value.string).toArray[v.toNat]? = some (.string t) := by
  have hlt : v.toNat < ss.length := by omega
  exact ⟨ss[v.toNat], hm _ (List.getElem_mem hlt), by simp [hlt]⟩
theorem grown_lit {w w' : World} {R g j : Nat} {x : Value} (hg : w.grownBy w' (some R)) (hc : w.cell? ⟨g, j, none⟩ = some x) (hne : g ≠ R) : w'.cell? ⟨g, j, none⟩ = some x := hg.cell hc (by intro e; cases e; exact hne rfl)
theorem arr_lit4 (v : Int) (h0 : 0 ≤ v) (h1 : v < 4) : ∃ t : ByteArray, t.size ≤ 1 ∧ (#[.string ⟨#[50]⟩, .string ⟨#[51]⟩, .string ⟨#[52]⟩, .string ⟨#[50]⟩] : Array Value)[v.toNat]? = some (.string t) ∧ ∀ h, ([.string ⟨#[50]⟩, .string ⟨#[51]⟩, .string ⟨#[52]⟩, .string ⟨#[50]⟩] : List Value)[v.toNat]'h = .string t := by
  obtain ⟨t, ht, ha⟩ := arr_lit [⟨#[50]⟩, ⟨#[51]⟩, ⟨#[52]⟩, ⟨#[50]⟩] 1 v h0 h1 (by decide)
  refine ⟨t, ht, ha, fun h => ?_⟩
  have ha' : ([.string ⟨#[50]⟩, .string ⟨#[51]⟩, .string ⟨#[52]⟩, .string ⟨#[50]⟩] : List Value)[v.toNat]? = some (.string t) := by simpa using ha
  rw [List.getElem?_eq_getElem h] at ha'
  exact Option.some.inj ha'
theorem lit_drew (w : World) (c : Array Value) (T : TypeId) (j : Nat) (x : Value) (h : c[j]? = some x) : (w.alloc (.cells c T)).drew.cell? ⟨w.heap.size, j, none⟩ = some x := by
  show (w.alloc (.cells c T)).cell? _ = _
  rw [World.cell?_alloc_new]; exact h
theorem lit_any2 (w : World) (c : Array Value) (T : TypeId) (j : Nat) (x : Value) (h : c[j]? = some x) : (w.alloc (.cells c T)).cell? ⟨w.heap.size, j, none⟩ = some x := by
  rw [World.cell?_alloc_new]; exact h
set_option maxRecDepth 100000 in
set_option maxHeartbeats 2000000 in
theorem program_zero {R : Nat} {a : Option Addr} {len cap : Nat} {zs : List Int} {p : Int} {w : World} (h : Reader w R a len cap zs p) (h0 : 0 ≤ p) (h1 : p ≤ 9000) :
    Calls Try.prog 44 #[.pointer (some ⟨R, 0, none⟩), .int .i64 0] w (GrowPost w R a len cap zs p 5 8) := by
  have hR := h.lt
  go_enter Try.func44, Try.ntmps44
  go_wp2_with (go_at_call 33; refine (pick_any _ h h0 (by omega) (by omega) (by omega)).mono ?_; rintro e w1 hp; obtain ⟨v, v0, v1, rfl, hr1, hg1, hs1⟩ := hp)
  have hR1 := hr1.lt
  go_loopw [5, 6] (fun o i wr => ∃ (s : ByteArray) (k p' : Int), o = .string s ∧ i = .int .i64 k ∧ -1 ≤ k ∧ k ≤ 3 ∧ (s.size : Int) + (k + 1) * 2 ≤ 8 ∧ p ≤ p' ∧ p' + (k + 1) ≤ p + 5 ∧ Reader wr R a len cap zs p' ∧ w.grownBy wr (some R)) (fun _ i _ => (intOf i + 1).toNat)
  case atStart => exact ⟨_, v, p + 1, rfl, rfl, by omega, by omega, by show ((0 : Nat) : Int) + (v + 1) * 2 ≤ 8; omega, by omega, by omega, hr1, hg1⟩
  case round =>
    obtain ⟨s, k, p', rfl, rfl, hk0, hk3, hsk, hp0, hp1, hr, hg⟩ := hrel
    have hRr := hr.lt
    have hgs := hg.size
    clear hr1 hg1 hs1 h hR1
    by_cases hk : 0 ≤ k
    · go_wp2_with (go_at_call 33; refine (pick_any _ (hr.alloc _) (by omega) (by omega) (by omega) (by omega)).mono ?_; rintro e w2 hp; obtain ⟨v2, v20, v21, rfl, hr2, hg2, hs2⟩ := hp; obtain ⟨t, ht, hts⟩ := lit_any [⟨#[70]⟩, ⟨#[76]⟩, ⟨#[82]⟩, ⟨#[70, 70]⟩, ⟨#[70, 76]⟩] 2 hg2 hRr v20 v21 (by decide))
      have hgw : w.grownBy w2 (some R) := (hg.trans (World.grownBy_alloc _ _ _)).trans hg2
      exact ⟨⟨s ++ t, k - 1, p' + 1, rfl, rfl, by omega, by omega, by rw [ByteArray.size_append]; omega, by omega, by omega, hr2, hgw⟩, by simp [intOf]; omega⟩
    · go_wp2_with fail
      go_ret
      exact ⟨s, p', rfl, by omega, by omega, by omega, hr, hg⟩
set_option maxRecDepth 100000 in
set_option maxHeartbeats 8000000 in
theorem program_one {R : Nat} {a : Option Addr} {len cap : Nat} {zs : List Int} {p : Int} {w : World} (h : Reader w R a len cap zs p) (h0 : 0 ≤ p) (h1 : p ≤ 8000) :
    Calls Try.prog 44 #[.pointer (some ⟨R, 0, none⟩), .int .i64 1] w (GrowPost w R a len cap zs p 29 44) := by
  have hR := h.lt
  go_enter Try.func44, Try.ntmps44
  go_wp2_with (go_at_call 33; refine (pick_any _ h h0 (by omega) (by omega) (by omega)).mono ?_; rintro e w1 hp; obtain ⟨v, v0, v1, rfl, hr1, hg1, hs1⟩ := hp)
  have hR1 := hr1.lt
  go_loopw [5, 6] (fun o i wr => ∃ (s : ByteArray) (k p' : Int), o = .string s ∧ i = .int .i64 k ∧ -1 ≤ k ∧ k ≤ 3 ∧ (s.size : Int) + (k + 1) * 11 ≤ 44 ∧ p ≤ p' ∧ p' + (k + 1) * 7 ≤ p + 29 ∧ Reader wr R a len cap zs p' ∧ w.grownBy wr (some R)) (fun _ i _ => (intOf i + 1).toNat)
  case atStart => exact ⟨_, v, p + 1, rfl, rfl, by omega, by omega, by show ((0 : Nat) : Int) + (v + 1) * 11 ≤ 44; omega, by omega, by omega, hr1, hg1⟩
  case round =>
    obtain ⟨s, k, p', rfl, rfl, hk0, hk3, hsk, hp0, hp1, hrl, hgl⟩ := hrel
    clear hr1 hg1 hs1 h hR1
    by_cases hk : 0 ≤ k
    · go_wp2_with fail
      refine (pick_any _ hrl (by omega) (by omega) (by omega) (by omega)).mono ?_
      rintro e w2 ⟨vb, vb0, vb1, rfl, hr, hg2, hs2⟩
      have hg := hgl.trans hg2
      have hRr := hr.lt
      have hgs := hg.size
      clear hrl hgl hg2
      by_cases hvb : vb = 0
      · subst hvb
        go_wp2_with fail
        go_region_with (first
          | (go_at_call 33; refine (pick_any _ (Reader.same hr (by go_grown)) (by omega) (by omega) (by omega) (by omega)).mono ?_; rintro e wP ⟨vv, vv0, vv1, rfl, hrP, hgP, hsP⟩; obtain ⟨t, hts, hta, htb⟩ := arr_lit4 vv vv0 vv1; have hRP := hrP.lt; have hgPP := World.grownBy.trans (World.grownBy.trans hg (rw_grown (by go_grown) (some R))) hgP; try (have hcP := grown_lit (g := w2.heap.size) hgP (lit_drew w2 _ _ _ _ hta) (by omega)))
          | (go_at_call 44; refine (program_zero (Reader.same hrP (by go_grown)) (by omega) (by omega)).mono ?_; rintro e wG ⟨tp, pp, rfl, htp, hpp0, hpp1, hrG, hgG⟩; have hgGG := World.grownBy.trans (World.grownBy.trans hgPP (rw_grown (by go_grown) (some R))) hgG; first | (have hcG := grown_lit (g := w2.heap.size) hgG (by exact hcP) (by omega)) | (have hcG := grown_lit (g := wP.heap.size) hgG (lit_any2 wP _ _ _ _ hta) (by omega)) | skip))
        all_goals
          try simp only [Act.put, List.setIfInBounds_toArray, List.set_cons_zero, List.set_cons_succ, List.getElem_toArray, List.getElem_cons_zero, List.getElem_cons_succ]
          go_wp2_with fail
          exact ⟨⟨_, k - 1, pp, rfl, rfl, by omega, by omega, by rw [ByteArray.size_append, ByteArray.size_append, ByteArray.size_append, ByteArray.size_append]; show ((s.size + t.size + 1 + tp.size + 1 : Nat) : Int) + _ ≤ _; omega, by omega, by omega, Reader.same hrG (by go_grown), World.grownBy.trans hgGG (rw_grown (by go_grown) _)⟩, by simp [intOf]; omega⟩
      · have hvn : ¬ vb = 0 := hvb
        have hvbb : (vb == 0) = false := by simpa using hvb
        go_wp2_with (go_at_call 33; refine (pick_any _ (hr.alloc _) (by omega) (by omega) (by omega) (by omega)).mono ?_; rintro e w3 hp; obtain ⟨v2, v20, v21, rfl, hr2, hg2, hs2⟩ := hp; obtain ⟨t, ht, hts⟩ := lit_any [⟨#[70]⟩, ⟨#[76]⟩, ⟨#[82]⟩, ⟨#[70, 70]⟩, ⟨#[70, 76]⟩] 2 hg2 hRr v20 v21 (by decide))
        have hgw : w.grownBy w3 (some R) := (hg.trans (World.grownBy_alloc _ _ _)).trans hg2
        exact ⟨⟨s ++ t, k - 1, p' + 1 + 1, rfl, rfl, by omega, by omega, by rw [ByteArray.size_append]; omega, by omega, by omega, hr2, hgw⟩, by simp [intOf]; omega⟩
    · go_wp2_with fail
      go_ret
      exact ⟨s, p', rfl, by omega, by omega, by omega, hrl, hgl⟩
end Go.Proofs.Ytaakgdjlbokopaa
