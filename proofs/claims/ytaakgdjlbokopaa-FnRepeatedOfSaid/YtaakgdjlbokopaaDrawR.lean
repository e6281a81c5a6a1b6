/- What is drawn: a text that is often a program. No condition. -/
import Derived.Test.YtaakgdjlbokopaaDrawQ
import Derived.Deep.RegionWith
namespace Go.Proofs.Ytaakgdjlbokopaa
open Go.RowKit
set_option linter.unusedVariables false
set_option linter.unusedSimpArgs false

theorem ext_size (s : ByteArray) (a b : Nat) (h : a ≤ b) (h2 : b ≤ s.size) : (s.extract a b).size = b - a := by
  rw [ByteArray.size_extract]; omega
/-- Pieces of a text: what lies ahead of k, one byte, what lies from k on. -/
theorem cut_head (s : ByteArray) (k : Nat) (h : k ≤ s.size) : ∃ t : ByteArray, t.size = k ∧ ∀ wx, (Instr.slice 9 (.string s) none (some (.int .i64 (k : Int))) none).run Try.prog wx = .ok (.string t) wx :=
  ⟨s.extract 0 k, by rw [ext_size s 0 k (by omega) h]; omega, fun wx => by have := run_slice_string_h (P := Try.prog) wx 9 s Try.underlying9 .i64 (k : Int) (by omega) (by omega); simpa using this⟩
theorem cut_tail (s : ByteArray) (k : Int) (h0 : 0 ≤ k) (h : k ≤ s.size) : ∃ t : ByteArray, (t.size : Int) = s.size - k ∧ ∀ wx, (Instr.slice 9 (.string s) (some (.int .i64 k)) none none).run Try.prog wx = .ok (.string t) wx := by
  obtain ⟨k, rfl⟩ : ∃ n : Nat, k = n := ⟨k.toNat, by omega⟩
  exact ⟨s.extract k s.size, by rw [ext_size s k _ (by omega) (by omega)]; omega, fun wx => by have := run_slice_string_l (P := Try.prog) wx 9 s Try.underlying9 .i64 (k : Int) (by omega) (by omega); simpa using this⟩
theorem cut_one (s : ByteArray) (k : Int) (h0 : 0 ≤ k) (h : k + 1 ≤ s.size) : ∃ t : ByteArray, t.size = 1 ∧ ∀ wx, (Instr.slice 9 (.string s) (some (.int .i64 k)) (some (.int .i64 (k + 1))) none).run Try.prog wx = .ok (.string t) wx := by
  obtain ⟨k, rfl⟩ : ∃ n : Nat, k = n := ⟨k.toNat, by omega⟩
  refine ⟨s.extract k (k + 1), by rw [ext_size s k _ (by omega) (by omega)]; omega, fun wx => ?_⟩
  have := run_slice_string (P := Try.prog) wx 9 s .i64 .i64 (k : Int) ((k : Int) + 1) Try.underlying9 (by omega) (by omega) h
  have e1 : ((k : Int) + 1).toNat = k + 1 := by omega
  rw [e1] at this
  simpa using this
theorem arr_lit5 (v : Int) (h0 : 0 ≤ v) (h1 : v < 5) : ∃ t : ByteArray, t.size ≤ 4 ∧ (#[.string ⟨#[49, 40, 70, 41]⟩, .string ⟨#[40]⟩, .string ⟨#[41]⟩, .string ⟨#[120]⟩, .string ⟨#[51]⟩] : Array Value)[v.toNat]? = some (.string t) ∧ ∀ h, ([.string ⟨#[49, 40, 70, 41]⟩, .string ⟨#[40]⟩, .string ⟨#[41]⟩, .string ⟨#[120]⟩, .string ⟨#[51]⟩] : List Value)[v.toNat]'h = .string t := by
  obtain ⟨t, ht, ha⟩ := arr_lit [⟨#[49, 40, 70, 41]⟩, ⟨#[40]⟩, ⟨#[41]⟩, ⟨#[120]⟩, ⟨#[51]⟩] 4 v h0 h1 (by decide)
  refine ⟨t, ht, ha, fun h => ?_⟩
  have ha' : ([.string ⟨#[49, 40, 70, 41]⟩, .string ⟨#[40]⟩, .string ⟨#[41]⟩, .string ⟨#[120]⟩, .string ⟨#[51]⟩] : List Value)[v.toNat]? = some (.string t) := by simpa using ha
  rw [List.getElem?_eq_getElem h] at ha'
  exact Option.some.inj ha'
theorem arr_num8 (v : Int) (h0 : 0 ≤ v) (h1 : v < 8) : ∃ z : Int, 0 ≤ z ∧ z ≤ 4 ∧ (#[.int .i64 0, .int .i64 0, .int .i64 0, .int .i64 0, .int .i64 1, .int .i64 2, .int .i64 3, .int .i64 4] : Array Value)[v.toNat]? = some (.int .i64 z) := by
  have hv : v = 0 ∨ v = 1 ∨ v = 2 ∨ v = 3 ∨ v = 4 ∨ v = 5 ∨ v = 6 ∨ v = 7 := by omega
  rcases hv with rfl | rfl | rfl | rfl | rfl | rfl | rfl | rfl
  all_goals exact ⟨_, by omega, by omega, rfl⟩
theorem arr_text (tp : ByteArray) (htp : tp.size ≤ 188) (z : Int) (h0 : 0 ≤ z) (h1 : z ≤ 4) : ∃ t : ByteArray, t.size ≤ 188 ∧ (#[.string tp, .string ⟨#[]⟩, .string ⟨#[52, 40, 70, 82, 41]⟩, .string ⟨#[57, 40, 57, 40, 57, 40, 70, 41, 41, 41]⟩, .string ⟨#[51, 40, 41]⟩] : Array Value)[z.toNat]? = some (.string t) := by
  have hv : z = 0 ∨ z = 1 ∨ z = 2 ∨ z = 3 ∨ z = 4 := by omega
  rcases hv with rfl | rfl | rfl | rfl | rfl
  · exact ⟨tp, htp, rfl⟩
  all_goals exact ⟨_, by decide, rfl⟩
set_option maxRecDepth 100000 in
set_option maxHeartbeats 4000000 in
theorem text_any (n : Int) {R : Nat} {a : Option Addr} {len cap : Nat} {zs : List Int} {p : Int} {w : World} (h : Reader w R a len cap zs p) (h0 : 0 ≤ p) (h1 : p ≤ 900) (hn : 1 ≤ n) (hn2 : n ≤ 1000000) :
    Calls Try.prog 32 #[.pointer (some ⟨R, 0, none⟩), .int .i64 n] w (GrowPost w R a len cap zs p 200 192) := by
  have hR := h.lt
  go_enter Try.func32, Try.ntmps32
  go_wp2_with fail
  refine (program_two h h0 (by omega)).mono ?_
  rintro e wG ⟨tp, pp, rfl, htp, hpp0, hpp1, hrG, hgG⟩
  have hRG := hrG.lt
  go_wp2_with fail
  refine (pick_any _ (Reader.same hrG (by go_grown)) (by omega) (by omega) (by omega) (by omega)).mono ?_
  rintro e w1 ⟨v, v0, v1, rfl, hr1, hg1, hs1⟩
  obtain ⟨z, z0, z1, hza⟩ := arr_num8 v v0 v1
  obtain ⟨t, ht, hta⟩ := arr_text tp htp z z0 z1
  have hgw : w.grownBy w1 (some R) := World.grownBy.trans (World.grownBy.trans hgG (rw_grown (by go_grown) _)) hg1
  have hcI := grown_lit (g := wG.heap.size + 1) (j := v.toNat) (x := .int .i64 z) hg1 (by simpa using hza) (by omega)
  have hcS := grown_lit (g := wG.heap.size) (j := z.toNat) (x := .string t) hg1 (by simpa using hta) (by omega)
  clear hg1
  go_wp2_with fail
  refine (odd_any _ hr1 (by omega) (by omega) hn hn2).mono ?_
  rintro e w2 ⟨b, rfl, hr2, hg2, hs2⟩
  have hgw2 := World.grownBy.trans hgw hg2
  have hR2 := hr2.lt
  cases b
  · go_wp2_with fail
    go_ret
    exact ⟨t, _, rfl, by omega, by omega, by omega, hr2, hgw2⟩
  · go_wp2_with fail
    refine (pick_any _ hr2 (by omega) (by omega) (by omega) (by omega)).mono ?_
    rintro e w3 ⟨v3, v30, v31, rfl, hr3, hg3, hs3⟩
    have hgw3 := World.grownBy.trans hgw2 hg3
    have hR3 := hr3.lt
    obtain ⟨k, rfl⟩ : ∃ k : Nat, v3 = k := ⟨v3.toNat, by omega⟩
    obtain ⟨tA, zA, hA⟩ := cut_head t k (by omega)
    obtain ⟨tE, zE, hE⟩ := cut_tail t (k : Int) (by omega) (by omega)
    clear hcI hcS hza hta hg3 hg2
    go_wp2_with fail
    go_region_with (first
      | (go_at_call 33; refine (pick_any _ (Reader.same hr3 (by go_grown)) (by omega) (by omega) (by omega) (by omega)).mono ?_; rintro e wP ⟨vv, vv0, vv1, rfl, hrP, hgP, hsP⟩; obtain ⟨tl, htl, hla, hlb⟩ := arr_lit5 vv vv0 vv1; have hRP := hrP.lt; have hgPP := World.grownBy.trans (World.grownBy.trans hgw3 (rw_grown (by go_grown) (some R))) hgP; try (have hcP := grown_lit (g := w3.heap.size) hgP (lit_drew w3 _ _ _ _ hla) (by omega))))
    all_goals
      try simp only [Act.put, List.setIfInBounds_toArray, List.set_cons_zero, List.set_cons_succ, List.getElem_toArray, List.getElem_cons_zero, List.getElem_cons_succ]
      go_wp2_with fail
      go_ret
      exact ⟨tA ++ tl ++ tE, _, rfl, by rw [ByteArray.size_append, ByteArray.size_append]; omega, by omega, by omega, Reader.same hrP (by go_grown), World.grownBy.trans hgPP (rw_grown (by go_grown) _)⟩
end Go.Proofs.Ytaakgdjlbokopaa
