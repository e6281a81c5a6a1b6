/- What is drawn: a reader over the bytes that came in; a word; a turtle. No condition. -/
import Derived.Test.YtminclapchnheaaDoorDraw
import Derived.OpenShut
namespace Go.Proofs.YtminclapchnheaaDoor
open Go.RowKit
set_option linter.unusedVariables false
set_option linter.unusedSimpArgs false

def OpenPost (w : World) (zs : List Int) (e : Ending) (w' : World) : Prop :=
  ∃ (R : Nat) (a : Option Addr) (len cap : Nat), e = .returned (.pointer (some ⟨R, 0, none⟩)) ∧ w.heap.size ≤ R ∧ Reader w' R a len cap zs 0 ∧ Below w.heap.size w w'

theorem wf_u8 {n : Int} (h : (Lit.int .u8 n).wf = true) : 0 ≤ n ∧ n ≤ 255 := by
  exact bounds_u8 h
theorem wf_all {zs : List Int} (h : ∀ n ∈ zs, (Lit.int .u8 n).wf = true) (i : Nat) : 0 ≤ zs.getD i 0 ∧ zs.getD i 0 ≤ 255 := by
  by_cases hi : i < zs.length
  · have e : zs.getD i 0 = zs[i] := by simp [List.getD, hi]
    rw [e]
    exact wf_u8 (h _ (List.getElem_mem hi))
  · have e : zs.getD i 0 = 0 := by simp [List.getD, List.getElem?_eq_none (show zs.length ≤ i by omega)]
    rw [e]; omega

theorem IsRow.same {w w' : World} {a : Option Addr} {len cap : Nat} {zs : List Int} (h : IsRow w a len cap zs) (hb : Below w.heap.size w w') : IsRow w' a len cap zs := by
  rcases h with h | ⟨x, hx, hl, hm, hz, hc, hw⟩
  · exact .inl h
  · exact .inr ⟨x, hx, hl, hm, hz, fun i hi => (hb.cell (p := x.add i) (cell_lt' (hc i hi))).trans (hc i hi), hw⟩
theorem open_any {a : Option Addr} {len cap : Nat} {zs : List Int} {w : World} (h : IsRow w a len cap zs) :
    Calls Tryd.prog 48 #[.slice a len cap] w (OpenPost w zs) := by
  rcases h with ⟨rfl, rfl, rfl, rfl⟩ | ⟨x, rfl, hl, hm, hz, hc, hwf⟩
  · go_enter Tryd.func48, Tryd.ntmps48
    go_wp2
    go_ret
    refine ⟨w.heap.size, none, 0, 0, rfl, Nat.le_refl _, ⟨?_, ?_, ?_, .inl rfl, by omega⟩, by go_grown⟩
    · simp
    · simp
    · simp
  · unfold maxLen at hm
    have hb : 0 < len → x.block < w.heap.size := fun hp => by
      have := hc 0 (by omega)
      have e : (x.add 0).block = x.block := by unfold Addr.add; split <;> rfl
      rw [← e]
      exact cell_lt' this
    have HC := Lib.hid hc; clear hc
    have HW := Lib.hid (wf_all hwf); clear hwf
    have HB := Lib.hid hb; clear hb
    by_cases hbig : 2000 < len
    · go_enter Tryd.func48, Tryd.ntmps48
      go_wp2
      go_ret
      have hB : Below w.heap.size w (w.alloc (.cells #[.slice (some x) 2000 cap, .int .i64 0] 63)) := by go_grown
      refine ⟨w.heap.size, some x, 2000, cap, rfl, Nat.le_refl _, ⟨?_, ?_, ?_, ?_, by omega⟩, hB⟩
      · simp
      · simp
      · simp
      · refine .inr ⟨x, rfl, HB.out (by omega), by omega, fun i hi => ?_, HW.out⟩
        have e : (x.add i).block = x.block := by unfold Addr.add; split <;> rfl
        exact (hB.cell (p := x.add i) (by rw [e]; exact HB.out (by omega))).trans (HC.out i (by omega))
    · go_enter Tryd.func48, Tryd.ntmps48
      go_wp2
      go_ret
      have hB : Below w.heap.size w (w.alloc (.cells #[.slice (some x) len cap, .int .i64 0] 63)) := by go_grown
      refine ⟨w.heap.size, some x, len, cap, rfl, Nat.le_refl _, ⟨?_, ?_, ?_, ?_, by omega⟩, hB⟩
      · simp
      · simp
      · simp
      · by_cases h0 : len = 0
        · exact .inl h0
        · refine .inr ⟨x, rfl, HB.out (by omega), by omega, fun i hi => ?_, HW.out⟩
          have e : (x.add i).block = x.block := by unfold Addr.add; split <;> rfl
          exact (hB.cell (p := x.add i) (by rw [e]; exact HB.out (by omega))).trans (HC.out i (by omega))

/-- A cell of a list of texts that the call itself has laid, behind a draw. -/
theorem lit_any {w w2 : World} {R : Nat} {T : TypeId} (ss : List ByteArray) {v : Int} (m : Nat) (hg : (w.alloc (.cells (ss.map Value.string).toArray T)).grownBy w2 (some R)) (hR : R < w.heap.size) (h0 : 0 ≤ v) (h1 : v < ss.length) (hm : ∀ s ∈ ss, s.size ≤ m) :
    ∃ t : ByteArray, w2.cell? ⟨w.heap.size, v.toNat, none⟩ = some (.string t) ∧ t.size ≤ m := by
  have hlt : v.toNat < ss.length := by omega
  refine ⟨ss[v.toNat], ?_, hm _ (List.getElem_mem hlt)⟩
  refine hg.cell ?_ (by simp; omega)
  rw [World.cell?_alloc_new]
  simp [hlt]

def WordPost (w : World) (R : Nat) (a : Option Addr) (len cap : Nat) (zs : List Int) (p most : Int) (e : Ending) (w' : World) : Prop :=
  ∃ (s : ByteArray) (p' : Int), e = .returned (.string s) ∧ (s.size : Int) ≤ most + 1 ∧ p ≤ p' ∧ p' ≤ p + most + 3 ∧ Reader w' R a len cap zs p' ∧ w.grownBy w' (some R)


/-- A text has been drawn: it is short, and nothing that was there has turned. -/
def TextPost (w : World) (most : Nat) (e : Ending) (w' : World) : Prop := ∃ s : ByteArray, e = .returned (.string s) ∧ s.size ≤ most ∧ Below w.heap.size w w'
theorem below_drawn {w w1 w2 : World} {R : Nat} (h : Below w.heap.size w w1) (hR : w.heap.size ≤ R) (hg : w1.grownBy w2 (some R)) : Below w.heap.size w w2 :=
  h.grown hg h.size (fun k hk => by cases hk; exact hR)
end Go.Proofs.YtminclapchnheaaDoor
