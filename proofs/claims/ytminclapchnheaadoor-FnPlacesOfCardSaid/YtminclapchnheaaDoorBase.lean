/- Words and small lemmas that the walks share: a list of bytes that came in, the table of directions, what lies below a block. No condition. -/
import Derived.Test.YtminclapchnheaaDoorProg
import Derived.Test.YtminclapchnheaaDoorTwA
import Derived.Handy
import Derived.Maps.AppendAt
import Derived.Maps.Range
import Derived.WalkLawsBesides
import Derived.WalkSpells
import Derived.Lib.Hide
import Derived.BigQuiet
import Derived.Deep.QuietTactic
import Derived.Deep.RegionHeld3
import Derived.Deep.RegionWith
import Derived.Deep.DeepCutAuto
import Derived.Deep.LoopGhost
namespace Go.Proofs.YtminclapchnheaaDoor
set_option linter.unusedVariables false
set_option linter.unusedSimpArgs false
open Go.RowKit

/-- A list of bytes that came in: nil, or a row of 'cap' cells. -/
def IsRow (w : World) (a : Option Addr) (len cap : Nat) (zs : List Int) : Prop :=
  (a = none ∧ len = 0 ∧ cap = 0 ∧ zs = []) ∨
  ∃ x, a = some x ∧ len ≤ cap ∧ cap ≤ maxLen ∧ zs.length = cap ∧ (∀ i, i < zs.length → w.cell? (x.add i) = some (.int .u8 (zs.getD i 0))) ∧ ∀ n ∈ zs, (Lit.int .u8 n).wf = true

theorem cell_lt' {w : World} {a : Addr} {v : Value} (h : w.cell? a = some v) : a.block < w.heap.size := by
  rcases Nat.lt_or_ge a.block w.heap.size with hb | hb
  · exact hb
  · unfold World.cell? at h
    rw [Array.getElem?_eq_none hb] at h
    cases h
theorem cell_lt {w : World} {b o : Nat} {v : Value} (h : w.cell? ⟨b, o, none⟩ = some v) : b < w.heap.size := cell_lt' (a := ⟨b, o, none⟩) h
/-- The table of directions holds what the program's own text lays. -/
def Dirs (w : World) : Prop :=
  w.cell? ⟨0, 0, none⟩ = some (.int .i64 1) ∧ w.cell? ⟨0, 1, none⟩ = some (.int .i64 0) ∧ w.cell? ⟨0, 2, none⟩ = some (.int .i64 0) ∧ w.cell? ⟨0, 3, none⟩ = some (.int .i64 1) ∧
  w.cell? ⟨0, 4, none⟩ = some (.int .i64 (-1)) ∧ w.cell? ⟨0, 5, none⟩ = some (.int .i64 0) ∧ w.cell? ⟨0, 6, none⟩ = some (.int .i64 0) ∧ w.cell? ⟨0, 7, none⟩ = some (.int .i64 (-1))
theorem Dirs.lt {w : World} (h : Dirs w) : 0 < w.heap.size := cell_lt h.1
theorem Dirs.below {w w' : World} {B : Nat} (hb : Below B w w') (hB : 0 < B) (h : Dirs w) : Dirs w' := by
  obtain ⟨h0, h1, h2, h3, h4, h5, h6, h7⟩ := h
  exact ⟨(hb.cell hB).trans h0, (hb.cell hB).trans h1, (hb.cell hB).trans h2, (hb.cell hB).trans h3, (hb.cell hB).trans h4, (hb.cell hB).trans h5, (hb.cell hB).trans h6, (hb.cell hB).trans h7⟩
theorem Dirs.same {w w' : World} (hb : Below w.heap.size w w') (h : Dirs w) : Dirs w' := Dirs.below hb h.lt h

theorem bcell {W w1 : World} {B : Nat} (hb : Below B W w1) : (∀ b o, b < B → w1.cell? ⟨b, o, none⟩ = W.cell? ⟨b, o, none⟩) ∧ (∀ b o, b < B → w1.frozen? ⟨b, o, none⟩ = W.frozen? ⟨b, o, none⟩) :=
  ⟨fun b o h => hb.cell (p := ⟨b, o, none⟩) h, fun b o h => hb.frozen (p := ⟨b, o, none⟩) h⟩

theorem Below.up {B : Nat} {w a b : World} (h : Below B w a) (hB : B ≤ a.heap.size) (hb : Below a.heap.size a b) : Below B w b := h.trans (hb.mono hB)

/-- Block b is three cells of the call's own. -/
def Cells3 (w : World) (b : Nat) (x y z : Value) : Prop :=
  (w.cell? ⟨b, 0, none⟩ = some x ∧ w.cell? ⟨b, 1, none⟩ = some y ∧ w.cell? ⟨b, 2, none⟩ = some z) ∧ w.frozen? ⟨b, 0, none⟩ = false ∧ w.frozen? ⟨b, 1, none⟩ = false ∧ w.frozen? ⟨b, 2, none⟩ = false
theorem Cells3.new (w : World) (x y z : Value) (T : TypeId) : Cells3 (w.alloc (.cells #[x, y, z] T)) w.heap.size x y z := by
  refine ⟨⟨?_, ?_, ?_⟩, ?_, ?_, ?_⟩ <;> simp
theorem Cells3.lt {w : World} {b : Nat} {x y z : Value} (h : Cells3 w b x y z) : b < w.heap.size := cell_lt h.1.1
theorem Cells3.block {w w' : World} {b : Nat} {x y z : Value} (h : Cells3 w b x y z) (hb : w'.heap[b]? = w.heap[b]?) : Cells3 w' b x y z := by
  have hc : ∀ o, w'.cell? ⟨b, o, none⟩ = w.cell? ⟨b, o, none⟩ := fun o => World.cell?_of_block (a := ⟨b, o, none⟩) hb
  have hf : ∀ o, w'.frozen? ⟨b, o, none⟩ = w.frozen? ⟨b, o, none⟩ := fun o => World.frozen?_of_block (a := ⟨b, o, none⟩) hb
  exact ⟨⟨(hc 0).trans h.1.1, (hc 1).trans h.1.2.1, (hc 2).trans h.1.2.2⟩, (hf 0).trans h.2.1, (hf 1).trans h.2.2.1, (hf 2).trans h.2.2.2⟩
theorem Cells3.grown {w w' : World} {b R : Nat} {x y z : Value} (h : Cells3 w b x y z) (hg : w.grownBy w' (some R)) (hR : R < b) : Cells3 w' b x y z := h.block (hg.block b h.lt (fun e => by cases e; omega))
theorem Cells3.alloc {w : World} {b : Nat} {x y z : Value} (h : Cells3 w b x y z) (o : Obj) : Cells3 (w.alloc o) b x y z := h.block (Below.heap_alloc _ _ _ h.lt)
theorem Cells3.store {w : World} {b : Nat} {x y z : Value} (h : Cells3 w b x y z) (x' y' z' : Value) : Cells3 (((w.setCell ⟨b, 0, none⟩ x').setCell ⟨b, 1, none⟩ y').setCell ⟨b, 2, none⟩ z') b x' y' z' := by
  obtain ⟨⟨ha, hb, hc⟩, hd, he, hf⟩ := h
  refine ⟨⟨?_, ?_, ?_⟩, ?_, ?_, ?_⟩ <;> simp [go_sem, ha, hb, hc, hd, he, hf]
theorem Cells3.store2 {w : World} {b : Nat} {x y z : Value} (h : Cells3 w b x y z) (z' : Value) : Cells3 (w.setCell ⟨b, 2, none⟩ z') b x y z' := by
  obtain ⟨⟨ha, hb, hc⟩, hd, he, hf⟩ := h
  refine ⟨⟨?_, ?_, ?_⟩, ?_, ?_, ?_⟩ <;> simp [go_sem, ha, hb, hc, hd, he, hf]
theorem Cells3.other {w : World} {b : Nat} {x y z : Value} (h : Cells3 w b x y z) {a : Addr} (ha : b ≠ a.block) (v : Value) : Cells3 (w.setCell a v) b x y z := h.block (Below.heap_setCell _ _ _ _ ha)
theorem Cells3.below {w w' : World} {b B : Nat} {x y z : Value} (h : Cells3 w b x y z) (hb : Below B w w') (hB : b < B) : Cells3 w' b x y z := h.block (hb.block b hB)
theorem ret_int {k : IntKind} {a b : Int} (h : a = b) : Ending.returned (.int k a) = .returned (.int k b) := by rw [h]
theorem int_eq {k : IntKind} {a b : Int} (h : a = b) : Value.int k a = Value.int k b := by rw [h]
theorem bool_eq {a b : Bool} (h : a = b) : Value.bool a = Value.bool b := by rw [h]
theorem ret2 {a b c d : Value} (h : a = c) (h' : b = d) : Ending.returned (.tuple #[a, b]) = .returned (.tuple #[c, d]) := by rw [h, h']
theorem ret_bool {a b : Bool} (h : a = b) : Ending.returned (.bool a) = .returned (.bool b) := by rw [h]

/-! A text's bytes. -/
theorem take_snoc (s : ByteArray) (k : Nat) (h : k < s.size) : s.data.toList.take (k + 1) = s.data.toList.take k ++ [s[k]] := by
  rw [List.take_succ_eq_append_getElem (by simpa using h)]; rfl
theorem bytes_len (s : ByteArray) : s.data.toList.length = s.size := by rw [Array.length_toList]; rfl
theorem take_all (s : ByteArray) : s.data.toList.take s.size = s.data.toList := by rw [← bytes_len]; exact List.take_length
theorem byte_mem (s : ByteArray) (k : Nat) (h : k < s.size) : s[k] ∈ s.data.toList := by
  have : s[k] = s.data.toList[k]'(by rw [bytes_len]; exact h) := rfl
  rw [this]; exact List.getElem_mem _
theorem byte_eq (c : UInt8) (n : Nat) (hn : n < 256) : c = UInt8.ofNat n ↔ (c.toNat : Int) = n := by
  constructor
  · rintro rfl; simp; omega
  · intro h
    apply UInt8.toNat_inj.1
    simp; omega
theorem byte_le (c : UInt8) : (c.toNat : Int) ≤ 255 := by have := c.toNat_lt; omega
end Go.Proofs.YtminclapchnheaaDoor
