/- Texts as lists of bytes; a row of bytes that the call itself makes, and the text made of it. No condition. -/
import Derived.Test.YtminclapchnheaaDoorBase
import Derived.Laws.BytesArg
import Derived.Maps.AppendAt
import Derived.WalkSmall
namespace Go.Proofs.YtminclapchnheaaDoor
open Go.RowKit
set_option linter.unusedVariables false
set_option linter.unusedSimpArgs false

/-- The text of a list of bytes. -/
def bs (l : List UInt8) : ByteArray := ⟨l.toArray⟩
theorem bs_size (l : List UInt8) : (bs l).size = l.length := by show l.toArray.size = _; simp
theorem bs_list (l : List UInt8) : (bs l).data.toList = l := by show l.toArray.toList = l; simp
theorem bs_of (s : ByteArray) : bs s.data.toList = s := rfl
theorem bs_append (a b : List UInt8) : bs a ++ bs b = bs (a ++ b) := by
  apply ByteArray.ext
  show (bs a ++ bs b).data = (a ++ b).toArray
  rw [ByteArray.data_append]
  show a.toArray ++ b.toArray = _
  simp
theorem app_list (a b : ByteArray) : (a ++ b).data.toList = a.data.toList ++ b.data.toList := by rw [ByteArray.data_append]; simp
theorem ba_ext {a b : ByteArray} (h : a.data.toList = b.data.toList) : a = b := by
  apply ByteArray.ext
  exact Array.toList_inj.1 h
theorem str_eq {a b : ByteArray} (h : a = b) : Value.string a = Value.string b := by rw [h]

def byteVals (l : List UInt8) : List Value := l.map fun c => .int .u8 (c.toNat : Int)
theorem byteVals_append (a b : List UInt8) : byteVals (a ++ b) = byteVals a ++ byteVals b := by unfold byteVals; simp
theorem byteVals_len (l : List UInt8) : (byteVals l).length = l.length := by unfold byteVals; simp

/-- v is a row of the call's own, from block 'base' on, that holds the bytes l. -/
def Buf (w : World) (base : Nat) (e : TypeId) (v : Value) (l : List UInt8) : Prop := w.ownsRow base e 1 v l.length (byteVals l)

theorem Buf.one {w : World} {base : Nat} {e : TypeId} {v : Value} {l : List UInt8} {c : UInt8} {x : Int} (h : w.ownsRow base e 1 v (l.length + 1) (byteVals l ++ [.int .u8 x])) (hx : x = (c.toNat : Int)) : Buf w base e v (l ++ [c]) := by
  unfold Buf
  rw [byteVals_append, List.length_append]
  subst hx
  exact h
theorem Buf.two {w : World} {base : Nat} {e : TypeId} {v : Value} {l : List UInt8} {c d : UInt8} {x y : Int} (h : w.ownsRow base e 1 v (l.length + 2) (byteVals l ++ [.int .u8 x, .int .u8 y])) (hx : x = (c.toNat : Int)) (hy : y = (d.toNat : Int)) : Buf w base e v (l ++ [c, d]) := by
  unfold Buf
  rw [byteVals_append, List.length_append]
  subst hx; subst hy
  exact h
theorem Buf.own {w : World} {base : Nat} {e : TypeId} {v : Value} {l : List UInt8} (h : Buf w base e v l) : w.ownsRow base e 1 v l.length (byteVals l) := h
theorem Buf.lt {w : World} {base : Nat} {e : TypeId} {v : Value} {l : List UInt8} (h : Buf w base e v l) : ∀ k, v.ownBlock = some k → base ≤ k := fun k hk => (World.ownsRow.lt h k hk).1
theorem oneCell_one (x : Int) : ∀ u ∈ [Value.int .u8 x], u.oneCell' = true := fun u hu => by simp at hu; subst hu; rfl
theorem oneCell_two (x y : Int) : ∀ u ∈ [Value.int .u8 x, .int .u8 y], u.oneCell' = true := fun u hu => by
  simp at hu
  rcases hu with rfl | rfl <;> rfl

theorem strOfNums_bytes (l : List UInt8) : strOfNums (l.map fun c => (c.toNat : Int)) = bs l := by
  unfold strOfNums bs
  congr 1
  rw [List.map_map]
  congr 1
  conv => rhs; rw [← List.map_id l]
  apply List.map_congr_left
  intro c _
  simp

theorem Buf.text {w : World} {base : Nat} {P : Program} {src dst e : TypeId} {v : Value} {l : List UInt8} (h : Buf w base e v l) (hs : P.underlying src = some (.slice e)) (he : P.underlying e = some (.int .u8)) (hd : P.underlying dst = some .string) :
    (convert src dst v).run P w = .ok (.string (bs l)) w := by
  have h' := h
  obtain ⟨hl, hv | ⟨g, cap, cur, hv, hg, hh, hn, hm, hc, ht⟩⟩ := h'
  · obtain ⟨rfl, h0⟩ := hv
    have : l = [] := List.length_eq_zero_iff.1 h0
    subst this
    exact run_convert_bytes_nil w src e hs he 0 0 dst hd
  · subst hv
    have key := run_convert_bytes_arg (P := P) w src e hs he g 0 l.length cap (l.map fun c => (c.toNat : Int)) (by simp) (fun i hi => by
      have h2 := World.ownsRow.cellAt h i (by omega)
      rw [Nat.zero_add, h2]
      unfold byteVals
      simp [List.getD, hi]) dst hd
    rw [key, strOfNums_bytes]
end Go.Proofs.YtminclapchnheaaDoor
