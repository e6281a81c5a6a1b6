/- The reader that draws: pick, odd. Where its place is small it returns a number below n, and only its place has moved on. -/
import Derived.Test.YtminclapchnheaaDoorBase
import Derived.Maps.AppendAt
import Derived.Maps.Range
import Derived.Deep.RegionHeld
namespace Go.Proofs.YtminclapchnheaaDoor
open Go.RowKit
set_option linter.unusedVariables false
set_option linter.unusedSimpArgs false

/-- Block R is a reader at place p over the bytes zs (the first len of them), that came in or lie below R. -/
structure Reader (w : World) (R : Nat) (a : Option Addr) (len cap : Nat) (zs : List Int) (p : Int) : Prop where
  c0 : w.cell? ⟨R, 0, none⟩ = some (.slice a len cap)
  c1 : w.cell? ⟨R, 1, none⟩ = some (.int .i64 p)
  fz : w.frozen? ⟨R, 1, none⟩ = false
  row : len = 0 ∨ ∃ x, a = some x ∧ x.block < R ∧ len ≤ zs.length ∧ (∀ i, i < len → w.cell? (x.add i) = some (.int .u8 (zs.getD i 0))) ∧ ∀ i, 0 ≤ zs.getD i 0 ∧ zs.getD i 0 ≤ 255
  small : len ≤ 2000

theorem xor_i64_nat (a b : Nat) (ha : a < 4611686018427387904) (hb : b < 4611686018427387904) :
    bits .xor .i64 (a : Int) (b : Int) = ((a ^^^ b : Nat) : Int) := by
  have hx : a ^^^ b < 2 ^ 62 := Nat.xor_lt_two_pow (by omega) (by omega)
  have h1 : (BitVec.ofInt 64 (a : Int)).toNat = a := by
    rw [BitVec.ofInt_natCast, BitVec.toNat_ofNat]; exact Nat.mod_eq_of_lt (by omega)
  have h2 : (BitVec.ofInt 64 (b : Int)).toNat = b := by
    rw [BitVec.ofInt_natCast, BitVec.toNat_ofNat]; exact Nat.mod_eq_of_lt (by omega)
  show IntKind.i64.wrap ((BitVec.ofInt 64 (a : Int) ^^^ BitVec.ofInt 64 (b : Int)).toNat : Int) = _
  rw [BitVec.toNat_xor, h1, h2, IntKind.wrap_i64]
  omega
theorem wrap64_is (n : Int) (h0 : 0 ≤ n) (h1 : n < 4611686018427387904) : wrap64 n = n := by unfold wrap64; omega
theorem xor_shift (x n : Int) (h0 : 0 ≤ x) (h1 : x < 4611686018427387904) (hn : 1 ≤ n) :
    0 ≤ (bits .xor .i64 x (wrap64 (x.tdiv 64))).tmod n ∧ (bits .xor .i64 x (wrap64 (x.tdiv 64))).tmod n < n := by
  obtain ⟨a, rfl⟩ := Int.eq_ofNat_of_zero_le h0
  have e : ((a : Int).tdiv 64) = ((a / 64 : Nat) : Int) := by rw [Int.tdiv_eq_ediv_of_nonneg h0]; simp
  have hd : a / 64 < 4611686018427387904 := by omega
  rw [e, wrap64_is _ (by omega) (by omega), xor_i64_nat a (a / 64) (by omega) hd]
  have hnn : (0 : Int) ≤ ((a ^^^ a / 64 : Nat) : Int) := by omega
  exact ⟨Int.tmod_nonneg _ hnn, Int.tmod_lt_of_pos _ (by omega)⟩
theorem past_val (m len : Nat) (y z n : Int) (hm : m ≤ 100000) (hl : 1 ≤ len) (y0 : 0 ≤ y) (y1 : y ≤ 255) (z0 : 0 ≤ z) (z1 : z ≤ 255) (hn : 1 ≤ n) :
    ∃ v, 0 ≤ v ∧ v < n ∧ Ending.returned (Value.int IntKind.i64 ((bits BinOp.xor IntKind.i64 (wrap64 (y * 131 + z * 1117 + ↑m * 29 + wrap64 (wrap64 (↑m / ↑len) * 53)))
                  (wrap64 ((wrap64 (y * 131 + z * 1117 + ↑m * 29 + wrap64 (wrap64 (↑m / ↑len) * 53))).tdiv 64))).tmod n)) = Ending.returned (Value.int IntKind.i64 v) := by
  have d0 : (0 : Int) ≤ (m : Int) / (len : Int) := Int.ediv_nonneg (by omega) (by omega)
  have d1 : (m : Int) / (len : Int) ≤ m := Int.ediv_le_self _ (by omega)
  have e1 : wrap64 ((m : Int) / (len : Int)) = (m : Int) / (len : Int) := wrap64_is _ (by omega) (by omega)
  rw [e1]
  generalize (m : Int) / (len : Int) = d at d0 d1 ⊢
  have e2 : wrap64 (d * 53) = d * 53 := wrap64_is _ (by omega) (by omega)
  rw [e2]
  have e3 : wrap64 (y * 131 + z * 1117 + ↑m * 29 + d * 53) = y * 131 + z * 1117 + ↑m * 29 + d * 53 := wrap64_is _ (by omega) (by omega)
  rw [e3]
  have h := xor_shift (y * 131 + z * 1117 + ↑m * 29 + d * 53) n (by omega) (by omega) hn
  exact ⟨_, h.1, h.2, rfl⟩

set_option maxRecDepth 100000 in
theorem pick_none (n : Int) (R : Nat) (a : Option Addr) (len cap : Nat) (zs : List Int) (p : Int) (w : World) (h : Reader w R a len cap zs p) (h0 : 0 ≤ p) (h1 : p ≤ 100000) (hn : n < 1) :
    Calls Tryd.prog 50 #[.pointer (some ⟨R, 0, none⟩), .int .i64 n] w fun e w' => e = .returned (.int .i64 0) ∧ w' = w.setCell ⟨R, 1, none⟩ (.int .i64 (p + 1)) := by
  obtain ⟨c0, c1, fz, _, _⟩ := h
  have hR := cell_lt c0
  go_enter Tryd.func50, Tryd.ntmps50
  go_wp2
  go_ret
  exact ⟨rfl, rfl⟩
set_option maxRecDepth 100000 in
theorem pick_empty (n : Int) (R : Nat) (a : Option Addr) (cap : Nat) (zs : List Int) (p : Int) (w : World) (h : Reader w R a 0 cap zs p) (h0 : 0 ≤ p) (h1 : p ≤ 100000) (hn : 1 ≤ n) :
    Calls Tryd.prog 50 #[.pointer (some ⟨R, 0, none⟩), .int .i64 n] w fun e w' => e = .returned (.int .i64 0) ∧ w' = w.setCell ⟨R, 1, none⟩ (.int .i64 (p + 1)) := by
  obtain ⟨c0, c1, fz, _, _⟩ := h
  have hR := cell_lt c0
  go_enter Tryd.func50, Tryd.ntmps50
  go_wp2
  go_ret
  exact ⟨rfl, rfl⟩
set_option maxRecDepth 100000 in
theorem pick_in (n z : Int) (R b off len cap m : Nat) (w : World) (c0 : w.cell? ⟨R, 0, none⟩ = some (.slice (some ⟨b, off, none⟩) len cap)) (c1 : w.cell? ⟨R, 1, none⟩ = some (.int .i64 (m : Int))) (fz : w.frozen? ⟨R, 1, none⟩ = false)
    (hb : b < R) (hm : m < len) (hl : len ≤ 2000) (hz : w.cell? ⟨b, off + m, none⟩ = some (.int .u8 z)) (z0 : 0 ≤ z) (z1 : z ≤ 255) (hn : 1 ≤ n) (hn2 : n ≤ 1000000) :
    Calls Tryd.prog 50 #[.pointer (some ⟨R, 0, none⟩), .int .i64 n] w fun e w' => e = .returned (.int .i64 (z % n)) ∧ w' = w.setCell ⟨R, 1, none⟩ (.int .i64 ((m : Int) + 1)) := by
  have hR := cell_lt c0
  have hlen : ((len : Int) == 0) = false := by simp; omega
  go_enter Tryd.func50, Tryd.ntmps50
  go_wp2
  go_ret
  exact ⟨rfl, rfl⟩
set_option maxRecDepth 100000 in
theorem pick_past (n y z : Int) (R b off len cap m : Nat) (w : World) (c0 : w.cell? ⟨R, 0, none⟩ = some (.slice (some ⟨b, off, none⟩) len cap)) (c1 : w.cell? ⟨R, 1, none⟩ = some (.int .i64 (m : Int))) (fz : w.frozen? ⟨R, 1, none⟩ = false)
    (hb : b < R) (hm : len ≤ m) (hm2 : m ≤ 100000) (hl : len ≤ 2000) (hl1 : 1 ≤ len) (hy : w.cell? ⟨b, off + m % len, none⟩ = some (.int .u8 y)) (hz : w.cell? ⟨b, off + (m * 7 + 3) % len, none⟩ = some (.int .u8 z)) (y0 : 0 ≤ y) (y1 : y ≤ 255) (z0 : 0 ≤ z) (z1 : z ≤ 255) (hn : 1 ≤ n) (hn2 : n ≤ 1000000) :
    Calls Tryd.prog 50 #[.pointer (some ⟨R, 0, none⟩), .int .i64 n] w fun e w' => (∃ v : Int, 0 ≤ v ∧ v < n ∧ e = .returned (.int .i64 v)) ∧ ∃ q, w' = (w.setCell ⟨R, 1, none⟩ (.int .i64 ((m : Int) + 1))).drewN q := by
  have hR := cell_lt c0
  have hlen : ((len : Int) == 0) = false := by simp; omega
  go_enter Tryd.func50, Tryd.ntmps50
  go_wp2
  have q1 : (0 : Int) ≤ (m : Int) % (len : Int) := Int.emod_nonneg _ (by omega)
  have q2 : (m : Int) % (len : Int) < (len : Int) := Int.emod_lt_of_pos _ (by omega)
  have q3 : ((m : Int) % (len : Int)).toNat = m % len := by rw [← Int.natCast_emod]; rfl
  have p1 : (0 : Int) ≤ ((m : Int) * 7 + 3) % (len : Int) := Int.emod_nonneg _ (by omega)
  have p2 : ((m : Int) * 7 + 3) % (len : Int) < (len : Int) := Int.emod_lt_of_pos _ (by omega)
  have p3 : (((m : Int) * 7 + 3) % (len : Int)).toNat = (m * 7 + 3) % len := by
    have e : (m : Int) * 7 + 3 = ((m * 7 + 3 : Nat) : Int) := by omega
    rw [e, ← Int.natCast_emod]; rfl
  go_quiet (fail)
  clear q1 q2 q3 p1 p2 p3
  go_wp2
  go_ret
  exact ⟨past_val m len y z n hm2 hl1 y0 y1 z0 z1 hn, nq, rfl⟩

theorem add_none (b off i : Nat) : (⟨b, off, none⟩ : Addr).add i = ⟨b, off + i, none⟩ := by
  unfold Addr.add; split <;> simp_all
/-! What a draw leaves: the reader has moved on, nothing else that was there has turned. -/
theorem Reader.below {w w' : World} {R : Nat} {a : Option Addr} {len cap : Nat} {zs : List Int} {p : Int} (h : Reader w R a len cap zs p) {B : Nat} (hb : Below B w w') (hB : R < B) : Reader w' R a len cap zs p := by
  refine ⟨(hb.cell hB).trans h.c0, (hb.cell hB).trans h.c1, (hb.frozen hB).trans h.fz, ?_, h.small⟩
  rcases h.row with h0 | ⟨x, hx, hxR, hl, hc, hz⟩
  · exact .inl h0
  · refine .inr ⟨x, hx, hxR, hl, fun i hi => ?_, hz⟩
    have e : (x.add i).block = x.block := by unfold Addr.add; split <;> rfl
    exact (hb.cell (p := x.add i) (by rw [e]; omega)).trans (hc i hi)
theorem Reader.lt {w : World} {R : Nat} {a : Option Addr} {len cap : Nat} {zs : List Int} {p : Int} (h : Reader w R a len cap zs p) : R < w.heap.size := cell_lt h.c0
theorem Reader.same {w w' : World} {R : Nat} {a : Option Addr} {len cap : Nat} {zs : List Int} {p : Int} (h : Reader w R a len cap zs p) (hb : Below w.heap.size w w') : Reader w' R a len cap zs p := h.below hb h.lt
theorem Reader.alloc {w : World} {R : Nat} {a : Option Addr} {len cap : Nat} {zs : List Int} {p : Int} (h : Reader w R a len cap zs p) (o : Obj) : Reader (w.alloc o) R a len cap zs p := h.same ((Below.refl _ _).alloc (Nat.le_refl _) o)
theorem Reader.moved {w : World} {R : Nat} {a : Option Addr} {len cap : Nat} {zs : List Int} {p : Int} (h : Reader w R a len cap zs p) (p' : Int) (q : Nat) : Reader ((w.setCell ⟨R, 1, none⟩ (.int .i64 p')).drewN q) R a len cap zs p' := by
  refine ⟨?_, ?_, ?_, ?_, h.small⟩
  · rw [World.cell?_drewN, World.cell?_setCell_other]
    · exact h.c0
    · intro e; cases e
  · rw [World.cell?_drewN, World.cell?_setCell_same (u := .int .i64 p)]
    exact h.c1
  · rw [World.frozen?_drewN, World.frozen?_setCell]; exact h.fz
  · rcases h.row with h0 | ⟨x, hx, hxR, hl, hc, hz⟩
    · exact .inl h0
    · refine .inr ⟨x, hx, hxR, hl, fun i hi => ?_, hz⟩
      have e : (x.add i).block = x.block := by unfold Addr.add; split <;> rfl
      rw [World.cell?_drewN, World.cell?_setCell_far _ _ _ _ (by rw [e]; simp only; omega)]
      exact hc i hi
theorem grownBy_moved (w : World) (R : Nat) (v : Value) (q : Nat) : w.grownBy ((w.setCell ⟨R, 1, none⟩ v).drewN q) (some R) :=
  ⟨rfl, rfl, rfl, by rw [World.heap_drewN]; simp [World.setCell], fun k hk hne => by
    rw [World.heap_drewN]
    exact Below.heap_setCell _ _ _ _ (fun e => hne (by rw [e]))⟩
theorem size_moved (w : World) (R : Nat) (v : Value) (q : Nat) : ((w.setCell ⟨R, 1, none⟩ v).drewN q).heap.size = w.heap.size := by
  rw [World.heap_drewN]; simp [World.setCell]

theorem Reader.setCell {w : World} {R : Nat} {a : Option Addr} {len cap : Nat} {zs : List Int} {p : Int} (h : Reader w R a len cap zs p) {x : Addr} (hx : R < x.block) (v : Value) : Reader (w.setCell x v) R a len cap zs p :=
  h.below ((Below.refl (R + 1) _).setCell (by omega) v) (Nat.lt_succ_self R)
theorem grownBy_setCell {w wr : World} {row : Option Nat} (h : w.grownBy wr row) {x : Addr} (hx : w.heap.size ≤ x.block) (v : Value) : w.grownBy (wr.setCell x v) row :=
  ⟨h.os, h.tape, h.output, by have := h.size; simp [World.setCell]; omega, fun k hk hne => (Below.heap_setCell _ _ _ _ (by omega)).trans (h.block k hk hne)⟩
def PickPost (w : World) (R : Nat) (a : Option Addr) (len cap : Nat) (zs : List Int) (p n : Int) (e : Ending) (w' : World) : Prop :=
  ∃ v : Int, 0 ≤ v ∧ v < n ∧ e = .returned (.int .i64 v) ∧ Reader w' R a len cap zs (p + 1) ∧ w.grownBy w' (some R) ∧ Hid (w'.heap.size = w.heap.size)

theorem pick_any (n : Int) {R : Nat} {a : Option Addr} {len cap : Nat} {zs : List Int} {p : Int} {w : World} (h : Reader w R a len cap zs p) (h0 : 0 ≤ p) (h1 : p ≤ 100000) (hn : 1 ≤ n) (hn2 : n ≤ 1000000) :
    Calls Tryd.prog 50 #[.pointer (some ⟨R, 0, none⟩), .int .i64 n] w (PickPost w R a len cap zs p n) := by
  by_cases hl0 : len = 0
  · subst hl0
    refine (pick_empty n R a cap zs p w h h0 h1 hn).mono fun e w' ⟨he, hw⟩ => ?_
    subst hw
    exact ⟨0, by omega, by omega, he, h.moved _ 0, grownBy_moved w R _ 0, size_moved w R _ 0⟩
  · obtain ⟨m, rfl⟩ := Int.eq_ofNat_of_zero_le h0
    have hrow := h.row
    rcases hrow with h00 | ⟨x, hx, hxR, hl, hc, hz⟩
    · exact absurd h00 hl0
    · obtain ⟨b, off, spot⟩ := x
      have hspot : spot = none := by simpa [Addr.add] using World.cell?_spot (hc 0 (by omega))
      subst hspot
      subst hx
      have hcell : ∀ i, i < len → w.cell? ⟨b, off + i, none⟩ = some (.int .u8 (zs.getD i 0)) := fun i hi => by
        have := hc i hi
        rwa [add_none] at this
      have hsm := h.small
      by_cases hm : m < len
      · have hzm := hz m
        refine (pick_in n (zs.getD m 0) R b off len cap m w h.c0 h.c1 h.fz hxR hm hsm (hcell m hm) hzm.1 hzm.2 hn hn2).mono fun e w' ⟨he, hw⟩ => ?_
        subst hw
        exact ⟨_, Int.emod_nonneg _ (by omega), Int.emod_lt_of_pos _ (by omega), he, h.moved _ 0, grownBy_moved w R _ 0, size_moved w R _ 0⟩
      · have l1 : m % len < len := Nat.mod_lt _ (by omega)
        have l2 : (m * 7 + 3) % len < len := Nat.mod_lt _ (by omega)
        refine (pick_past n (zs.getD (m % len) 0) (zs.getD ((m * 7 + 3) % len) 0) R b off len cap m w h.c0 h.c1 h.fz hxR (by omega) (by omega) hsm (by omega) (hcell _ l1) (hcell _ l2) (hz _).1 (hz _).2 (hz _).1 (hz _).2 hn hn2).mono fun e w' ⟨⟨v, v0, v1, he⟩, q, hw⟩ => ?_
        subst hw
        exact ⟨v, v0, v1, he, h.moved _ q, grownBy_moved w R _ q, size_moved w R _ q⟩

def OddPost (w : World) (R : Nat) (a : Option Addr) (len cap : Nat) (zs : List Int) (p : Int) (e : Ending) (w' : World) : Prop :=
  ∃ b : Bool, e = .returned (.bool b) ∧ Reader w' R a len cap zs (p + 1) ∧ w.grownBy w' (some R) ∧ Hid (w'.heap.size = w.heap.size)

theorem odd_any (n : Int) {R : Nat} {a : Option Addr} {len cap : Nat} {zs : List Int} {p : Int} {w : World} (h : Reader w R a len cap zs p) (h0 : 0 ≤ p) (h1 : p ≤ 100000) (hn : 1 ≤ n) (hn2 : n ≤ 1000000) :
    Calls Tryd.prog 55 #[.pointer (some ⟨R, 0, none⟩), .int .i64 n] w (OddPost w R a len cap zs p) := by
  go_enter Tryd.func55, Tryd.ntmps55
  go_wp2_with (go_at_call 50; refine (pick_any n h h0 h1 hn hn2).mono ?_; rintro e w1 hp; obtain ⟨v, v0, v1, rfl, hr1, hg1, hs1⟩ := hp)
  go_ret
  exact ⟨_, rfl, hr1, hg1, hs1⟩
end Go.Proofs.YtminclapchnheaaDoor
