/- The program's word of rows of parts; WordFor. No condition. -/
import Derived.Test.YtaakgdjlbokopaaLg
import Derived.Shelf.Strings.Builder1
import Derived.Shelf.Strings.Repeat
import Derived.Lib.Repeat
namespace Go.Proofs
open Go.Shelf
def Try.layWS_ren : Go.Shelf.Ren := ⟨fun | 166 => 47 | 240 => 50 | 276 => 51 | n => n, fun | 70 => 59 | 9 => 9 | 3 => 3 | 75 => 63 | 0 => 0 | 72 => 61 | 37 => 22 | 4 => 4 | 164 => 72 | 80 => 46 | 5 => 5 | n => n, fun | n => n⟩
theorem Try.layWS : Go.Proofs.Lays.n166 Try.prog Try.layWS_ren := {
  mixed := by kernel_rfl
  f166 := Try.func47.trans (congrArg some (by kernel_rfl))
  f240 := Try.func50.trans (congrArg some (by kernel_rfl))
  f276 := Try.func51.trans (congrArg some (by kernel_rfl))
  t0 := Try.underlying0
  a0 := Try.isAgg0
  z0 := Try.sizeOf0
  v0 := Try.zeroValue0
  t3 := Try.underlying3
  a3 := Try.isAgg3
  z3 := Try.sizeOf3
  v3 := Try.zeroValue3
  t4 := Try.underlying4
  a4 := Try.isAgg4
  z4 := Try.sizeOf4
  v4 := Try.zeroValue4
  t9 := Try.underlying9
  a9 := Try.isAgg9
  z9 := Try.sizeOf9
  v9 := Try.zeroValue9
  t20 := Try.underlying20
  a20 := Try.isAgg20
  z20 := Try.sizeOf20
  v20 := Try.zeroValue20
  t37 := Try.underlying22
  a37 := Try.isAgg22
  z37 := Try.sizeOf22
  v37 := Try.zeroValue22
  t70 := Try.underlying59
  a70 := Try.isAgg59
  z70 := Try.sizeOf59
  v70 := Try.zeroValue59
  t72 := Try.underlying61
  a72 := Try.isAgg61
  z72 := Try.sizeOf61
  v72 := Try.zeroValue61
  t75 := Try.underlying63
  a75 := Try.isAgg63
  z75 := Try.sizeOf63
  v75 := Try.zeroValue63
  t164 := Try.underlying72
  a164 := Try.isAgg72
  z164 := Try.sizeOf72
  v164 := Try.zeroValue72 }
theorem Try.layWSx : Builder.Extra Try.prog Try.layWS_ren := {
  sizeBuilder := by kernel_rfl
  liesBuilder := by kernel_rfl
  t5 := Try.underlying5
  a5 := Try.isAgg5
  z5 := Try.sizeOf5
  v5 := Try.zeroValue5
  infoByte := by kernel_rfl
  cellsByte := by kernel_rfl
  sizeByte := by kernel_rfl
  neB5 := by decide }
def Try.layBS_ren : Go.Shelf.Ren := ⟨fun | 169 => 48 | n => n, fun | 70 => 59 | 9 => 9 | 0 => 0 | 72 => 61 | 37 => 22 | 127 => 68 | 3 => 3 | 5 => 5 | n => n, fun | n => n⟩
theorem Try.layBS : Go.Proofs.Lays.n169 Try.prog Try.layBS_ren := {
  mixed := by kernel_rfl
  f169 := Try.func48.trans (congrArg some (by kernel_rfl))
  t0 := Try.underlying0
  a0 := Try.isAgg0
  z0 := Try.sizeOf0
  v0 := Try.zeroValue0
  t3 := Try.underlying3
  a3 := Try.isAgg3
  z3 := Try.sizeOf3
  v3 := Try.zeroValue3
  t9 := Try.underlying9
  a9 := Try.isAgg9
  z9 := Try.sizeOf9
  v9 := Try.zeroValue9
  t37 := Try.underlying22
  a37 := Try.isAgg22
  z37 := Try.sizeOf22
  v37 := Try.zeroValue22
  t70 := Try.underlying59
  a70 := Try.isAgg59
  z70 := Try.sizeOf59
  v70 := Try.zeroValue59
  t72 := Try.underlying61
  a72 := Try.isAgg61
  z72 := Try.sizeOf61
  v72 := Try.zeroValue61
  t127 := Try.underlying68
  a127 := Try.isAgg68
  z127 := Try.sizeOf68
  v127 := Try.zeroValue68 }
theorem Try.layBSx : Builder.Extra Try.prog Try.layBS_ren := {
  sizeBuilder := by kernel_rfl
  liesBuilder := by kernel_rfl
  t5 := Try.underlying5
  a5 := Try.isAgg5
  z5 := Try.sizeOf5
  v5 := Try.zeroValue5
  infoByte := by kernel_rfl
  cellsByte := by kernel_rfl
  sizeByte := by kernel_rfl
  neB5 := by decide }
def Try.layRp_ren : Go.Shelf.Ren := ⟨fun | 105 => 74 | 212 => 75 | 99 => 76 | 165 => 77 | 166 => 47 | 170 => 78 | 169 => 48 | 263 => 79 | 264 => 80 | 206 => 81 | 240 => 50 | 241 => 82 | 276 => 51 | 277 => 83 | n => n, fun | 9 => 9 | 3 => 3 | 4 => 4 | 20 => 20 | 0 => 0 | 46 => 88 | 109 => 89 | 5 => 5 | 72 => 61 | 76 => 64 | 51 => 79 | 146 => 93 | 53 => 95 | 148 => 96 | 70 => 59 | 37 => 22 | 75 => 63 | 127 => 68 | 164 => 72 | 80 => 46 | n => n, fun | n => n⟩
theorem Try.layRp : Go.Proofs.Lays.n105 Try.prog Try.layRp_ren := {
  mixed := by kernel_rfl
  f99 := Try.func76.trans (congrArg some (by kernel_rfl))
  f105 := Try.func74.trans (congrArg some (by kernel_rfl))
  f165 := Try.func77.trans (congrArg some (by kernel_rfl))
  f166 := Try.func47.trans (congrArg some (by kernel_rfl))
  f169 := Try.func48.trans (congrArg some (by kernel_rfl))
  f170 := Try.func78.trans (congrArg some (by kernel_rfl))
  f206 := Try.func81.trans (congrArg some (by kernel_rfl))
  f212 := Try.func75.trans (congrArg some (by kernel_rfl))
  f240 := Try.func50.trans (congrArg some (by kernel_rfl))
  f241 := Try.func82.trans (congrArg some (by kernel_rfl))
  f263 := Try.func79.trans (congrArg some (by kernel_rfl))
  f264 := Try.func80.trans (congrArg some (by kernel_rfl))
  f276 := Try.func51.trans (congrArg some (by kernel_rfl))
  f277 := Try.func83.trans (congrArg some (by kernel_rfl))
  t0 := Try.underlying0
  a0 := Try.isAgg0
  z0 := Try.sizeOf0
  v0 := Try.zeroValue0
  t3 := Try.underlying3
  a3 := Try.isAgg3
  z3 := Try.sizeOf3
  v3 := Try.zeroValue3
  t4 := Try.underlying4
  a4 := Try.isAgg4
  z4 := Try.sizeOf4
  v4 := Try.zeroValue4
  t5 := Try.underlying5
  a5 := Try.isAgg5
  z5 := Try.sizeOf5
  v5 := Try.zeroValue5
  t9 := Try.underlying9
  a9 := Try.isAgg9
  z9 := Try.sizeOf9
  v9 := Try.zeroValue9
  t20 := Try.underlying20
  a20 := Try.isAgg20
  z20 := Try.sizeOf20
  v20 := Try.zeroValue20
  t37 := Try.underlying22
  a37 := Try.isAgg22
  z37 := Try.sizeOf22
  v37 := Try.zeroValue22
  t46 := Try.underlying88
  a46 := Try.isAgg88
  z46 := Try.sizeOf88
  v46 := Try.zeroValue88
  t51 := Try.underlying79
  a51 := Try.isAgg79
  z51 := Try.sizeOf79
  v51 := Try.zeroValue79
  t53 := Try.underlying95
  a53 := Try.isAgg95
  z53 := Try.sizeOf95
  v53 := Try.zeroValue95
  t70 := Try.underlying59
  a70 := Try.isAgg59
  z70 := Try.sizeOf59
  v70 := Try.zeroValue59
  t72 := Try.underlying61
  a72 := Try.isAgg61
  z72 := Try.sizeOf61
  v72 := Try.zeroValue61
  t75 := Try.underlying63
  a75 := Try.isAgg63
  z75 := Try.sizeOf63
  v75 := Try.zeroValue63
  t76 := Try.underlying64
  a76 := Try.isAgg64
  z76 := Try.sizeOf64
  v76 := Try.zeroValue64
  t109 := Try.underlying89
  a109 := Try.isAgg89
  z109 := Try.sizeOf89
  v109 := Try.zeroValue89
  t127 := Try.underlying68
  a127 := Try.isAgg68
  z127 := Try.sizeOf68
  v127 := Try.zeroValue68
  t146 := Try.underlying93
  a146 := Try.isAgg93
  z146 := Try.sizeOf93
  v146 := Try.zeroValue93
  t148 := Try.underlying96
  a148 := Try.isAgg96
  z148 := Try.sizeOf96
  v148 := Try.zeroValue96
  t164 := Try.underlying72
  a164 := Try.isAgg72
  z164 := Try.sizeOf72
  v164 := Try.zeroValue72 }
theorem Try.layRpx : Builder.Extra Try.prog Try.layRp_ren := {
  sizeBuilder := by kernel_rfl
  liesBuilder := by kernel_rfl
  t5 := Try.underlying5
  a5 := Try.isAgg5
  z5 := Try.sizeOf5
  v5 := Try.zeroValue5
  infoByte := by kernel_rfl
  cellsByte := by kernel_rfl
  sizeByte := by kernel_rfl
  neB5 := by decide }
end Go.Proofs
namespace Go.Proofs.Ytaakgdjlbokopaa
open Go.RowKit
open Tw (Row)
set_option linter.unusedVariables false
set_option linter.unusedSimpArgs false

theorem writeString_any (B b : Nat) (bl : List Value) (s : ByteArray) (w : World) (h : Lib.IsBuilder 61 5 B b bl w) (hlen : bl.length + s.size ≤ 140737488355328) (hBw : B ≤ w.heap.size) :
    Calls Try.prog 47 #[.pointer (some ⟨b, 0, none⟩), .string s] w fun e w' => e = .returned (.tuple #[.int .i64 s.size, .nilIface]) ∧ (Lib.BuilderAt 61 5 B b (.pointer (some ⟨b, 0, none⟩)) (bl ++ Lib.strCells s) w' ∧ Below B w w') :=
  Any.Builder_WriteString Try.layWS Try.layWSx B b bl s w h hlen hBw
theorem string_any (B b : Nat) (l : List UInt8) (w : World) (h : Lib.IsBuilder 61 5 B b (Lib.byteCells l) w) (hBw : B ≤ w.heap.size) :
    Calls Try.prog 48 #[.pointer (some ⟨b, 0, none⟩)] w fun e w' => e = .returned (.string ⟨l.toArray⟩) ∧ Below B w w' :=
  Any.Builder_String_any Try.layBS Try.layBSx B b l w h hBw
theorem repeat_any (s : ByteArray) (c : Nat) (w : World) (hc : c ≤ 9223372036854775807) (hlen : s.size * c ≤ 140737488355328) :
    Calls Try.prog 74 #[.string s, .int .i64 c] w fun e w' => e = .returned (.string ⟨(Lib.repeatL s.data.toList c).toArray⟩) ∧ Below w.heap.size w w' :=
  Any.strings_Repeat Try.layRp Try.layRpx s c w hc hlen
theorem reps_comm (l : List UInt8) (n : Nat) : Row.reps l n ++ l = l ++ Row.reps l n := by
  induction n with
  | zero => simp [Row.reps]
  | succ n ih => simp only [Row.reps]; rw [ih, List.append_assoc, ih]
theorem reps_lib (l : List UInt8) (n : Nat) : Lib.repeatL l n = Row.reps l n := by
  induction n with
  | zero => rfl
  | succ n ih => simp only [Lib.repeatL, Row.reps]; rw [ih, reps_comm]
/-- A builder stays as it is where nothing that was there has turned. -/
theorem builder_below {T e : TypeId} {B b : Nat} {bl : List Value} {w w' : World} (h : Lib.IsBuilder T e B b bl w) (hb : Below w.heap.size w w') : Lib.IsBuilder T e B b bl w' := by
  have one : ∀ p, Lib.BuilderAt T e B b p bl w → Lib.BuilderAt T e B b p bl w' := by
    rintro p ⟨hB, v, hh, ho, hne⟩
    have hlt : b < w.heap.size := (Array.getElem?_eq_some_iff.1 hh).1
    exact ⟨hB, v, (hb.block b hlt).trans hh, own_below ho hb, hne⟩
  rcases h with h | h
  · exact .inl (one _ h)
  · exact .inr (one _ h)
theorem letter_word (c : UInt8) (w : World) (hc : Tw.isW c = true) : Calls Try.prog 70 #[.int .u8 (c.toNat : Int)] w fun e w' => e = .returned (.string (bs [c])) ∧ w = w' := by
  simp only [Tw.isW, Bool.or_eq_true, beq_iff_eq] at hc
  rcases hc with (rfl | rfl) | rfl
  all_goals
    go_enter Try.func70, Try.ntmps70
    go_wp2
    go_ret
    exact ⟨rfl, rfl⟩
set_option maxRecDepth 100000 in
theorem times_word (m : Nat) (v : Value) (l : List UInt8) (w : World) (hv : ∃ p n c, v = .slice p n c) (hm : m ≤ 9) (hl : l.length ≤ 300) (H : ∀ w', Below w.heap.size w w' → Calls Try.prog 38 #[v] w' fun e w'' => e = .returned (.string (bs l)) ∧ Below w'.heap.size w' w'') :
    Calls Try.prog 73 #[.agg #[.int .i64 (m : Int), v]] w fun e w' => e = .returned (.string (bs (Row.reps l m))) ∧ Below w.heap.size w w' := by
  obtain ⟨p, n, c, rfl⟩ := hv
  have HH := Lib.hid H; clear H
  have hrp := fun w => repeat_any (bs l) m w (by omega) (by rw [bs_size]; have := Nat.mul_le_mul hl hm; omega)
  rw [bs_list, reps_lib] at hrp
  have HRp : Hid (∀ w, Calls Try.prog 74 #[.string (bs l), .int .i64 (m : Int)] w fun e w' => e = .returned (.string (bs (Row.reps l m))) ∧ Below w.heap.size w w') := Lib.hid hrp
  clear hrp
  go_enter Try.func73, Try.ntmps73
  go_wp2_with fail
  have hB1 : Below w.heap.size w (w.alloc (.cells #[.int .i64 (m : Int), .slice p n c] 71)) := (Below.refl _ w).alloc (Nat.le_refl _) _
  have hc0 : (w.alloc (.cells #[.int .i64 (m : Int), .slice p n c] 71)).cell? ⟨w.heap.size, 0, none⟩ = some (.int .i64 (m : Int)) := by rw [World.cell?_alloc_new]; rfl
  have hc1 : (w.alloc (.cells #[.int .i64 (m : Int), .slice p n c] 71)).cell? ⟨w.heap.size, 1, none⟩ = some (.slice p n c) := by rw [World.cell?_alloc_new]; rfl
  have hz : w.heap.size < (w.alloc (.cells #[.int .i64 (m : Int), .slice p n c] 71)).heap.size := by simp
  generalize w.alloc (.cells #[.int .i64 (m : Int), .slice p n c] 71) = wa at *
  refine wp_region_peel (n := 6) (S := fun w' => w'.cell? ⟨w.heap.size, 0, none⟩ = some (.int .i64 (m : Int)) ∧ w'.cell? ⟨w.heap.size, 1, none⟩ = some (.slice p n c)) (by kernel_rfl) (lasts_of (by kernel_rfl)) ⟨hc0, hc1⟩ (fun hHeld => ?_)
  refine wpAnyH_take (i := 0) (v := ?_) rfl (by kernel_rfl) (by kernel_rfl) (by kernel_rfl) (fun _ _ _ h => h) (Or.inl ⟨by rfl, ?_⟩) (by assumption) ?_
  rotate_left
  · intro w hSw; (try dsimp only at hSw); go_simp; try with_reducible rfl
  try simp only [Act.put, List.setIfInBounds_toArray, List.set_cons_zero, List.set_cons_succ, List.getElem_toArray, List.getElem_cons_zero, List.getElem_cons_succ]
  refine wpAnyH_take (i := 1) (v := ?_) rfl (by kernel_rfl) (by kernel_rfl) (by kernel_rfl) (fun _ _ _ h => h) (Or.inl ⟨by rfl, ?_⟩) (by assumption) ?_
  rotate_left
  · intro w hSw; (try dsimp only at hSw); go_simp; try with_reducible rfl
  try simp only [Act.put, List.setIfInBounds_toArray, List.set_cons_zero, List.set_cons_succ, List.getElem_toArray, List.getElem_cons_zero, List.getElem_cons_succ]
  refine wpAnyH_take (i := 3) (v := ?_) rfl (by kernel_rfl) (by kernel_rfl) (by kernel_rfl) (fun _ _ _ h => h) (Or.inl ⟨by rfl, ?_⟩) (by assumption) ?_
  rotate_left
  · intro w hSw; (try dsimp only at hSw); go_simp; try with_reducible rfl
  try simp only [Act.put, List.setIfInBounds_toArray, List.set_cons_zero, List.set_cons_succ, List.getElem_toArray, List.getElem_cons_zero, List.getElem_cons_succ]
  refine wpAnyH_take (i := 4) (v := ?_) rfl (by kernel_rfl) (by kernel_rfl) (by kernel_rfl) (fun _ _ _ h => h) (Or.inl ⟨by rfl, ?_⟩) (by assumption) ?_
  rotate_left
  · intro w hSw; (try dsimp only at hSw); go_simp; try with_reducible rfl
  try simp only [Act.put, List.setIfInBounds_toArray, List.set_cons_zero, List.set_cons_succ, List.getElem_toArray, List.getElem_cons_zero, List.getElem_cons_succ]
  refine wpAnyH_ready (rs := [2]) (by kernel_rfl) (by simp) ?_
  refine AllReadyH.cons rfl (fun K hK => ?_) AllReadyH.nil
  go_simp
  refine (HH.out _ (by exact hB1.drew)).mono ?_
  rintro e w2 ⟨rfl, hb2⟩
  have h1 : w2.cell? ⟨w.heap.size, 0, none⟩ = some (.int .i64 (m : Int)) := ((bcell hb2).1 w.heap.size 0 (by exact hz)).trans hc0
  have h2 : w2.cell? ⟨w.heap.size, 1, none⟩ = some (.slice p n c) := ((bcell hb2).1 w.heap.size 1 (by exact hz)).trans hc1
  have hB2 : Below w.heap.size w w2 := Below.up (by exact hB1.drew) (by exact hB1.size) hb2
  have hz2 : w.heap.size < w2.heap.size := cell_lt h1
  try go_wp2_with fail
  refine hK.out _ _ ⟨h1, h2⟩ (fun hHeld => ?_)
  clear hK K
  try simp only [Act.put, List.setIfInBounds_toArray, List.set_cons_zero, List.set_cons_succ]
  refine wpAnyH_ready (rs := [5]) (by kernel_rfl) (by simp) ?_
  refine AllReadyH.cons rfl (fun K hK => ?_) AllReadyH.nil
  go_simp
  refine (HRp.out _).mono ?_
  rintro e w3 ⟨rfl, hb3⟩
  have h3 : w3.cell? ⟨w.heap.size, 0, none⟩ = some (.int .i64 (m : Int)) := ((bcell hb3).1 w.heap.size 0 hz2).trans h1
  have h4 : w3.cell? ⟨w.heap.size, 1, none⟩ = some (.slice p n c) := ((bcell hb3).1 w.heap.size 1 hz2).trans h2
  have hB3 : Below w.heap.size w w3 := Below.up hB2 hB2.size hb3
  try go_wp2_with fail
  refine hK.out _ _ ⟨h3, h4⟩ (fun hHeld => ?_)
  clear hK K
  try simp only [Act.put, List.setIfInBounds_toArray, List.set_cons_zero, List.set_cons_succ]
  refine wpAnyH_done (by kernel_rfl) ?_ _
  refine peel_here ?_
  refine wpOp_step rfl (fun K hK => ?_)
  go_simp
  refine hK _ _ ?_
  go_wp2_with fail
  go_ret
  exact ⟨rfl, hB3⟩
end Go.Proofs.Ytaakgdjlbokopaa
