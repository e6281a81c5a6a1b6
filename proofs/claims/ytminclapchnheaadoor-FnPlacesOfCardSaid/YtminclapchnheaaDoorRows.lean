/-
  NARROWER THAN 'FOR EVERY INPUT', by the rows' own cells (each row's printed sentence says how): FnExactClosedOk: laid · FnExactMovedOn: laid · FnExactSimpleOk: laid · FnExactTurningOf: laid · FnExactPlacesOf: laid · FnClosedOk: laid · FnMovedOn: laid · FnPlacesOf: laid · FnSimpleOk: laid.
  DERIVED. THE GIVEN ROWS OF THIS SEAT. 9 by the template 'for every input the law returns true; each argument reads behind the call as it read before'; 0 by the template 'total and deterministic' (their statements: YtminclapchnheaaDoorTotals.lean).
  GIVEN WITH THE SEED: the statements are not yours to turn. If you find one false, say at which input.
  Laid BY PROGRAM, IN A SANDBOX (cutbox-rows.mjs): the forced cells as the released guide's own fill.sh prints them over the translation 944b83e90f2b13d7… (all of the seat's roots in one cut). By AI agents, Wed Nov 11 2026. No macro, syntax, notation, axiom, sorry.
-/
import Derived.Test.YtminclapchnheaaDoorChecked
import GoSem.Claim
import GoSem.ClaimJoined
import GoSem.ClaimMapViews
import Derived.JoinedTies
import Derived.KernelRfl
namespace Go.Proofs.YtminclapchnheaaDoor
/- THE CELL 'sum', in the pinned program and in every row, IS THE sha256 OF THE DUMP (.gsa) THAT YtminclapchnheaaDoorProg.lean LOADS. Nothing in Lean hashes anything: it is a label: what it is worth is what the hold of that sum in a sandbox is worth. -/
noncomputable def Tryd.pinned : Pinned := { name := "ytminclapchnheaadoor", sum := "944b83e90f2b13d79b89b633368670b85ee148fdf5fa19edaa629f0bbf2054b5", checked := Tryd.checked }
namespace Rows
def none {H : Type} : Left H := { results := [], args := [] }

/- WHAT THE LISTED PACKAGE-LEVEL VARIABLES READ AS WHEN THE CALL BEGINS. Each datum BY PROGRAM (the guide's laid-datum.mjs) off the statement by which the dump's own 'gosem.cut.vars' lays the variable. In a bare row this is a premise. The card (YtminclapchnheaaDoorCards.lean) ties it to the program's text. -/
def laid_loop_example_turtlewalks_impl_directions {H : Type} : DataW H := .agg [.agg [.lit (.int .i64 1), .lit (.int .i64 0)], .agg [.lit (.int .i64 0), .lit (.int .i64 1)], .agg [.lit (.int .i64 (-1)), .lit (.int .i64 0)], .agg [.lit (.int .i64 0), .lit (.int .i64 (-1))]]

/-- 'laws.FnExactClosedOk': WHATEVER THE INPUT: true; the input reads as it did. -/
def fnExactClosedOkSpec : ChangeSpec := { name := "fnExactClosedOk", vars := ["loop.example/turtlewalks/impl.directions"], fn := fun _ => fun
  | [d, g1] => { results := [.lit (.bool true)], args := [d], vars := [g1] }
  | _ => none }
def fnExactClosedOkRow : OpenClaim := { program := "ytminclapchnheaadoor", sum := "944b83e90f2b13d79b89b633368670b85ee148fdf5fa19edaa629f0bbf2054b5", func := "loop.example/turtlewalks/laws.FnExactClosedOk", spec := "fnExactClosedOk", inPlace := ["internal/bytealg.IndexByteString"], named := ["loop.example/turtlewalks/impl.directions"], plainKeys := false, apart := false, laid := [("loop.example/turtlewalks/impl.directions", laid_loop_example_turtlewalks_impl_directions)] }
def FnExactClosedOkSaid : Prop := fnExactClosedOkRow.holds Tryd.pinned (OpenSpec.ofChange fnExactClosedOkSpec)

/-- ITS FALSE NEIGHBOUR: 'it returns false'. Refute it at one input. -/
def fnExactClosedOkWrong : ChangeSpec := { name := "fnExactClosedOk", vars := ["loop.example/turtlewalks/impl.directions"], fn := fun _ => fun
  | [d, g1] => { results := [.lit (.bool false)], args := [d], vars := [g1] }
  | _ => none }
def FnExactClosedOkWrongFalsely : Prop := fnExactClosedOkRow.holds Tryd.pinned (OpenSpec.ofChange fnExactClosedOkWrong)

/-- 'laws.FnExactMovedOn': WHATEVER THE INPUT: true; the input reads as it did. -/
def fnExactMovedOnSpec : ChangeSpec := { name := "fnExactMovedOn", vars := ["loop.example/turtlewalks/impl.directions"], fn := fun _ => fun
  | [d1, d2, g1] => { results := [.lit (.bool true)], args := [d1, d2], vars := [g1] }
  | _ => none }
def fnExactMovedOnRow : OpenClaim := { program := "ytminclapchnheaadoor", sum := "944b83e90f2b13d79b89b633368670b85ee148fdf5fa19edaa629f0bbf2054b5", func := "loop.example/turtlewalks/laws.FnExactMovedOn", spec := "fnExactMovedOn", inPlace := ["internal/bytealg.IndexByteString"], named := ["loop.example/turtlewalks/impl.directions"], plainKeys := false, apart := false, laid := [("loop.example/turtlewalks/impl.directions", laid_loop_example_turtlewalks_impl_directions)] }
def FnExactMovedOnSaid : Prop := fnExactMovedOnRow.holds Tryd.pinned (OpenSpec.ofChange fnExactMovedOnSpec)

/-- ITS FALSE NEIGHBOUR: 'it returns false'. Refute it at one input. -/
def fnExactMovedOnWrong : ChangeSpec := { name := "fnExactMovedOn", vars := ["loop.example/turtlewalks/impl.directions"], fn := fun _ => fun
  | [d1, d2, g1] => { results := [.lit (.bool false)], args := [d1, d2], vars := [g1] }
  | _ => none }
def FnExactMovedOnWrongFalsely : Prop := fnExactMovedOnRow.holds Tryd.pinned (OpenSpec.ofChange fnExactMovedOnWrong)

/-- 'laws.FnExactSimpleOk': WHATEVER THE INPUT: true; the input reads as it did. -/
def fnExactSimpleOkSpec : ChangeSpec := { name := "fnExactSimpleOk", vars := ["loop.example/turtlewalks/impl.directions"], fn := fun _ => fun
  | [d, g1] => { results := [.lit (.bool true)], args := [d], vars := [g1] }
  | _ => none }
def fnExactSimpleOkRow : OpenClaim := { program := "ytminclapchnheaadoor", sum := "944b83e90f2b13d79b89b633368670b85ee148fdf5fa19edaa629f0bbf2054b5", func := "loop.example/turtlewalks/laws.FnExactSimpleOk", spec := "fnExactSimpleOk", inPlace := ["internal/bytealg.IndexByteString"], named := ["loop.example/turtlewalks/impl.directions"], plainKeys := false, apart := false, laid := [("loop.example/turtlewalks/impl.directions", laid_loop_example_turtlewalks_impl_directions)] }
def FnExactSimpleOkSaid : Prop := fnExactSimpleOkRow.holds Tryd.pinned (OpenSpec.ofChange fnExactSimpleOkSpec)

/-- ITS FALSE NEIGHBOUR: 'it returns false'. Refute it at one input. -/
def fnExactSimpleOkWrong : ChangeSpec := { name := "fnExactSimpleOk", vars := ["loop.example/turtlewalks/impl.directions"], fn := fun _ => fun
  | [d, g1] => { results := [.lit (.bool false)], args := [d], vars := [g1] }
  | _ => none }
def FnExactSimpleOkWrongFalsely : Prop := fnExactSimpleOkRow.holds Tryd.pinned (OpenSpec.ofChange fnExactSimpleOkWrong)

/-- 'laws.FnExactTurningOf': WHATEVER THE INPUT: true; the input reads as it did. -/
def fnExactTurningOfSpec : ChangeSpec := { name := "fnExactTurningOf", vars := ["loop.example/turtlewalks/impl.directions"], fn := fun _ => fun
  | [d, g1] => { results := [.lit (.bool true)], args := [d], vars := [g1] }
  | _ => none }
def fnExactTurningOfRow : OpenClaim := { program := "ytminclapchnheaadoor", sum := "944b83e90f2b13d79b89b633368670b85ee148fdf5fa19edaa629f0bbf2054b5", func := "loop.example/turtlewalks/laws.FnExactTurningOf", spec := "fnExactTurningOf", inPlace := ["internal/bytealg.IndexByteString"], named := ["loop.example/turtlewalks/impl.directions"], plainKeys := false, apart := false, laid := [("loop.example/turtlewalks/impl.directions", laid_loop_example_turtlewalks_impl_directions)] }
def FnExactTurningOfSaid : Prop := fnExactTurningOfRow.holds Tryd.pinned (OpenSpec.ofChange fnExactTurningOfSpec)

/-- ITS FALSE NEIGHBOUR: 'it returns false'. Refute it at one input. -/
def fnExactTurningOfWrong : ChangeSpec := { name := "fnExactTurningOf", vars := ["loop.example/turtlewalks/impl.directions"], fn := fun _ => fun
  | [d, g1] => { results := [.lit (.bool false)], args := [d], vars := [g1] }
  | _ => none }
def FnExactTurningOfWrongFalsely : Prop := fnExactTurningOfRow.holds Tryd.pinned (OpenSpec.ofChange fnExactTurningOfWrong)

/-- 'laws.FnExactPlacesOf': WHATEVER THE INPUT: true; the input reads as it did. -/
def fnExactPlacesOfSpec : ChangeSpec := { name := "fnExactPlacesOf", vars := ["loop.example/turtlewalks/impl.directions"], fn := fun _ => fun
  | [d, g1] => { results := [.lit (.bool true)], args := [d], vars := [g1] }
  | _ => none }
def fnExactPlacesOfRow : OpenClaim := { program := "ytminclapchnheaadoor", sum := "944b83e90f2b13d79b89b633368670b85ee148fdf5fa19edaa629f0bbf2054b5", func := "loop.example/turtlewalks/laws.FnExactPlacesOf", spec := "fnExactPlacesOf", inPlace := ["internal/bytealg.IndexByteString"], named := ["loop.example/turtlewalks/impl.directions"], plainKeys := false, apart := false, laid := [("loop.example/turtlewalks/impl.directions", laid_loop_example_turtlewalks_impl_directions)] }
def FnExactPlacesOfSaid : Prop := fnExactPlacesOfRow.holds Tryd.pinned (OpenSpec.ofChange fnExactPlacesOfSpec)

/-- ITS FALSE NEIGHBOUR: 'it returns false'. Refute it at one input. -/
def fnExactPlacesOfWrong : ChangeSpec := { name := "fnExactPlacesOf", vars := ["loop.example/turtlewalks/impl.directions"], fn := fun _ => fun
  | [d, g1] => { results := [.lit (.bool false)], args := [d], vars := [g1] }
  | _ => none }
def FnExactPlacesOfWrongFalsely : Prop := fnExactPlacesOfRow.holds Tryd.pinned (OpenSpec.ofChange fnExactPlacesOfWrong)

/-- 'laws.FnClosedOk': WHATEVER THE INPUT: true; the input reads as it did. -/
def fnClosedOkSpec : ChangeSpec := { name := "fnClosedOk", vars := ["loop.example/turtlewalks/impl.directions"], fn := fun _ => fun
  | [d, g1] => { results := [.lit (.bool true)], args := [d], vars := [g1] }
  | _ => none }
def fnClosedOkRow : OpenClaim := { program := "ytminclapchnheaadoor", sum := "944b83e90f2b13d79b89b633368670b85ee148fdf5fa19edaa629f0bbf2054b5", func := "loop.example/turtlewalks/laws.FnClosedOk", spec := "fnClosedOk", inPlace := ["internal/bytealg.IndexByteString"], named := ["loop.example/turtlewalks/impl.directions"], plainKeys := false, apart := false, laid := [("loop.example/turtlewalks/impl.directions", laid_loop_example_turtlewalks_impl_directions)] }
def FnClosedOkSaid : Prop := fnClosedOkRow.holds Tryd.pinned (OpenSpec.ofChange fnClosedOkSpec)

/-- ITS FALSE NEIGHBOUR: 'it returns false'. Refute it at one input. -/
def fnClosedOkWrong : ChangeSpec := { name := "fnClosedOk", vars := ["loop.example/turtlewalks/impl.directions"], fn := fun _ => fun
  | [d, g1] => { results := [.lit (.bool false)], args := [d], vars := [g1] }
  | _ => none }
def FnClosedOkWrongFalsely : Prop := fnClosedOkRow.holds Tryd.pinned (OpenSpec.ofChange fnClosedOkWrong)

/-- 'laws.FnMovedOn': WHATEVER THE INPUT: true; the input reads as it did. -/
def fnMovedOnSpec : ChangeSpec := { name := "fnMovedOn", vars := ["loop.example/turtlewalks/impl.directions"], fn := fun _ => fun
  | [d, g1] => { results := [.lit (.bool true)], args := [d], vars := [g1] }
  | _ => none }
def fnMovedOnRow : OpenClaim := { program := "ytminclapchnheaadoor", sum := "944b83e90f2b13d79b89b633368670b85ee148fdf5fa19edaa629f0bbf2054b5", func := "loop.example/turtlewalks/laws.FnMovedOn", spec := "fnMovedOn", inPlace := ["internal/bytealg.IndexByteString"], named := ["loop.example/turtlewalks/impl.directions"], plainKeys := false, apart := false, laid := [("loop.example/turtlewalks/impl.directions", laid_loop_example_turtlewalks_impl_directions)] }
def FnMovedOnSaid : Prop := fnMovedOnRow.holds Tryd.pinned (OpenSpec.ofChange fnMovedOnSpec)

/-- ITS FALSE NEIGHBOUR: 'it returns false'. Refute it at one input. -/
def fnMovedOnWrong : ChangeSpec := { name := "fnMovedOn", vars := ["loop.example/turtlewalks/impl.directions"], fn := fun _ => fun
  | [d, g1] => { results := [.lit (.bool false)], args := [d], vars := [g1] }
  | _ => none }
def FnMovedOnWrongFalsely : Prop := fnMovedOnRow.holds Tryd.pinned (OpenSpec.ofChange fnMovedOnWrong)

/-- 'laws.FnPlacesOf': WHATEVER THE INPUT: true; the input reads as it did. -/
def fnPlacesOfSpec : ChangeSpec := { name := "fnPlacesOf", vars := ["loop.example/turtlewalks/impl.directions"], fn := fun _ => fun
  | [d, g1] => { results := [.lit (.bool true)], args := [d], vars := [g1] }
  | _ => none }
def fnPlacesOfRow : OpenClaim := { program := "ytminclapchnheaadoor", sum := "944b83e90f2b13d79b89b633368670b85ee148fdf5fa19edaa629f0bbf2054b5", func := "loop.example/turtlewalks/laws.FnPlacesOf", spec := "fnPlacesOf", inPlace := ["internal/bytealg.IndexByteString"], named := ["loop.example/turtlewalks/impl.directions"], plainKeys := false, apart := false, laid := [("loop.example/turtlewalks/impl.directions", laid_loop_example_turtlewalks_impl_directions)] }
def FnPlacesOfSaid : Prop := fnPlacesOfRow.holds Tryd.pinned (OpenSpec.ofChange fnPlacesOfSpec)

/-- ITS FALSE NEIGHBOUR: 'it returns false'. Refute it at one input. -/
def fnPlacesOfWrong : ChangeSpec := { name := "fnPlacesOf", vars := ["loop.example/turtlewalks/impl.directions"], fn := fun _ => fun
  | [d, g1] => { results := [.lit (.bool false)], args := [d], vars := [g1] }
  | _ => none }
def FnPlacesOfWrongFalsely : Prop := fnPlacesOfRow.holds Tryd.pinned (OpenSpec.ofChange fnPlacesOfWrong)

/-- 'laws.FnSimpleOk': WHATEVER THE INPUT: true; the input reads as it did. -/
def fnSimpleOkSpec : ChangeSpec := { name := "fnSimpleOk", vars := ["loop.example/turtlewalks/impl.directions"], fn := fun _ => fun
  | [d, g1] => { results := [.lit (.bool true)], args := [d], vars := [g1] }
  | _ => none }
def fnSimpleOkRow : OpenClaim := { program := "ytminclapchnheaadoor", sum := "944b83e90f2b13d79b89b633368670b85ee148fdf5fa19edaa629f0bbf2054b5", func := "loop.example/turtlewalks/laws.FnSimpleOk", spec := "fnSimpleOk", inPlace := ["internal/bytealg.IndexByteString"], named := ["loop.example/turtlewalks/impl.directions"], plainKeys := false, apart := false, laid := [("loop.example/turtlewalks/impl.directions", laid_loop_example_turtlewalks_impl_directions)] }
def FnSimpleOkSaid : Prop := fnSimpleOkRow.holds Tryd.pinned (OpenSpec.ofChange fnSimpleOkSpec)

/-- ITS FALSE NEIGHBOUR: 'it returns false'. Refute it at one input. -/
def fnSimpleOkWrong : ChangeSpec := { name := "fnSimpleOk", vars := ["loop.example/turtlewalks/impl.directions"], fn := fun _ => fun
  | [d, g1] => { results := [.lit (.bool false)], args := [d], vars := [g1] }
  | _ => none }
def FnSimpleOkWrongFalsely : Prop := fnSimpleOkRow.holds Tryd.pinned (OpenSpec.ofChange fnSimpleOkWrong)

/- THE SECOND FORM. 'bulk': how many values and letters a reading holds, each counted each time it is reached (what is shared counts as often as it is met; a slice's spare places count too). A statement '..UptoSaid' is the law's where the arguments, and the package variables that the reading takes, are together of bulk at most 1048576: NARROWER than '..Said'. Prove '..Said' where nothing that the law and all that it calls make is longer than what came in: it says more and counts as full. Else prove '..UptoSaid'. A law counts once. -/
mutual
def uptoBulk {H : Type} : DataW H → Nat
  | .lit (.string bytes) => bytes.length + 1
  | .lit _ => 1
  | .nil => 1
  | .ptr d => uptoBulk d + 1
  | .slice elems spare => uptoBulkAll elems + uptoBulkAll spare + 1
  | .agg parts => uptoBulkAll parts + 1
  | .iface _ d => uptoBulk d + 1
  | .map entries => uptoBulkEntries entries + 1
  | .held _ => 1
def uptoBulkAll {H : Type} : List (DataW H) → Nat
  | [] => 0
  | d :: r => uptoBulk d + uptoBulkAll r
def uptoBulkEntries {H : Type} : List (Lit × DataW H) → Nat
  | [] => 0
  | x :: r => uptoBulkEntry x + uptoBulkEntries r
def uptoBulkEntry {H : Type} : Lit × DataW H → Nat
  | (.string bytes, d) => bytes.length + uptoBulk d + 1
  | (_, d) => uptoBulk d + 1
 end
def uptoSmall : (H : Type) → List (DataW H) → Bool := fun _ ds => decide (uptoBulkAll ds ≤ 1048576)
def OpenSpec.upto (s : _root_.Go.ChangeSpec) : _root_.Go.OpenSpec := { _root_.Go.OpenSpec.ofChange s with cond := some uptoSmall }

/-- 'laws.FnExactClosedOk', WHERE WHAT IT READS IS OF BULK AT MOST 1048576: true; the input reads as it did. -/
def fnExactClosedOkUptoRow : OpenClaim := { program := "ytminclapchnheaadoor", sum := "944b83e90f2b13d79b89b633368670b85ee148fdf5fa19edaa629f0bbf2054b5", func := "loop.example/turtlewalks/laws.FnExactClosedOk", spec := "fnExactClosedOk", inPlace := ["internal/bytealg.IndexByteString"], named := ["loop.example/turtlewalks/impl.directions"], plainKeys := false, apart := false, laid := [("loop.example/turtlewalks/impl.directions", laid_loop_example_turtlewalks_impl_directions)], narrowed := true }
def FnExactClosedOkUptoSaid : Prop := fnExactClosedOkUptoRow.holds Tryd.pinned (OpenSpec.upto fnExactClosedOkSpec)

/-- 'laws.FnExactMovedOn', WHERE WHAT IT READS IS OF BULK AT MOST 1048576: true; the input reads as it did. -/
def fnExactMovedOnUptoRow : OpenClaim := { program := "ytminclapchnheaadoor", sum := "944b83e90f2b13d79b89b633368670b85ee148fdf5fa19edaa629f0bbf2054b5", func := "loop.example/turtlewalks/laws.FnExactMovedOn", spec := "fnExactMovedOn", inPlace := ["internal/bytealg.IndexByteString"], named := ["loop.example/turtlewalks/impl.directions"], plainKeys := false, apart := false, laid := [("loop.example/turtlewalks/impl.directions", laid_loop_example_turtlewalks_impl_directions)], narrowed := true }
def FnExactMovedOnUptoSaid : Prop := fnExactMovedOnUptoRow.holds Tryd.pinned (OpenSpec.upto fnExactMovedOnSpec)

/-- 'laws.FnExactSimpleOk', WHERE WHAT IT READS IS OF BULK AT MOST 1048576: true; the input reads as it did. -/
def fnExactSimpleOkUptoRow : OpenClaim := { program := "ytminclapchnheaadoor", sum := "944b83e90f2b13d79b89b633368670b85ee148fdf5fa19edaa629f0bbf2054b5", func := "loop.example/turtlewalks/laws.FnExactSimpleOk", spec := "fnExactSimpleOk", inPlace := ["internal/bytealg.IndexByteString"], named := ["loop.example/turtlewalks/impl.directions"], plainKeys := false, apart := false, laid := [("loop.example/turtlewalks/impl.directions", laid_loop_example_turtlewalks_impl_directions)], narrowed := true }
def FnExactSimpleOkUptoSaid : Prop := fnExactSimpleOkUptoRow.holds Tryd.pinned (OpenSpec.upto fnExactSimpleOkSpec)

/-- 'laws.FnExactTurningOf', WHERE WHAT IT READS IS OF BULK AT MOST 1048576: true; the input reads as it did. -/
def fnExactTurningOfUptoRow : OpenClaim := { program := "ytminclapchnheaadoor", sum := "944b83e90f2b13d79b89b633368670b85ee148fdf5fa19edaa629f0bbf2054b5", func := "loop.example/turtlewalks/laws.FnExactTurningOf", spec := "fnExactTurningOf", inPlace := ["internal/bytealg.IndexByteString"], named := ["loop.example/turtlewalks/impl.directions"], plainKeys := false, apart := false, laid := [("loop.example/turtlewalks/impl.directions", laid_loop_example_turtlewalks_impl_directions)], narrowed := true }
def FnExactTurningOfUptoSaid : Prop := fnExactTurningOfUptoRow.holds Tryd.pinned (OpenSpec.upto fnExactTurningOfSpec)

/-- 'laws.FnExactPlacesOf', WHERE WHAT IT READS IS OF BULK AT MOST 1048576: true; the input reads as it did. -/
def fnExactPlacesOfUptoRow : OpenClaim := { program := "ytminclapchnheaadoor", sum := "944b83e90f2b13d79b89b633368670b85ee148fdf5fa19edaa629f0bbf2054b5", func := "loop.example/turtlewalks/laws.FnExactPlacesOf", spec := "fnExactPlacesOf", inPlace := ["internal/bytealg.IndexByteString"], named := ["loop.example/turtlewalks/impl.directions"], plainKeys := false, apart := false, laid := [("loop.example/turtlewalks/impl.directions", laid_loop_example_turtlewalks_impl_directions)], narrowed := true }
def FnExactPlacesOfUptoSaid : Prop := fnExactPlacesOfUptoRow.holds Tryd.pinned (OpenSpec.upto fnExactPlacesOfSpec)

/-- 'laws.FnClosedOk', WHERE WHAT IT READS IS OF BULK AT MOST 1048576: true; the input reads as it did. -/
def fnClosedOkUptoRow : OpenClaim := { program := "ytminclapchnheaadoor", sum := "944b83e90f2b13d79b89b633368670b85ee148fdf5fa19edaa629f0bbf2054b5", func := "loop.example/turtlewalks/laws.FnClosedOk", spec := "fnClosedOk", inPlace := ["internal/bytealg.IndexByteString"], named := ["loop.example/turtlewalks/impl.directions"], plainKeys := false, apart := false, laid := [("loop.example/turtlewalks/impl.directions", laid_loop_example_turtlewalks_impl_directions)], narrowed := true }
def FnClosedOkUptoSaid : Prop := fnClosedOkUptoRow.holds Tryd.pinned (OpenSpec.upto fnClosedOkSpec)

/-- 'laws.FnMovedOn', WHERE WHAT IT READS IS OF BULK AT MOST 1048576: true; the input reads as it did. -/
def fnMovedOnUptoRow : OpenClaim := { program := "ytminclapchnheaadoor", sum := "944b83e90f2b13d79b89b633368670b85ee148fdf5fa19edaa629f0bbf2054b5", func := "loop.example/turtlewalks/laws.FnMovedOn", spec := "fnMovedOn", inPlace := ["internal/bytealg.IndexByteString"], named := ["loop.example/turtlewalks/impl.directions"], plainKeys := false, apart := false, laid := [("loop.example/turtlewalks/impl.directions", laid_loop_example_turtlewalks_impl_directions)], narrowed := true }
def FnMovedOnUptoSaid : Prop := fnMovedOnUptoRow.holds Tryd.pinned (OpenSpec.upto fnMovedOnSpec)

/-- 'laws.FnPlacesOf', WHERE WHAT IT READS IS OF BULK AT MOST 1048576: true; the input reads as it did. -/
def fnPlacesOfUptoRow : OpenClaim := { program := "ytminclapchnheaadoor", sum := "944b83e90f2b13d79b89b633368670b85ee148fdf5fa19edaa629f0bbf2054b5", func := "loop.example/turtlewalks/laws.FnPlacesOf", spec := "fnPlacesOf", inPlace := ["internal/bytealg.IndexByteString"], named := ["loop.example/turtlewalks/impl.directions"], plainKeys := false, apart := false, laid := [("loop.example/turtlewalks/impl.directions", laid_loop_example_turtlewalks_impl_directions)], narrowed := true }
def FnPlacesOfUptoSaid : Prop := fnPlacesOfUptoRow.holds Tryd.pinned (OpenSpec.upto fnPlacesOfSpec)

/-- 'laws.FnSimpleOk', WHERE WHAT IT READS IS OF BULK AT MOST 1048576: true; the input reads as it did. -/
def fnSimpleOkUptoRow : OpenClaim := { program := "ytminclapchnheaadoor", sum := "944b83e90f2b13d79b89b633368670b85ee148fdf5fa19edaa629f0bbf2054b5", func := "loop.example/turtlewalks/laws.FnSimpleOk", spec := "fnSimpleOk", inPlace := ["internal/bytealg.IndexByteString"], named := ["loop.example/turtlewalks/impl.directions"], plainKeys := false, apart := false, laid := [("loop.example/turtlewalks/impl.directions", laid_loop_example_turtlewalks_impl_directions)], narrowed := true }
def FnSimpleOkUptoSaid : Prop := fnSimpleOkUptoRow.holds Tryd.pinned (OpenSpec.upto fnSimpleOkSpec)

end Rows
end Go.Proofs.YtminclapchnheaaDoor
