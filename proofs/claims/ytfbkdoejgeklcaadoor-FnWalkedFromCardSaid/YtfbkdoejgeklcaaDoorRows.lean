/-
  NARROWER THAN 'FOR EVERY INPUT', by the rows' own cells (each row's printed sentence says how): FnExactWalkedFrom: laid · FnBackOf: laid · FnWalkedOf: laid · FnWalkedFrom: laid.
  DERIVED. THE GIVEN ROWS OF THIS SEAT. 4 by the template 'for every input the law returns true; each argument reads behind the call as it read before'; 0 by the template 'total and deterministic' (their statements: YtfbkdoejgeklcaaDoorTotals.lean).
  GIVEN WITH THE SEED: the statements are not yours to turn. If you find one false, say at which input.
  Laid BY PROGRAM, IN A SANDBOX (cutbox-rows.mjs): the forced cells as the released guide's own fill.sh prints them over the translation 9822670347f299e7… (all of the seat's roots in one cut). By AI agents, Wed Nov 11 2026. No macro, syntax, notation, axiom, sorry.
-/
import Derived.Test.YtfbkdoejgeklcaaDoorChecked
import GoSem.Claim
import GoSem.ClaimJoined
import GoSem.ClaimMapViews
import Derived.JoinedTies
import Derived.KernelRfl
namespace Go.Proofs.YtfbkdoejgeklcaaDoor
/- THE CELL 'sum', in the pinned program and in every row, IS THE sha256 OF THE DUMP (.gsa) THAT YtfbkdoejgeklcaaDoorProg.lean LOADS. Nothing in Lean hashes anything: it is a label: what it is worth is what the hold of that sum in a sandbox is worth. -/
noncomputable def Tryd.pinned : Pinned := { name := "ytfbkdoejgeklcaadoor", sum := "9822670347f299e7bbd5992a499150c141b25df51079fec967fb96d2a057574a", checked := Tryd.checked }
namespace Rows
def none {H : Type} : Left H := { results := [], args := [] }

/- WHAT THE LISTED PACKAGE-LEVEL VARIABLES READ AS WHEN THE CALL BEGINS. Each datum BY PROGRAM (the guide's laid-datum.mjs) off the statement by which the dump's own 'gosem.cut.vars' lays the variable. In a bare row this is a premise. The card (YtfbkdoejgeklcaaDoorCards.lean) ties it to the program's text. -/
def laid_loop_example_turtlewalks_impl_directions {H : Type} : DataW H := .agg [.agg [.lit (.int .i64 1), .lit (.int .i64 0)], .agg [.lit (.int .i64 0), .lit (.int .i64 1)], .agg [.lit (.int .i64 (-1)), .lit (.int .i64 0)], .agg [.lit (.int .i64 0), .lit (.int .i64 (-1))]]

/-- 'laws.FnExactWalkedFrom': WHATEVER THE INPUT: true; the input reads as it did. -/
def fnExactWalkedFromSpec : ChangeSpec := { name := "fnExactWalkedFrom", vars := ["loop.example/turtlewalks/impl.directions"], fn := fun _ => fun
  | [d1, d2, g1] => { results := [.lit (.bool true)], args := [d1, d2], vars := [g1] }
  | _ => none }
def fnExactWalkedFromRow : OpenClaim := { program := "ytfbkdoejgeklcaadoor", sum := "9822670347f299e7bbd5992a499150c141b25df51079fec967fb96d2a057574a", func := "loop.example/turtlewalks/laws.FnExactWalkedFrom", spec := "fnExactWalkedFrom", named := ["loop.example/turtlewalks/impl.directions"], apart := false, laid := [("loop.example/turtlewalks/impl.directions", laid_loop_example_turtlewalks_impl_directions)] }
def FnExactWalkedFromSaid : Prop := fnExactWalkedFromRow.holds Tryd.pinned (OpenSpec.ofChange fnExactWalkedFromSpec)

/-- ITS FALSE NEIGHBOUR: 'it returns false'. Refute it at one input. -/
def fnExactWalkedFromWrong : ChangeSpec := { name := "fnExactWalkedFrom", vars := ["loop.example/turtlewalks/impl.directions"], fn := fun _ => fun
  | [d1, d2, g1] => { results := [.lit (.bool false)], args := [d1, d2], vars := [g1] }
  | _ => none }
def FnExactWalkedFromWrongFalsely : Prop := fnExactWalkedFromRow.holds Tryd.pinned (OpenSpec.ofChange fnExactWalkedFromWrong)

/-- 'laws.FnBackOf': WHATEVER THE INPUT: true; the input reads as it did. -/
def fnBackOfSpec : ChangeSpec := { name := "fnBackOf", vars := ["loop.example/turtlewalks/impl.directions"], fn := fun _ => fun
  | [d, g1] => { results := [.lit (.bool true)], args := [d], vars := [g1] }
  | _ => none }
def fnBackOfRow : OpenClaim := { program := "ytfbkdoejgeklcaadoor", sum := "9822670347f299e7bbd5992a499150c141b25df51079fec967fb96d2a057574a", func := "loop.example/turtlewalks/laws.FnBackOf", spec := "fnBackOf", named := ["loop.example/turtlewalks/impl.directions"], apart := false, laid := [("loop.example/turtlewalks/impl.directions", laid_loop_example_turtlewalks_impl_directions)] }
def FnBackOfSaid : Prop := fnBackOfRow.holds Tryd.pinned (OpenSpec.ofChange fnBackOfSpec)

/-- ITS FALSE NEIGHBOUR: 'it returns false'. Refute it at one input. -/
def fnBackOfWrong : ChangeSpec := { name := "fnBackOf", vars := ["loop.example/turtlewalks/impl.directions"], fn := fun _ => fun
  | [d, g1] => { results := [.lit (.bool false)], args := [d], vars := [g1] }
  | _ => none }
def FnBackOfWrongFalsely : Prop := fnBackOfRow.holds Tryd.pinned (OpenSpec.ofChange fnBackOfWrong)

/-- 'laws.FnWalkedOf': WHATEVER THE INPUT: true; the input reads as it did. -/
def fnWalkedOfSpec : ChangeSpec := { name := "fnWalkedOf", vars := ["loop.example/turtlewalks/impl.directions"], fn := fun _ => fun
  | [d, g1] => { results := [.lit (.bool true)], args := [d], vars := [g1] }
  | _ => none }
def fnWalkedOfRow : OpenClaim := { program := "ytfbkdoejgeklcaadoor", sum := "9822670347f299e7bbd5992a499150c141b25df51079fec967fb96d2a057574a", func := "loop.example/turtlewalks/laws.FnWalkedOf", spec := "fnWalkedOf", named := ["loop.example/turtlewalks/impl.directions"], apart := false, laid := [("loop.example/turtlewalks/impl.directions", laid_loop_example_turtlewalks_impl_directions)] }
def FnWalkedOfSaid : Prop := fnWalkedOfRow.holds Tryd.pinned (OpenSpec.ofChange fnWalkedOfSpec)

/-- ITS FALSE NEIGHBOUR: 'it returns false'. Refute it at one input. -/
def fnWalkedOfWrong : ChangeSpec := { name := "fnWalkedOf", vars := ["loop.example/turtlewalks/impl.directions"], fn := fun _ => fun
  | [d, g1] => { results := [.lit (.bool false)], args := [d], vars := [g1] }
  | _ => none }
def FnWalkedOfWrongFalsely : Prop := fnWalkedOfRow.holds Tryd.pinned (OpenSpec.ofChange fnWalkedOfWrong)

/-- 'laws.FnWalkedFrom': WHATEVER THE INPUT: true; the input reads as it did. -/
def fnWalkedFromSpec : ChangeSpec := { name := "fnWalkedFrom", vars := ["loop.example/turtlewalks/impl.directions"], fn := fun _ => fun
  | [d1, d2, g1] => { results := [.lit (.bool true)], args := [d1, d2], vars := [g1] }
  | _ => none }
def fnWalkedFromRow : OpenClaim := { program := "ytfbkdoejgeklcaadoor", sum := "9822670347f299e7bbd5992a499150c141b25df51079fec967fb96d2a057574a", func := "loop.example/turtlewalks/laws.FnWalkedFrom", spec := "fnWalkedFrom", named := ["loop.example/turtlewalks/impl.directions"], apart := false, laid := [("loop.example/turtlewalks/impl.directions", laid_loop_example_turtlewalks_impl_directions)] }
def FnWalkedFromSaid : Prop := fnWalkedFromRow.holds Tryd.pinned (OpenSpec.ofChange fnWalkedFromSpec)

/-- ITS FALSE NEIGHBOUR: 'it returns false'. Refute it at one input. -/
def fnWalkedFromWrong : ChangeSpec := { name := "fnWalkedFrom", vars := ["loop.example/turtlewalks/impl.directions"], fn := fun _ => fun
  | [d1, d2, g1] => { results := [.lit (.bool false)], args := [d1, d2], vars := [g1] }
  | _ => none }
def FnWalkedFromWrongFalsely : Prop := fnWalkedFromRow.holds Tryd.pinned (OpenSpec.ofChange fnWalkedFromWrong)

/- THE SECOND FORM. 'bulk': how many values and letters a reading holds, each counted each time it is reached (what is shared counts as often as it is met; a slice's spare places count too). A statement '..UptoSaid' is the law's where the arguments, and the package variables that the reading takes, are together of bulk at most 1048576: NARROWER than '..Said'. Prove '..Said' where nothing that the law and all that it calls make is longer than what came in: it says more and counts as full. Else prove '..UptoSaid'. A law counts once. -/
mutual
def uptoBulk {H : Type} : DataW H → Nat
  | .lit (.string bytes) => bytes.length + 1
  | .lit _ => 1
  | .nil => 1
  | .ptr d => uptoBulk d + 1
  | .slice elems spare => uptoBulkAll elems + uptoBulkAll spare + 1
  | .agg parts => uptoBulkAll parts + 1
  | .iface _ d => uptoBulk d + 1
  | .map entries => uptoBulkEntries entries + 1
  | .held _ => 1
def uptoBulkAll {H : Type} : List (DataW H) → Nat
  | [] => 0
  | d :: r => uptoBulk d + uptoBulkAll r
def uptoBulkEntries {H : Type} : List (Lit × DataW H) → Nat
  | [] => 0
  | x :: r => uptoBulkEntry x + uptoBulkEntries r
def uptoBulkEntry {H : Type} : Lit × DataW H → Nat
  | (.string bytes, d) => bytes.length + uptoBulk d + 1
  | (_, d) => uptoBulk d + 1
 end
def uptoSmall : (H : Type) → List (DataW H) → Bool := fun _ ds => decide (uptoBulkAll ds ≤ 1048576)
def OpenSpec.upto (s : _root_.Go.ChangeSpec) : _root_.Go.OpenSpec := { _root_.Go.OpenSpec.ofChange s with cond := some uptoSmall }

/-- 'laws.FnExactWalkedFrom', WHERE WHAT IT READS IS OF BULK AT MOST 1048576: true; the input reads as it did. -/
def fnExactWalkedFromUptoRow : OpenClaim := { program := "ytfbkdoejgeklcaadoor", sum := "9822670347f299e7bbd5992a499150c141b25df51079fec967fb96d2a057574a", func := "loop.example/turtlewalks/laws.FnExactWalkedFrom", spec := "fnExactWalkedFrom", named := ["loop.example/turtlewalks/impl.directions"], apart := false, laid := [("loop.example/turtlewalks/impl.directions", laid_loop_example_turtlewalks_impl_directions)], narrowed := true }
def FnExactWalkedFromUptoSaid : Prop := fnExactWalkedFromUptoRow.holds Tryd.pinned (OpenSpec.upto fnExactWalkedFromSpec)

/-- 'laws.FnBackOf', WHERE WHAT IT READS IS OF BULK AT MOST 1048576: true; the input reads as it did. -/
def fnBackOfUptoRow : OpenClaim := { program := "ytfbkdoejgeklcaadoor", sum := "9822670347f299e7bbd5992a499150c141b25df51079fec967fb96d2a057574a", func := "loop.example/turtlewalks/laws.FnBackOf", spec := "fnBackOf", named := ["loop.example/turtlewalks/impl.directions"], apart := false, laid := [("loop.example/turtlewalks/impl.directions", laid_loop_example_turtlewalks_impl_directions)], narrowed := true }
def FnBackOfUptoSaid : Prop := fnBackOfUptoRow.holds Tryd.pinned (OpenSpec.upto fnBackOfSpec)

/-- 'laws.FnWalkedOf', WHERE WHAT IT READS IS OF BULK AT MOST 1048576: true; the input reads as it did. -/
def fnWalkedOfUptoRow : OpenClaim := { program := "ytfbkdoejgeklcaadoor", sum := "9822670347f299e7bbd5992a499150c141b25df51079fec967fb96d2a057574a", func := "loop.example/turtlewalks/laws.FnWalkedOf", spec := "fnWalkedOf", named := ["loop.example/turtlewalks/impl.directions"], apart := false, laid := [("loop.example/turtlewalks/impl.directions", laid_loop_example_turtlewalks_impl_directions)], narrowed := true }
def FnWalkedOfUptoSaid : Prop := fnWalkedOfUptoRow.holds Tryd.pinned (OpenSpec.upto fnWalkedOfSpec)

/-- 'laws.FnWalkedFrom', WHERE WHAT IT READS IS OF BULK AT MOST 1048576: true; the input reads as it did. -/
def fnWalkedFromUptoRow : OpenClaim := { program := "ytfbkdoejgeklcaadoor", sum := "9822670347f299e7bbd5992a499150c141b25df51079fec967fb96d2a057574a", func := "loop.example/turtlewalks/laws.FnWalkedFrom", spec := "fnWalkedFrom", named := ["loop.example/turtlewalks/impl.directions"], apart := false, laid := [("loop.example/turtlewalks/impl.directions", laid_loop_example_turtlewalks_impl_directions)], narrowed := true }
def FnWalkedFromUptoSaid : Prop := fnWalkedFromUptoRow.holds Tryd.pinned (OpenSpec.upto fnWalkedFromSpec)

end Rows
end Go.Proofs.YtfbkdoejgeklcaaDoor
