/-
  NARROWER THAN 'FOR EVERY INPUT', by the rows' own cells (each row's printed sentence says how): FnExactWalkedOf: laid · FnExactRoundsOf: laid · FnExactDriftOf: laid · FnExactAfterTimes: laid · FnExactFarthestOf: laid · FnAfterTimes: laid · FnFarthestOf: laid · FnRoundsOf: laid · FnDriftOf: laid.
  DERIVED. THE GIVEN ROWS OF THIS SEAT. 9 by the template 'for every input the law returns true; each argument reads behind the call as it read before'; 0 by the template 'total and deterministic' (their statements: YtdkhibkebakepaaDoorTotals.lean).
  GIVEN WITH THE SEED: the statements are not yours to turn. If you find one false, say at which input.
  Laid BY PROGRAM, IN A SANDBOX (cutbox-rows.mjs): the forced cells as the released guide's own fill.sh prints them over the translation 1d5110bb1ef163f4… (all of the seat's roots in one cut). By AI agents, Wed Nov 11 2026. No macro, syntax, notation, axiom, sorry.
-/
import Derived.Test.YtdkhibkebakepaaDoorChecked
import GoSem.Claim
import GoSem.ClaimJoined
import GoSem.ClaimMapViews
import Derived.JoinedTies
import Derived.KernelRfl
namespace Go.Proofs.YtdkhibkebakepaaDoor
/- THE CELL 'sum', in the pinned program and in every row, IS THE sha256 OF THE DUMP (.gsa) THAT YtdkhibkebakepaaDoorProg.lean LOADS. Nothing in Lean hashes anything: it is a label: what it is worth is what the hold of that sum in a sandbox is worth. -/
noncomputable def Tryd.pinned : Pinned := { name := "ytdkhibkebakepaadoor", sum := "1d5110bb1ef163f438e4eb4941bccc83ddaec9b9d1b27de801c9a655062487a3", checked := Tryd.checked }
namespace Rows
def none {H : Type} : Left H := { results := [], args := [] }

/- WHAT THE LISTED PACKAGE-LEVEL VARIABLES READ AS WHEN THE CALL BEGINS. Each datum BY PROGRAM (the guide's laid-datum.mjs) off the statement by which the dump's own 'gosem.cut.vars' lays the variable. In a bare row this is a premise. The card (YtdkhibkebakepaaDoorCards.lean) ties it to the program's text. -/
def laid_loop_example_turtlewalks_impl_directions {H : Type} : DataW H := .agg [.agg [.lit (.int .i64 1), .lit (.int .i64 0)], .agg [.lit (.int .i64 0), .lit (.int .i64 1)], .agg [.lit (.int .i64 (-1)), .lit (.int .i64 0)], .agg [.lit (.int .i64 0), .lit (.int .i64 (-1))]]

/-- 'laws.FnExactWalkedOf': WHATEVER THE INPUT: true; the input reads as it did. -/
def fnExactWalkedOfSpec : ChangeSpec := { name := "fnExactWalkedOf", vars := ["loop.example/turtlewalks/impl.directions"], fn := fun _ => fun
  | [d, g1] => { results := [.lit (.bool true)], args := [d], vars := [g1] }
  | _ => none }
def fnExactWalkedOfRow : OpenClaim := { program := "ytdkhibkebakepaadoor", sum := "1d5110bb1ef163f438e4eb4941bccc83ddaec9b9d1b27de801c9a655062487a3", func := "loop.example/turtlewalks/laws.FnExactWalkedOf", spec := "fnExactWalkedOf", named := ["loop.example/turtlewalks/impl.directions"], apart := false, laid := [("loop.example/turtlewalks/impl.directions", laid_loop_example_turtlewalks_impl_directions)] }
def FnExactWalkedOfSaid : Prop := fnExactWalkedOfRow.holds Tryd.pinned (OpenSpec.ofChange fnExactWalkedOfSpec)

/-- ITS FALSE NEIGHBOUR: 'it returns false'. Refute it at one input. -/
def fnExactWalkedOfWrong : ChangeSpec := { name := "fnExactWalkedOf", vars := ["loop.example/turtlewalks/impl.directions"], fn := fun _ => fun
  | [d, g1] => { results := [.lit (.bool false)], args := [d], vars := [g1] }
  | _ => none }
def FnExactWalkedOfWrongFalsely : Prop := fnExactWalkedOfRow.holds Tryd.pinned (OpenSpec.ofChange fnExactWalkedOfWrong)

/-- 'laws.FnExactRoundsOf': WHATEVER THE INPUT: true; the input reads as it did. -/
def fnExactRoundsOfSpec : ChangeSpec := { name := "fnExactRoundsOf", vars := ["loop.example/turtlewalks/impl.directions"], fn := fun _ => fun
  | [d, g1] => { results := [.lit (.bool true)], args := [d], vars := [g1] }
  | _ => none }
def fnExactRoundsOfRow : OpenClaim := { program := "ytdkhibkebakepaadoor", sum := "1d5110bb1ef163f438e4eb4941bccc83ddaec9b9d1b27de801c9a655062487a3", func := "loop.example/turtlewalks/laws.FnExactRoundsOf", spec := "fnExactRoundsOf", unfollowed := true, recurses := true, named := ["loop.example/turtlewalks/impl.directions"], apart := false, laid := [("loop.example/turtlewalks/impl.directions", laid_loop_example_turtlewalks_impl_directions)] }
def FnExactRoundsOfSaid : Prop := fnExactRoundsOfRow.holds Tryd.pinned (OpenSpec.ofChange fnExactRoundsOfSpec)

/-- ITS FALSE NEIGHBOUR: 'it returns false'. Refute it at one input. -/
def fnExactRoundsOfWrong : ChangeSpec := { name := "fnExactRoundsOf", vars := ["loop.example/turtlewalks/impl.directions"], fn := fun _ => fun
  | [d, g1] => { results := [.lit (.bool false)], args := [d], vars := [g1] }
  | _ => none }
def FnExactRoundsOfWrongFalsely : Prop := fnExactRoundsOfRow.holds Tryd.pinned (OpenSpec.ofChange fnExactRoundsOfWrong)

/-- 'laws.FnExactDriftOf': WHATEVER THE INPUT: true; the input reads as it did. -/
def fnExactDriftOfSpec : ChangeSpec := { name := "fnExactDriftOf", vars := ["loop.example/turtlewalks/impl.directions"], fn := fun _ => fun
  | [d, g1] => { results := [.lit (.bool true)], args := [d], vars := [g1] }
  | _ => none }
def fnExactDriftOfRow : OpenClaim := { program := "ytdkhibkebakepaadoor", sum := "1d5110bb1ef163f438e4eb4941bccc83ddaec9b9d1b27de801c9a655062487a3", func := "loop.example/turtlewalks/laws.FnExactDriftOf", spec := "fnExactDriftOf", named := ["loop.example/turtlewalks/impl.directions"], apart := false, laid := [("loop.example/turtlewalks/impl.directions", laid_loop_example_turtlewalks_impl_directions)] }
def FnExactDriftOfSaid : Prop := fnExactDriftOfRow.holds Tryd.pinned (OpenSpec.ofChange fnExactDriftOfSpec)

/-- ITS FALSE NEIGHBOUR: 'it returns false'. Refute it at one input. -/
def fnExactDriftOfWrong : ChangeSpec := { name := "fnExactDriftOf", vars := ["loop.example/turtlewalks/impl.directions"], fn := fun _ => fun
  | [d, g1] => { results := [.lit (.bool false)], args := [d], vars := [g1] }
  | _ => none }
def FnExactDriftOfWrongFalsely : Prop := fnExactDriftOfRow.holds Tryd.pinned (OpenSpec.ofChange fnExactDriftOfWrong)

/-- 'laws.FnExactAfterTimes': WHATEVER THE INPUT: true; the input reads as it did. -/
def fnExactAfterTimesSpec : ChangeSpec := { name := "fnExactAfterTimes", vars := ["loop.example/turtlewalks/impl.directions"], fn := fun _ => fun
  | [d1, d2, g1] => { results := [.lit (.bool true)], args := [d1, d2], vars := [g1] }
  | _ => none }
def fnExactAfterTimesRow : OpenClaim := { program := "ytdkhibkebakepaadoor", sum := "1d5110bb1ef163f438e4eb4941bccc83ddaec9b9d1b27de801c9a655062487a3", func := "loop.example/turtlewalks/laws.FnExactAfterTimes", spec := "fnExactAfterTimes", unfollowed := true, recurses := true, named := ["loop.example/turtlewalks/impl.directions"], apart := false, laid := [("loop.example/turtlewalks/impl.directions", laid_loop_example_turtlewalks_impl_directions)] }
def FnExactAfterTimesSaid : Prop := fnExactAfterTimesRow.holds Tryd.pinned (OpenSpec.ofChange fnExactAfterTimesSpec)

/-- ITS FALSE NEIGHBOUR: 'it returns false'. Refute it at one input. -/
def fnExactAfterTimesWrong : ChangeSpec := { name := "fnExactAfterTimes", vars := ["loop.example/turtlewalks/impl.directions"], fn := fun _ => fun
  | [d1, d2, g1] => { results := [.lit (.bool false)], args := [d1, d2], vars := [g1] }
  | _ => none }
def FnExactAfterTimesWrongFalsely : Prop := fnExactAfterTimesRow.holds Tryd.pinned (OpenSpec.ofChange fnExactAfterTimesWrong)

/-- 'laws.FnExactFarthestOf': WHATEVER THE INPUT: true; the input reads as it did. -/
def fnExactFarthestOfSpec : ChangeSpec := { name := "fnExactFarthestOf", vars := ["loop.example/turtlewalks/impl.directions"], fn := fun _ => fun
  | [d, g1] => { results := [.lit (.bool true)], args := [d], vars := [g1] }
  | _ => none }
def fnExactFarthestOfRow : OpenClaim := { program := "ytdkhibkebakepaadoor", sum := "1d5110bb1ef163f438e4eb4941bccc83ddaec9b9d1b27de801c9a655062487a3", func := "loop.example/turtlewalks/laws.FnExactFarthestOf", spec := "fnExactFarthestOf", unfollowed := true, recurses := true, named := ["loop.example/turtlewalks/impl.directions"], apart := false, laid := [("loop.example/turtlewalks/impl.directions", laid_loop_example_turtlewalks_impl_directions)] }
def FnExactFarthestOfSaid : Prop := fnExactFarthestOfRow.holds Tryd.pinned (OpenSpec.ofChange fnExactFarthestOfSpec)

/-- ITS FALSE NEIGHBOUR: 'it returns false'. Refute it at one input. -/
def fnExactFarthestOfWrong : ChangeSpec := { name := "fnExactFarthestOf", vars := ["loop.example/turtlewalks/impl.directions"], fn := fun _ => fun
  | [d, g1] => { results := [.lit (.bool false)], args := [d], vars := [g1] }
  | _ => none }
def FnExactFarthestOfWrongFalsely : Prop := fnExactFarthestOfRow.holds Tryd.pinned (OpenSpec.ofChange fnExactFarthestOfWrong)

/-- 'laws.FnAfterTimes': WHATEVER THE INPUT: true; the input reads as it did. -/
def fnAfterTimesSpec : ChangeSpec := { name := "fnAfterTimes", vars := ["loop.example/turtlewalks/impl.directions"], fn := fun _ => fun
  | [d, g1] => { results := [.lit (.bool true)], args := [d], vars := [g1] }
  | _ => none }
def fnAfterTimesRow : OpenClaim := { program := "ytdkhibkebakepaadoor", sum := "1d5110bb1ef163f438e4eb4941bccc83ddaec9b9d1b27de801c9a655062487a3", func := "loop.example/turtlewalks/laws.FnAfterTimes", spec := "fnAfterTimes", unfollowed := true, recurses := true, named := ["loop.example/turtlewalks/impl.directions"], apart := false, laid := [("loop.example/turtlewalks/impl.directions", laid_loop_example_turtlewalks_impl_directions)] }
def FnAfterTimesSaid : Prop := fnAfterTimesRow.holds Tryd.pinned (OpenSpec.ofChange fnAfterTimesSpec)

/-- ITS FALSE NEIGHBOUR: 'it returns false'. Refute it at one input. -/
def fnAfterTimesWrong : ChangeSpec := { name := "fnAfterTimes", vars := ["loop.example/turtlewalks/impl.directions"], fn := fun _ => fun
  | [d, g1] => { results := [.lit (.bool false)], args := [d], vars := [g1] }
  | _ => none }
def FnAfterTimesWrongFalsely : Prop := fnAfterTimesRow.holds Tryd.pinned (OpenSpec.ofChange fnAfterTimesWrong)

/-- 'laws.FnFarthestOf': WHATEVER THE INPUT: true; the input reads as it did. -/
def fnFarthestOfSpec : ChangeSpec := { name := "fnFarthestOf", vars := ["loop.example/turtlewalks/impl.directions"], fn := fun _ => fun
  | [d, g1] => { results := [.lit (.bool true)], args := [d], vars := [g1] }
  | _ => none }
def fnFarthestOfRow : OpenClaim := { program := "ytdkhibkebakepaadoor", sum := "1d5110bb1ef163f438e4eb4941bccc83ddaec9b9d1b27de801c9a655062487a3", func := "loop.example/turtlewalks/laws.FnFarthestOf", spec := "fnFarthestOf", unfollowed := true, recurses := true, named := ["loop.example/turtlewalks/impl.directions"], apart := false, laid := [("loop.example/turtlewalks/impl.directions", laid_loop_example_turtlewalks_impl_directions)] }
def FnFarthestOfSaid : Prop := fnFarthestOfRow.holds Tryd.pinned (OpenSpec.ofChange fnFarthestOfSpec)

/-- ITS FALSE NEIGHBOUR: 'it returns false'. Refute it at one input. -/
def fnFarthestOfWrong : ChangeSpec := { name := "fnFarthestOf", vars := ["loop.example/turtlewalks/impl.directions"], fn := fun _ => fun
  | [d, g1] => { results := [.lit (.bool false)], args := [d], vars := [g1] }
  | _ => none }
def FnFarthestOfWrongFalsely : Prop := fnFarthestOfRow.holds Tryd.pinned (OpenSpec.ofChange fnFarthestOfWrong)

/-- 'laws.FnRoundsOf': WHATEVER THE INPUT: true; the input reads as it did. -/
def fnRoundsOfSpec : ChangeSpec := { name := "fnRoundsOf", vars := ["loop.example/turtlewalks/impl.directions"], fn := fun _ => fun
  | [d, g1] => { results := [.lit (.bool true)], args := [d], vars := [g1] }
  | _ => none }
def fnRoundsOfRow : OpenClaim := { program := "ytdkhibkebakepaadoor", sum := "1d5110bb1ef163f438e4eb4941bccc83ddaec9b9d1b27de801c9a655062487a3", func := "loop.example/turtlewalks/laws.FnRoundsOf", spec := "fnRoundsOf", unfollowed := true, recurses := true, named := ["loop.example/turtlewalks/impl.directions"], apart := false, laid := [("loop.example/turtlewalks/impl.directions", laid_loop_example_turtlewalks_impl_directions)] }
def FnRoundsOfSaid : Prop := fnRoundsOfRow.holds Tryd.pinned (OpenSpec.ofChange fnRoundsOfSpec)

/-- ITS FALSE NEIGHBOUR: 'it returns false'. Refute it at one input. -/
def fnRoundsOfWrong : ChangeSpec := { name := "fnRoundsOf", vars := ["loop.example/turtlewalks/impl.directions"], fn := fun _ => fun
  | [d, g1] => { results := [.lit (.bool false)], args := [d], vars := [g1] }
  | _ => none }
def FnRoundsOfWrongFalsely : Prop := fnRoundsOfRow.holds Tryd.pinned (OpenSpec.ofChange fnRoundsOfWrong)

/-- 'laws.FnDriftOf': WHATEVER THE INPUT: true; the input reads as it did. -/
def fnDriftOfSpec : ChangeSpec := { name := "fnDriftOf", vars := ["loop.example/turtlewalks/impl.directions"], fn := fun _ => fun
  | [d, g1] => { results := [.lit (.bool true)], args := [d], vars := [g1] }
  | _ => none }
def fnDriftOfRow : OpenClaim := { program := "ytdkhibkebakepaadoor", sum := "1d5110bb1ef163f438e4eb4941bccc83ddaec9b9d1b27de801c9a655062487a3", func := "loop.example/turtlewalks/laws.FnDriftOf", spec := "fnDriftOf", unfollowed := true, recurses := true, named := ["loop.example/turtlewalks/impl.directions"], apart := false, laid := [("loop.example/turtlewalks/impl.directions", laid_loop_example_turtlewalks_impl_directions)] }
def FnDriftOfSaid : Prop := fnDriftOfRow.holds Tryd.pinned (OpenSpec.ofChange fnDriftOfSpec)

/-- ITS FALSE NEIGHBOUR: 'it returns false'. Refute it at one input. -/
def fnDriftOfWrong : ChangeSpec := { name := "fnDriftOf", vars := ["loop.example/turtlewalks/impl.directions"], fn := fun _ => fun
  | [d, g1] => { results := [.lit (.bool false)], args := [d], vars := [g1] }
  | _ => none }
def FnDriftOfWrongFalsely : Prop := fnDriftOfRow.holds Tryd.pinned (OpenSpec.ofChange fnDriftOfWrong)

/- THE SECOND FORM. 'bulk': how many values and letters a reading holds, each counted each time it is reached (what is shared counts as often as it is met; a slice's spare places count too). A statement '..UptoSaid' is the law's where the arguments, and the package variables that the reading takes, are together of bulk at most 1048576: NARROWER than '..Said'. Prove '..Said' where nothing that the law and all that it calls make is longer than what came in: it says more and counts as full. Else prove '..UptoSaid'. A law counts once. -/
mutual
def uptoBulk {H : Type} : DataW H → Nat
  | .lit (.string bytes) => bytes.length + 1
  | .lit _ => 1
  | .nil => 1
  | .ptr d => uptoBulk d + 1
  | .slice elems spare => uptoBulkAll elems + uptoBulkAll spare + 1
  | .agg parts => uptoBulkAll parts + 1
  | .iface _ d => uptoBulk d + 1
  | .map entries => uptoBulkEntries entries + 1
  | .held _ => 1
def uptoBulkAll {H : Type} : List (DataW H) → Nat
  | [] => 0
  | d :: r => uptoBulk d + uptoBulkAll r
def uptoBulkEntries {H : Type} : List (Lit × DataW H) → Nat
  | [] => 0
  | x :: r => uptoBulkEntry x + uptoBulkEntries r
def uptoBulkEntry {H : Type} : Lit × DataW H → Nat
  | (.string bytes, d) => bytes.length + uptoBulk d + 1
  | (_, d) => uptoBulk d + 1
 end
def uptoSmall : (H : Type) → List (DataW H) → Bool := fun _ ds => decide (uptoBulkAll ds ≤ 1048576)
def OpenSpec.upto (s : _root_.Go.ChangeSpec) : _root_.Go.OpenSpec := { _root_.Go.OpenSpec.ofChange s with cond := some uptoSmall }

/-- 'laws.FnExactWalkedOf', WHERE WHAT IT READS IS OF BULK AT MOST 1048576: true; the input reads as it did. -/
def fnExactWalkedOfUptoRow : OpenClaim := { program := "ytdkhibkebakepaadoor", sum := "1d5110bb1ef163f438e4eb4941bccc83ddaec9b9d1b27de801c9a655062487a3", func := "loop.example/turtlewalks/laws.FnExactWalkedOf", spec := "fnExactWalkedOf", named := ["loop.example/turtlewalks/impl.directions"], apart := false, laid := [("loop.example/turtlewalks/impl.directions", laid_loop_example_turtlewalks_impl_directions)], narrowed := true }
def FnExactWalkedOfUptoSaid : Prop := fnExactWalkedOfUptoRow.holds Tryd.pinned (OpenSpec.upto fnExactWalkedOfSpec)

/-- 'laws.FnExactRoundsOf', WHERE WHAT IT READS IS OF BULK AT MOST 1048576: true; the input reads as it did. -/
def fnExactRoundsOfUptoRow : OpenClaim := { program := "ytdkhibkebakepaadoor", sum := "1d5110bb1ef163f438e4eb4941bccc83ddaec9b9d1b27de801c9a655062487a3", func := "loop.example/turtlewalks/laws.FnExactRoundsOf", spec := "fnExactRoundsOf", unfollowed := true, recurses := true, named := ["loop.example/turtlewalks/impl.directions"], apart := false, laid := [("loop.example/turtlewalks/impl.directions", laid_loop_example_turtlewalks_impl_directions)], narrowed := true }
def FnExactRoundsOfUptoSaid : Prop := fnExactRoundsOfUptoRow.holds Tryd.pinned (OpenSpec.upto fnExactRoundsOfSpec)

/-- 'laws.FnExactDriftOf', WHERE WHAT IT READS IS OF BULK AT MOST 1048576: true; the input reads as it did. -/
def fnExactDriftOfUptoRow : OpenClaim := { program := "ytdkhibkebakepaadoor", sum := "1d5110bb1ef163f438e4eb4941bccc83ddaec9b9d1b27de801c9a655062487a3", func := "loop.example/turtlewalks/laws.FnExactDriftOf", spec := "fnExactDriftOf", named := ["loop.example/turtlewalks/impl.directions"], apart := false, laid := [("loop.example/turtlewalks/impl.directions", laid_loop_example_turtlewalks_impl_directions)], narrowed := true }
def FnExactDriftOfUptoSaid : Prop := fnExactDriftOfUptoRow.holds Tryd.pinned (OpenSpec.upto fnExactDriftOfSpec)

/-- 'laws.FnExactAfterTimes', WHERE WHAT IT READS IS OF BULK AT MOST 1048576: true; the input reads as it did. -/
def fnExactAfterTimesUptoRow : OpenClaim := { program := "ytdkhibkebakepaadoor", sum := "1d5110bb1ef163f438e4eb4941bccc83ddaec9b9d1b27de801c9a655062487a3", func := "loop.example/turtlewalks/laws.FnExactAfterTimes", spec := "fnExactAfterTimes", unfollowed := true, recurses := true, named := ["loop.example/turtlewalks/impl.directions"], apart := false, laid := [("loop.example/turtlewalks/impl.directions", laid_loop_example_turtlewalks_impl_directions)], narrowed := true }
def FnExactAfterTimesUptoSaid : Prop := fnExactAfterTimesUptoRow.holds Tryd.pinned (OpenSpec.upto fnExactAfterTimesSpec)

/-- 'laws.FnExactFarthestOf', WHERE WHAT IT READS IS OF BULK AT MOST 1048576: true; the input reads as it did. -/
def fnExactFarthestOfUptoRow : OpenClaim := { program := "ytdkhibkebakepaadoor", sum := "1d5110bb1ef163f438e4eb4941bccc83ddaec9b9d1b27de801c9a655062487a3", func := "loop.example/turtlewalks/laws.FnExactFarthestOf", spec := "fnExactFarthestOf", unfollowed := true, recurses := true, named := ["loop.example/turtlewalks/impl.directions"], apart := false, laid := [("loop.example/turtlewalks/impl.directions", laid_loop_example_turtlewalks_impl_directions)], narrowed := true }
def FnExactFarthestOfUptoSaid : Prop := fnExactFarthestOfUptoRow.holds Tryd.pinned (OpenSpec.upto fnExactFarthestOfSpec)

/-- 'laws.FnAfterTimes', WHERE WHAT IT READS IS OF BULK AT MOST 1048576: true; the input reads as it did. -/
def fnAfterTimesUptoRow : OpenClaim := { program := "ytdkhibkebakepaadoor", sum := "1d5110bb1ef163f438e4eb4941bccc83ddaec9b9d1b27de801c9a655062487a3", func := "loop.example/turtlewalks/laws.FnAfterTimes", spec := "fnAfterTimes", unfollowed := true, recurses := true, named := ["loop.example/turtlewalks/impl.directions"], apart := false, laid := [("loop.example/turtlewalks/impl.directions", laid_loop_example_turtlewalks_impl_directions)], narrowed := true }
def FnAfterTimesUptoSaid : Prop := fnAfterTimesUptoRow.holds Tryd.pinned (OpenSpec.upto fnAfterTimesSpec)

/-- 'laws.FnFarthestOf', WHERE WHAT IT READS IS OF BULK AT MOST 1048576: true; the input reads as it did. -/
def fnFarthestOfUptoRow : OpenClaim := { program := "ytdkhibkebakepaadoor", sum := "1d5110bb1ef163f438e4eb4941bccc83ddaec9b9d1b27de801c9a655062487a3", func := "loop.example/turtlewalks/laws.FnFarthestOf", spec := "fnFarthestOf", unfollowed := true, recurses := true, named := ["loop.example/turtlewalks/impl.directions"], apart := false, laid := [("loop.example/turtlewalks/impl.directions", laid_loop_example_turtlewalks_impl_directions)], narrowed := true }
def FnFarthestOfUptoSaid : Prop := fnFarthestOfUptoRow.holds Tryd.pinned (OpenSpec.upto fnFarthestOfSpec)

/-- 'laws.FnRoundsOf', WHERE WHAT IT READS IS OF BULK AT MOST 1048576: true; the input reads as it did. -/
def fnRoundsOfUptoRow : OpenClaim := { program := "ytdkhibkebakepaadoor", sum := "1d5110bb1ef163f438e4eb4941bccc83ddaec9b9d1b27de801c9a655062487a3", func := "loop.example/turtlewalks/laws.FnRoundsOf", spec := "fnRoundsOf", unfollowed := true, recurses := true, named := ["loop.example/turtlewalks/impl.directions"], apart := false, laid := [("loop.example/turtlewalks/impl.directions", laid_loop_example_turtlewalks_impl_directions)], narrowed := true }
def FnRoundsOfUptoSaid : Prop := fnRoundsOfUptoRow.holds Tryd.pinned (OpenSpec.upto fnRoundsOfSpec)

/-- 'laws.FnDriftOf', WHERE WHAT IT READS IS OF BULK AT MOST 1048576: true; the input reads as it did. -/
def fnDriftOfUptoRow : OpenClaim := { program := "ytdkhibkebakepaadoor", sum := "1d5110bb1ef163f438e4eb4941bccc83ddaec9b9d1b27de801c9a655062487a3", func := "loop.example/turtlewalks/laws.FnDriftOf", spec := "fnDriftOf", unfollowed := true, recurses := true, named := ["loop.example/turtlewalks/impl.directions"], apart := false, laid := [("loop.example/turtlewalks/impl.directions", laid_loop_example_turtlewalks_impl_directions)], narrowed := true }
def FnDriftOfUptoSaid : Prop := fnDriftOfUptoRow.holds Tryd.pinned (OpenSpec.upto fnDriftOfSpec)

end Rows
end Go.Proofs.YtdkhibkebakepaaDoor
