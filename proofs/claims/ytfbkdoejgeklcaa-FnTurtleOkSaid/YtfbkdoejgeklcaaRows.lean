/-
  No cell of these rows narrows 'for every input' (looked for: loops, veiled, ifaces, maps, wideKeys, modest, calm, conditions, laid).
  DERIVED. THE GIVEN ROWS OF THIS SEAT. 8 by the template 'for every input the law returns true; each argument reads behind the call as it read before'; 0 by the template 'total and deterministic' (their statements: YtfbkdoejgeklcaaTotals.lean).
  GIVEN WITH THE SEED: the statements are not yours to turn. If you find one false, say at which input.
  Laid BY PROGRAM, IN A SANDBOX (cutbox-rows.mjs): the forced cells as the released guide's own fill.sh prints them over the translation 60228da4f5ba08f7… (all of the seat's roots in one cut). By AI agents, Wed Nov 11 2026. No macro, syntax, notation, axiom, sorry.
-/
import Derived.Test.YtfbkdoejgeklcaaChecked
import GoSem.Claim
import GoSem.ClaimJoined
import GoSem.ClaimMapViews
import Derived.JoinedTies
import Derived.KernelRfl
namespace Go.Proofs.Ytfbkdoejgeklcaa
/- THE CELL 'sum', in the pinned program and in every row, IS THE sha256 OF THE DUMP (.gsa) THAT YtfbkdoejgeklcaaProg.lean LOADS. Nothing in Lean hashes anything: it is a label: what it is worth is what the hold of that sum in a sandbox is worth. -/
noncomputable def Try.pinned : Pinned := { name := "ytfbkdoejgeklcaa", sum := "60228da4f5ba08f70bd3f77ac147d6ce5246343361ac631dc7aec314b884f3f0", checked := Try.checked }
namespace Rows
def none {H : Type} : Left H := { results := [], args := [] }

/-- 'laws.FnExactConstants': WHATEVER THE INPUT: true; the input reads as it did. -/
def fnExactConstantsSpec : ChangeSpec := { name := "fnExactConstants", fn := fun _ => fun
  | [] => { results := [.lit (.bool true)], args := [] }
  | _ => none }
def fnExactConstantsRow : OpenClaim := { program := "ytfbkdoejgeklcaa", sum := "60228da4f5ba08f70bd3f77ac147d6ce5246343361ac631dc7aec314b884f3f0", func := "loop.example/turtlewalks/laws.FnExactConstants", spec := "fnExactConstants", apart := false }
def FnExactConstantsSaid : Prop := fnExactConstantsRow.holds Try.pinned (OpenSpec.ofChange fnExactConstantsSpec)

/-- ITS FALSE NEIGHBOUR: 'it returns false'. Refute it at one input. -/
def fnExactConstantsWrong : ChangeSpec := { name := "fnExactConstants", fn := fun _ => fun
  | [] => { results := [.lit (.bool false)], args := [] }
  | _ => none }
def FnExactConstantsWrongFalsely : Prop := fnExactConstantsRow.holds Try.pinned (OpenSpec.ofChange fnExactConstantsWrong)

/-- 'laws.FnExactTurtleOk': WHATEVER THE INPUT: true; the input reads as it did. -/
def fnExactTurtleOkSpec : ChangeSpec := { name := "fnExactTurtleOk", fn := fun _ => fun
  | [d] => { results := [.lit (.bool true)], args := [d] }
  | _ => none }
def fnExactTurtleOkRow : OpenClaim := { program := "ytfbkdoejgeklcaa", sum := "60228da4f5ba08f70bd3f77ac147d6ce5246343361ac631dc7aec314b884f3f0", func := "loop.example/turtlewalks/laws.FnExactTurtleOk", spec := "fnExactTurtleOk", apart := false }
def FnExactTurtleOkSaid : Prop := fnExactTurtleOkRow.holds Try.pinned (OpenSpec.ofChange fnExactTurtleOkSpec)

/-- ITS FALSE NEIGHBOUR: 'it returns false'. Refute it at one input. -/
def fnExactTurtleOkWrong : ChangeSpec := { name := "fnExactTurtleOk", fn := fun _ => fun
  | [d] => { results := [.lit (.bool false)], args := [d] }
  | _ => none }
def FnExactTurtleOkWrongFalsely : Prop := fnExactTurtleOkRow.holds Try.pinned (OpenSpec.ofChange fnExactTurtleOkWrong)

/-- 'laws.FnExactWordOk': WHATEVER THE INPUT: true; the input reads as it did. -/
def fnExactWordOkSpec : ChangeSpec := { name := "fnExactWordOk", fn := fun _ => fun
  | [d] => { results := [.lit (.bool true)], args := [d] }
  | _ => none }
def fnExactWordOkRow : OpenClaim := { program := "ytfbkdoejgeklcaa", sum := "60228da4f5ba08f70bd3f77ac147d6ce5246343361ac631dc7aec314b884f3f0", func := "loop.example/turtlewalks/laws.FnExactWordOk", spec := "fnExactWordOk", apart := false }
def FnExactWordOkSaid : Prop := fnExactWordOkRow.holds Try.pinned (OpenSpec.ofChange fnExactWordOkSpec)

/-- ITS FALSE NEIGHBOUR: 'it returns false'. Refute it at one input. -/
def fnExactWordOkWrong : ChangeSpec := { name := "fnExactWordOk", fn := fun _ => fun
  | [d] => { results := [.lit (.bool false)], args := [d] }
  | _ => none }
def FnExactWordOkWrongFalsely : Prop := fnExactWordOkRow.holds Try.pinned (OpenSpec.ofChange fnExactWordOkWrong)

/-- 'laws.FnExactTurnsOf': WHATEVER THE INPUT: true; the input reads as it did. -/
def fnExactTurnsOfSpec : ChangeSpec := { name := "fnExactTurnsOf", fn := fun _ => fun
  | [d] => { results := [.lit (.bool true)], args := [d] }
  | _ => none }
def fnExactTurnsOfRow : OpenClaim := { program := "ytfbkdoejgeklcaa", sum := "60228da4f5ba08f70bd3f77ac147d6ce5246343361ac631dc7aec314b884f3f0", func := "loop.example/turtlewalks/laws.FnExactTurnsOf", spec := "fnExactTurnsOf", apart := false }
def FnExactTurnsOfSaid : Prop := fnExactTurnsOfRow.holds Try.pinned (OpenSpec.ofChange fnExactTurnsOfSpec)

/-- ITS FALSE NEIGHBOUR: 'it returns false'. Refute it at one input. -/
def fnExactTurnsOfWrong : ChangeSpec := { name := "fnExactTurnsOf", fn := fun _ => fun
  | [d] => { results := [.lit (.bool false)], args := [d] }
  | _ => none }
def FnExactTurnsOfWrongFalsely : Prop := fnExactTurnsOfRow.holds Try.pinned (OpenSpec.ofChange fnExactTurnsOfWrong)

/-- 'laws.FnExactBackOf': WHATEVER THE INPUT: true; the input reads as it did. -/
def fnExactBackOfSpec : ChangeSpec := { name := "fnExactBackOf", fn := fun _ => fun
  | [d] => { results := [.lit (.bool true)], args := [d] }
  | _ => none }
def fnExactBackOfRow : OpenClaim := { program := "ytfbkdoejgeklcaa", sum := "60228da4f5ba08f70bd3f77ac147d6ce5246343361ac631dc7aec314b884f3f0", func := "loop.example/turtlewalks/laws.FnExactBackOf", spec := "fnExactBackOf", apart := false }
def FnExactBackOfSaid : Prop := fnExactBackOfRow.holds Try.pinned (OpenSpec.ofChange fnExactBackOfSpec)

/-- ITS FALSE NEIGHBOUR: 'it returns false'. Refute it at one input. -/
def fnExactBackOfWrong : ChangeSpec := { name := "fnExactBackOf", fn := fun _ => fun
  | [d] => { results := [.lit (.bool false)], args := [d] }
  | _ => none }
def FnExactBackOfWrongFalsely : Prop := fnExactBackOfRow.holds Try.pinned (OpenSpec.ofChange fnExactBackOfWrong)

/-- 'laws.FnWordOk': WHATEVER THE INPUT: true; the input reads as it did. -/
def fnWordOkSpec : ChangeSpec := { name := "fnWordOk", fn := fun _ => fun
  | [d] => { results := [.lit (.bool true)], args := [d] }
  | _ => none }
def fnWordOkRow : OpenClaim := { program := "ytfbkdoejgeklcaa", sum := "60228da4f5ba08f70bd3f77ac147d6ce5246343361ac631dc7aec314b884f3f0", func := "loop.example/turtlewalks/laws.FnWordOk", spec := "fnWordOk", apart := false }
def FnWordOkSaid : Prop := fnWordOkRow.holds Try.pinned (OpenSpec.ofChange fnWordOkSpec)

/-- ITS FALSE NEIGHBOUR: 'it returns false'. Refute it at one input. -/
def fnWordOkWrong : ChangeSpec := { name := "fnWordOk", fn := fun _ => fun
  | [d] => { results := [.lit (.bool false)], args := [d] }
  | _ => none }
def FnWordOkWrongFalsely : Prop := fnWordOkRow.holds Try.pinned (OpenSpec.ofChange fnWordOkWrong)

/-- 'laws.FnTurtleOk': WHATEVER THE INPUT: true; the input reads as it did. -/
def fnTurtleOkSpec : ChangeSpec := { name := "fnTurtleOk", fn := fun _ => fun
  | [d] => { results := [.lit (.bool true)], args := [d] }
  | _ => none }
def fnTurtleOkRow : OpenClaim := { program := "ytfbkdoejgeklcaa", sum := "60228da4f5ba08f70bd3f77ac147d6ce5246343361ac631dc7aec314b884f3f0", func := "loop.example/turtlewalks/laws.FnTurtleOk", spec := "fnTurtleOk", apart := false }
def FnTurtleOkSaid : Prop := fnTurtleOkRow.holds Try.pinned (OpenSpec.ofChange fnTurtleOkSpec)

/-- ITS FALSE NEIGHBOUR: 'it returns false'. Refute it at one input. -/
def fnTurtleOkWrong : ChangeSpec := { name := "fnTurtleOk", fn := fun _ => fun
  | [d] => { results := [.lit (.bool false)], args := [d] }
  | _ => none }
def FnTurtleOkWrongFalsely : Prop := fnTurtleOkRow.holds Try.pinned (OpenSpec.ofChange fnTurtleOkWrong)

/-- 'laws.FnTurnsOf': WHATEVER THE INPUT: true; the input reads as it did. -/
def fnTurnsOfSpec : ChangeSpec := { name := "fnTurnsOf", fn := fun _ => fun
  | [d] => { results := [.lit (.bool true)], args := [d] }
  | _ => none }
def fnTurnsOfRow : OpenClaim := { program := "ytfbkdoejgeklcaa", sum := "60228da4f5ba08f70bd3f77ac147d6ce5246343361ac631dc7aec314b884f3f0", func := "loop.example/turtlewalks/laws.FnTurnsOf", spec := "fnTurnsOf", apart := false }
def FnTurnsOfSaid : Prop := fnTurnsOfRow.holds Try.pinned (OpenSpec.ofChange fnTurnsOfSpec)

/-- ITS FALSE NEIGHBOUR: 'it returns false'. Refute it at one input. -/
def fnTurnsOfWrong : ChangeSpec := { name := "fnTurnsOf", fn := fun _ => fun
  | [d] => { results := [.lit (.bool false)], args := [d] }
  | _ => none }
def FnTurnsOfWrongFalsely : Prop := fnTurnsOfRow.holds Try.pinned (OpenSpec.ofChange fnTurnsOfWrong)

/- THE SECOND FORM. 'bulk': how many values and letters a reading holds, each counted each time it is reached (what is shared counts as often as it is met; a slice's spare places count too). A statement '..UptoSaid' is the law's where the arguments, and the package variables that the reading takes, are together of bulk at most 1048576: NARROWER than '..Said'. Prove '..Said' where nothing that the law and all that it calls make is longer than what came in: it says more and counts as full. Else prove '..UptoSaid'. A law counts once. -/
mutual
def uptoBulk {H : Type} : DataW H → Nat
  | .lit (.string bytes) => bytes.length + 1
  | .lit _ => 1
  | .nil => 1
  | .ptr d => uptoBulk d + 1
  | .slice elems spare => uptoBulkAll elems + uptoBulkAll spare + 1
  | .agg parts => uptoBulkAll parts + 1
  | .iface _ d => uptoBulk d + 1
  | .map entries => uptoBulkEntries entries + 1
  | .held _ => 1
def uptoBulkAll {H : Type} : List (DataW H) → Nat
  | [] => 0
  | d :: r => uptoBulk d + uptoBulkAll r
def uptoBulkEntries {H : Type} : List (Lit × DataW H) → Nat
  | [] => 0
  | x :: r => uptoBulkEntry x + uptoBulkEntries r
def uptoBulkEntry {H : Type} : Lit × DataW H → Nat
  | (.string bytes, d) => bytes.length + uptoBulk d + 1
  | (_, d) => uptoBulk d + 1
 end
def uptoSmall : (H : Type) → List (DataW H) → Bool := fun _ ds => decide (uptoBulkAll ds ≤ 1048576)
def OpenSpec.upto (s : _root_.Go.ChangeSpec) : _root_.Go.OpenSpec := { _root_.Go.OpenSpec.ofChange s with cond := some uptoSmall }

/-- 'laws.FnExactConstants', WHERE WHAT IT READS IS OF BULK AT MOST 1048576: true; the input reads as it did. -/
def fnExactConstantsUptoRow : OpenClaim := { program := "ytfbkdoejgeklcaa", sum := "60228da4f5ba08f70bd3f77ac147d6ce5246343361ac631dc7aec314b884f3f0", func := "loop.example/turtlewalks/laws.FnExactConstants", spec := "fnExactConstants", apart := false, narrowed := true }
def FnExactConstantsUptoSaid : Prop := fnExactConstantsUptoRow.holds Try.pinned (OpenSpec.upto fnExactConstantsSpec)

/-- 'laws.FnExactTurtleOk', WHERE WHAT IT READS IS OF BULK AT MOST 1048576: true; the input reads as it did. -/
def fnExactTurtleOkUptoRow : OpenClaim := { program := "ytfbkdoejgeklcaa", sum := "60228da4f5ba08f70bd3f77ac147d6ce5246343361ac631dc7aec314b884f3f0", func := "loop.example/turtlewalks/laws.FnExactTurtleOk", spec := "fnExactTurtleOk", apart := false, narrowed := true }
def FnExactTurtleOkUptoSaid : Prop := fnExactTurtleOkUptoRow.holds Try.pinned (OpenSpec.upto fnExactTurtleOkSpec)

/-- 'laws.FnExactWordOk', WHERE WHAT IT READS IS OF BULK AT MOST 1048576: true; the input reads as it did. -/
def fnExactWordOkUptoRow : OpenClaim := { program := "ytfbkdoejgeklcaa", sum := "60228da4f5ba08f70bd3f77ac147d6ce5246343361ac631dc7aec314b884f3f0", func := "loop.example/turtlewalks/laws.FnExactWordOk", spec := "fnExactWordOk", apart := false, narrowed := true }
def FnExactWordOkUptoSaid : Prop := fnExactWordOkUptoRow.holds Try.pinned (OpenSpec.upto fnExactWordOkSpec)

/-- 'laws.FnExactTurnsOf', WHERE WHAT IT READS IS OF BULK AT MOST 1048576: true; the input reads as it did. -/
def fnExactTurnsOfUptoRow : OpenClaim := { program := "ytfbkdoejgeklcaa", sum := "60228da4f5ba08f70bd3f77ac147d6ce5246343361ac631dc7aec314b884f3f0", func := "loop.example/turtlewalks/laws.FnExactTurnsOf", spec := "fnExactTurnsOf", apart := false, narrowed := true }
def FnExactTurnsOfUptoSaid : Prop := fnExactTurnsOfUptoRow.holds Try.pinned (OpenSpec.upto fnExactTurnsOfSpec)

/-- 'laws.FnExactBackOf', WHERE WHAT IT READS IS OF BULK AT MOST 1048576: true; the input reads as it did. -/
def fnExactBackOfUptoRow : OpenClaim := { program := "ytfbkdoejgeklcaa", sum := "60228da4f5ba08f70bd3f77ac147d6ce5246343361ac631dc7aec314b884f3f0", func := "loop.example/turtlewalks/laws.FnExactBackOf", spec := "fnExactBackOf", apart := false, narrowed := true }
def FnExactBackOfUptoSaid : Prop := fnExactBackOfUptoRow.holds Try.pinned (OpenSpec.upto fnExactBackOfSpec)

/-- 'laws.FnWordOk', WHERE WHAT IT READS IS OF BULK AT MOST 1048576: true; the input reads as it did. -/
def fnWordOkUptoRow : OpenClaim := { program := "ytfbkdoejgeklcaa", sum := "60228da4f5ba08f70bd3f77ac147d6ce5246343361ac631dc7aec314b884f3f0", func := "loop.example/turtlewalks/laws.FnWordOk", spec := "fnWordOk", apart := false, narrowed := true }
def FnWordOkUptoSaid : Prop := fnWordOkUptoRow.holds Try.pinned (OpenSpec.upto fnWordOkSpec)

/-- 'laws.FnTurtleOk', WHERE WHAT IT READS IS OF BULK AT MOST 1048576: true; the input reads as it did. -/
def fnTurtleOkUptoRow : OpenClaim := { program := "ytfbkdoejgeklcaa", sum := "60228da4f5ba08f70bd3f77ac147d6ce5246343361ac631dc7aec314b884f3f0", func := "loop.example/turtlewalks/laws.FnTurtleOk", spec := "fnTurtleOk", apart := false, narrowed := true }
def FnTurtleOkUptoSaid : Prop := fnTurtleOkUptoRow.holds Try.pinned (OpenSpec.upto fnTurtleOkSpec)

/-- 'laws.FnTurnsOf', WHERE WHAT IT READS IS OF BULK AT MOST 1048576: true; the input reads as it did. -/
def fnTurnsOfUptoRow : OpenClaim := { program := "ytfbkdoejgeklcaa", sum := "60228da4f5ba08f70bd3f77ac147d6ce5246343361ac631dc7aec314b884f3f0", func := "loop.example/turtlewalks/laws.FnTurnsOf", spec := "fnTurnsOf", apart := false, narrowed := true }
def FnTurnsOfUptoSaid : Prop := fnTurnsOfUptoRow.holds Try.pinned (OpenSpec.upto fnTurnsOfSpec)

end Rows
end Go.Proofs.Ytfbkdoejgeklcaa
