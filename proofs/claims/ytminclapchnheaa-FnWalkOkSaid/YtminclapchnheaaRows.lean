/-
  No cell of these rows narrows 'for every input' (looked for: loops, veiled, ifaces, maps, wideKeys, modest, calm, conditions, laid).
  DERIVED. THE GIVEN ROWS OF THIS SEAT. 3 by the template 'for every input the law returns true; each argument reads behind the call as it read before'; 0 by the template 'total and deterministic' (their statements: YtminclapchnheaaTotals.lean).
  GIVEN WITH THE SEED: the statements are not yours to turn. If you find one false, say at which input.
  Laid BY PROGRAM, IN A SANDBOX (cutbox-rows.mjs): the forced cells as the released guide's own fill.sh prints them over the translation 37037af72758d27a… (all of the seat's roots in one cut). By AI agents, Wed Nov 11 2026. No macro, syntax, notation, axiom, sorry.
-/
import Derived.Test.YtminclapchnheaaChecked
import GoSem.Claim
import GoSem.ClaimJoined
import GoSem.ClaimMapViews
import Derived.JoinedTies
import Derived.KernelRfl
namespace Go.Proofs.Ytminclapchnheaa
/- THE CELL 'sum', in the pinned program and in every row, IS THE sha256 OF THE DUMP (.gsa) THAT YtminclapchnheaaProg.lean LOADS. Nothing in Lean hashes anything: it is a label: what it is worth is what the hold of that sum in a sandbox is worth. -/
noncomputable def Try.pinned : Pinned := { name := "ytminclapchnheaa", sum := "37037af72758d27a5bbeae1f5c5297375d484e56355338b240b55b00f1e0ee34", checked := Try.checked }
namespace Rows
def none {H : Type} : Left H := { results := [], args := [] }

/-- 'laws.FnExactWalkOk': WHATEVER THE INPUT: true; the input reads as it did. -/
def fnExactWalkOkSpec : ChangeSpec := { name := "fnExactWalkOk", fn := fun _ => fun
  | [d] => { results := [.lit (.bool true)], args := [d] }
  | _ => none }
def fnExactWalkOkRow : OpenClaim := { program := "ytminclapchnheaa", sum := "37037af72758d27a5bbeae1f5c5297375d484e56355338b240b55b00f1e0ee34", func := "loop.example/turtlewalks/laws.FnExactWalkOk", spec := "fnExactWalkOk", inPlace := ["internal/bytealg.IndexByteString"], apart := false }
def FnExactWalkOkSaid : Prop := fnExactWalkOkRow.holds Try.pinned (OpenSpec.ofChange fnExactWalkOkSpec)

/-- ITS FALSE NEIGHBOUR: 'it returns false'. Refute it at one input. -/
def fnExactWalkOkWrong : ChangeSpec := { name := "fnExactWalkOk", fn := fun _ => fun
  | [d] => { results := [.lit (.bool false)], args := [d] }
  | _ => none }
def FnExactWalkOkWrongFalsely : Prop := fnExactWalkOkRow.holds Try.pinned (OpenSpec.ofChange fnExactWalkOkWrong)

/-- 'laws.FnExactBackWalk': WHATEVER THE INPUT: true; the input reads as it did. -/
def fnExactBackWalkSpec : ChangeSpec := { name := "fnExactBackWalk", fn := fun _ => fun
  | [d] => { results := [.lit (.bool true)], args := [d] }
  | _ => none }
def fnExactBackWalkRow : OpenClaim := { program := "ytminclapchnheaa", sum := "37037af72758d27a5bbeae1f5c5297375d484e56355338b240b55b00f1e0ee34", func := "loop.example/turtlewalks/laws.FnExactBackWalk", spec := "fnExactBackWalk", inPlace := ["internal/bytealg.IndexByteString"], apart := false }
def FnExactBackWalkSaid : Prop := fnExactBackWalkRow.holds Try.pinned (OpenSpec.ofChange fnExactBackWalkSpec)

/-- ITS FALSE NEIGHBOUR: 'it returns false'. Refute it at one input. -/
def fnExactBackWalkWrong : ChangeSpec := { name := "fnExactBackWalk", fn := fun _ => fun
  | [d] => { results := [.lit (.bool false)], args := [d] }
  | _ => none }
def FnExactBackWalkWrongFalsely : Prop := fnExactBackWalkRow.holds Try.pinned (OpenSpec.ofChange fnExactBackWalkWrong)

/-- 'laws.FnWalkOk': WHATEVER THE INPUT: true; the input reads as it did. -/
def fnWalkOkSpec : ChangeSpec := { name := "fnWalkOk", fn := fun _ => fun
  | [d] => { results := [.lit (.bool true)], args := [d] }
  | _ => none }
def fnWalkOkRow : OpenClaim := { program := "ytminclapchnheaa", sum := "37037af72758d27a5bbeae1f5c5297375d484e56355338b240b55b00f1e0ee34", func := "loop.example/turtlewalks/laws.FnWalkOk", spec := "fnWalkOk", inPlace := ["internal/bytealg.IndexByteString"], apart := false }
def FnWalkOkSaid : Prop := fnWalkOkRow.holds Try.pinned (OpenSpec.ofChange fnWalkOkSpec)

/-- ITS FALSE NEIGHBOUR: 'it returns false'. Refute it at one input. -/
def fnWalkOkWrong : ChangeSpec := { name := "fnWalkOk", fn := fun _ => fun
  | [d] => { results := [.lit (.bool false)], args := [d] }
  | _ => none }
def FnWalkOkWrongFalsely : Prop := fnWalkOkRow.holds Try.pinned (OpenSpec.ofChange fnWalkOkWrong)

/- THE SECOND FORM. 'bulk': how many values and letters a reading holds, each counted each time it is reached (what is shared counts as often as it is met; a slice's spare places count too). A statement '..UptoSaid' is the law's where the arguments, and the package variables that the reading takes, are together of bulk at most 1048576: NARROWER than '..Said'. Prove '..Said' where nothing that the law and all that it calls make is longer than what came in: it says more and counts as full. Else prove '..UptoSaid'. A law counts once. -/
mutual
def uptoBulk {H : Type} : DataW H → Nat
  | .lit (.string bytes) => bytes.length + 1
  | .lit _ => 1
  | .nil => 1
  | .ptr d => uptoBulk d + 1
  | .slice elems spare => uptoBulkAll elems + uptoBulkAll spare + 1
  | .agg parts => uptoBulkAll parts + 1
  | .iface _ d => uptoBulk d + 1
  | .map entries => uptoBulkEntries entries + 1
  | .held _ => 1
def uptoBulkAll {H : Type} : List (DataW H) → Nat
  | [] => 0
  | d :: r => uptoBulk d + uptoBulkAll r
def uptoBulkEntries {H : Type} : List (Lit × DataW H) → Nat
  | [] => 0
  | x :: r => uptoBulkEntry x + uptoBulkEntries r
def uptoBulkEntry {H : Type} : Lit × DataW H → Nat
  | (.string bytes, d) => bytes.length + uptoBulk d + 1
  | (_, d) => uptoBulk d + 1
 end
def uptoSmall : (H : Type) → List (DataW H) → Bool := fun _ ds => decide (uptoBulkAll ds ≤ 1048576)
def OpenSpec.upto (s : _root_.Go.ChangeSpec) : _root_.Go.OpenSpec := { _root_.Go.OpenSpec.ofChange s with cond := some uptoSmall }

/-- 'laws.FnExactWalkOk', WHERE WHAT IT READS IS OF BULK AT MOST 1048576: true; the input reads as it did. -/
def fnExactWalkOkUptoRow : OpenClaim := { program := "ytminclapchnheaa", sum := "37037af72758d27a5bbeae1f5c5297375d484e56355338b240b55b00f1e0ee34", func := "loop.example/turtlewalks/laws.FnExactWalkOk", spec := "fnExactWalkOk", inPlace := ["internal/bytealg.IndexByteString"], apart := false, narrowed := true }
def FnExactWalkOkUptoSaid : Prop := fnExactWalkOkUptoRow.holds Try.pinned (OpenSpec.upto fnExactWalkOkSpec)

/-- 'laws.FnExactBackWalk', WHERE WHAT IT READS IS OF BULK AT MOST 1048576: true; the input reads as it did. -/
def fnExactBackWalkUptoRow : OpenClaim := { program := "ytminclapchnheaa", sum := "37037af72758d27a5bbeae1f5c5297375d484e56355338b240b55b00f1e0ee34", func := "loop.example/turtlewalks/laws.FnExactBackWalk", spec := "fnExactBackWalk", inPlace := ["internal/bytealg.IndexByteString"], apart := false, narrowed := true }
def FnExactBackWalkUptoSaid : Prop := fnExactBackWalkUptoRow.holds Try.pinned (OpenSpec.upto fnExactBackWalkSpec)

/-- 'laws.FnWalkOk', WHERE WHAT IT READS IS OF BULK AT MOST 1048576: true; the input reads as it did. -/
def fnWalkOkUptoRow : OpenClaim := { program := "ytminclapchnheaa", sum := "37037af72758d27a5bbeae1f5c5297375d484e56355338b240b55b00f1e0ee34", func := "loop.example/turtlewalks/laws.FnWalkOk", spec := "fnWalkOk", inPlace := ["internal/bytealg.IndexByteString"], apart := false, narrowed := true }
def FnWalkOkUptoSaid : Prop := fnWalkOkUptoRow.holds Try.pinned (OpenSpec.upto fnWalkOkSpec)

end Rows
end Go.Proofs.Ytminclapchnheaa
