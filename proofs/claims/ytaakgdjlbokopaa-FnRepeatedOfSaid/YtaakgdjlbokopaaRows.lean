/-
  No cell of these rows narrows 'for every input' (looked for: loops, veiled, ifaces, maps, wideKeys, modest, calm, conditions, laid).
  DERIVED. THE GIVEN ROWS OF THIS SEAT. 10 by the template 'for every input the law returns true; each argument reads behind the call as it read before'; 0 by the template 'total and deterministic' (their statements: YtaakgdjlbokopaaTotals.lean).
  GIVEN WITH THE SEED: the statements are not yours to turn. If you find one false, say at which input.
  Laid BY PROGRAM, IN A SANDBOX (cutbox-rows.mjs): the forced cells as the released guide's own fill.sh prints them over the translation 2a8a2e1bd6197b9a… (all of the seat's roots in one cut). By AI agents, Wed Nov 11 2026. No macro, syntax, notation, axiom, sorry.
-/
import Derived.Test.YtaakgdjlbokopaaChecked
import GoSem.Claim
import GoSem.ClaimJoined
import GoSem.ClaimMapViews
import Derived.JoinedTies
import Derived.KernelRfl
namespace Go.Proofs.Ytaakgdjlbokopaa
/- THE CELL 'sum', in the pinned program and in every row, IS THE sha256 OF THE DUMP (.gsa) THAT YtaakgdjlbokopaaProg.lean LOADS. Nothing in Lean hashes anything: it is a label: what it is worth is what the hold of that sum in a sandbox is worth. -/
noncomputable def Try.pinned : Pinned := { name := "ytaakgdjlbokopaa", sum := "2a8a2e1bd6197b9a8032d849174c1bccd4527d58a9a60d54f0b65011aeaf1b6b", checked := Try.checked }
namespace Rows
def none {H : Type} : Left H := { results := [], args := [] }

/-- 'laws.FnRepeatedOf': WHATEVER THE INPUT: true; the input reads as it did. -/
def fnRepeatedOfSpec : ChangeSpec := { name := "fnRepeatedOf", fn := fun _ => fun
  | [d] => { results := [.lit (.bool true)], args := [d] }
  | _ => none }
def fnRepeatedOfRow : OpenClaim := { program := "ytaakgdjlbokopaa", sum := "2a8a2e1bd6197b9a8032d849174c1bccd4527d58a9a60d54f0b65011aeaf1b6b", func := "loop.example/turtlewalks/laws.FnRepeatedOf", spec := "fnRepeatedOf", inPlace := ["internal/abi.NoEscape"], unfollowed := true, recurses := true, apart := false }
def FnRepeatedOfSaid : Prop := fnRepeatedOfRow.holds Try.pinned (OpenSpec.ofChange fnRepeatedOfSpec)

/-- ITS FALSE NEIGHBOUR: 'it returns false'. Refute it at one input. -/
def fnRepeatedOfWrong : ChangeSpec := { name := "fnRepeatedOf", fn := fun _ => fun
  | [d] => { results := [.lit (.bool false)], args := [d] }
  | _ => none }
def FnRepeatedOfWrongFalsely : Prop := fnRepeatedOfRow.holds Try.pinned (OpenSpec.ofChange fnRepeatedOfWrong)

/-- 'laws.FnExactProgramOk': WHATEVER THE INPUT: true; the input reads as it did. -/
def fnExactProgramOkSpec : ChangeSpec := { name := "fnExactProgramOk", fn := fun _ => fun
  | [d] => { results := [.lit (.bool true)], args := [d] }
  | _ => none }
def fnExactProgramOkRow : OpenClaim := { program := "ytaakgdjlbokopaa", sum := "2a8a2e1bd6197b9a8032d849174c1bccd4527d58a9a60d54f0b65011aeaf1b6b", func := "loop.example/turtlewalks/laws.FnExactProgramOk", spec := "fnExactProgramOk", recurses := true, apart := false }
def FnExactProgramOkSaid : Prop := fnExactProgramOkRow.holds Try.pinned (OpenSpec.ofChange fnExactProgramOkSpec)

/-- ITS FALSE NEIGHBOUR: 'it returns false'. Refute it at one input. -/
def fnExactProgramOkWrong : ChangeSpec := { name := "fnExactProgramOk", fn := fun _ => fun
  | [d] => { results := [.lit (.bool false)], args := [d] }
  | _ => none }
def FnExactProgramOkWrongFalsely : Prop := fnExactProgramOkRow.holds Try.pinned (OpenSpec.ofChange fnExactProgramOkWrong)

/-- 'laws.FnWordFor': WHATEVER THE INPUT: true; the input reads as it did. -/
def fnWordForSpec : ChangeSpec := { name := "fnWordFor", fn := fun _ => fun
  | [d] => { results := [.lit (.bool true)], args := [d] }
  | _ => none }
def fnWordForRow : OpenClaim := { program := "ytaakgdjlbokopaa", sum := "2a8a2e1bd6197b9a8032d849174c1bccd4527d58a9a60d54f0b65011aeaf1b6b", func := "loop.example/turtlewalks/laws.FnWordFor", spec := "fnWordFor", inPlace := ["internal/abi.NoEscape"], unfollowed := true, recurses := true, apart := false }
def FnWordForSaid : Prop := fnWordForRow.holds Try.pinned (OpenSpec.ofChange fnWordForSpec)

/-- ITS FALSE NEIGHBOUR: 'it returns false'. Refute it at one input. -/
def fnWordForWrong : ChangeSpec := { name := "fnWordFor", fn := fun _ => fun
  | [d] => { results := [.lit (.bool false)], args := [d] }
  | _ => none }
def FnWordForWrongFalsely : Prop := fnWordForRow.holds Try.pinned (OpenSpec.ofChange fnWordForWrong)

/-- 'laws.FnExactDeepOf': WHATEVER THE INPUT: true; the input reads as it did. -/
def fnExactDeepOfSpec : ChangeSpec := { name := "fnExactDeepOf", fn := fun _ => fun
  | [d] => { results := [.lit (.bool true)], args := [d] }
  | _ => none }
def fnExactDeepOfRow : OpenClaim := { program := "ytaakgdjlbokopaa", sum := "2a8a2e1bd6197b9a8032d849174c1bccd4527d58a9a60d54f0b65011aeaf1b6b", func := "loop.example/turtlewalks/laws.FnExactDeepOf", spec := "fnExactDeepOf", unfollowed := true, recurses := true, apart := false }
def FnExactDeepOfSaid : Prop := fnExactDeepOfRow.holds Try.pinned (OpenSpec.ofChange fnExactDeepOfSpec)

/-- ITS FALSE NEIGHBOUR: 'it returns false'. Refute it at one input. -/
def fnExactDeepOfWrong : ChangeSpec := { name := "fnExactDeepOf", fn := fun _ => fun
  | [d] => { results := [.lit (.bool false)], args := [d] }
  | _ => none }
def FnExactDeepOfWrongFalsely : Prop := fnExactDeepOfRow.holds Try.pinned (OpenSpec.ofChange fnExactDeepOfWrong)

/-- 'laws.FnExactRepeatedOf': WHATEVER THE INPUT: true; the input reads as it did. -/
def fnExactRepeatedOfSpec : ChangeSpec := { name := "fnExactRepeatedOf", fn := fun _ => fun
  | [d1, d2] => { results := [.lit (.bool true)], args := [d1, d2] }
  | _ => none }
def fnExactRepeatedOfRow : OpenClaim := { program := "ytaakgdjlbokopaa", sum := "2a8a2e1bd6197b9a8032d849174c1bccd4527d58a9a60d54f0b65011aeaf1b6b", func := "loop.example/turtlewalks/laws.FnExactRepeatedOf", spec := "fnExactRepeatedOf", recurses := true, apart := false }
def FnExactRepeatedOfSaid : Prop := fnExactRepeatedOfRow.holds Try.pinned (OpenSpec.ofChange fnExactRepeatedOfSpec)

/-- ITS FALSE NEIGHBOUR: 'it returns false'. Refute it at one input. -/
def fnExactRepeatedOfWrong : ChangeSpec := { name := "fnExactRepeatedOf", fn := fun _ => fun
  | [d1, d2] => { results := [.lit (.bool false)], args := [d1, d2] }
  | _ => none }
def FnExactRepeatedOfWrongFalsely : Prop := fnExactRepeatedOfRow.holds Try.pinned (OpenSpec.ofChange fnExactRepeatedOfWrong)

/-- 'laws.FnLongOf': WHATEVER THE INPUT: true; the input reads as it did. -/
def fnLongOfSpec : ChangeSpec := { name := "fnLongOf", fn := fun _ => fun
  | [d] => { results := [.lit (.bool true)], args := [d] }
  | _ => none }
def fnLongOfRow : OpenClaim := { program := "ytaakgdjlbokopaa", sum := "2a8a2e1bd6197b9a8032d849174c1bccd4527d58a9a60d54f0b65011aeaf1b6b", func := "loop.example/turtlewalks/laws.FnLongOf", spec := "fnLongOf", inPlace := ["internal/abi.NoEscape"], unfollowed := true, recurses := true, apart := false }
def FnLongOfSaid : Prop := fnLongOfRow.holds Try.pinned (OpenSpec.ofChange fnLongOfSpec)

/-- ITS FALSE NEIGHBOUR: 'it returns false'. Refute it at one input. -/
def fnLongOfWrong : ChangeSpec := { name := "fnLongOf", fn := fun _ => fun
  | [d] => { results := [.lit (.bool false)], args := [d] }
  | _ => none }
def FnLongOfWrongFalsely : Prop := fnLongOfRow.holds Try.pinned (OpenSpec.ofChange fnLongOfWrong)

/-- 'laws.FnExactLongOf': WHATEVER THE INPUT: true; the input reads as it did. -/
def fnExactLongOfSpec : ChangeSpec := { name := "fnExactLongOf", fn := fun _ => fun
  | [d] => { results := [.lit (.bool true)], args := [d] }
  | _ => none }
def fnExactLongOfRow : OpenClaim := { program := "ytaakgdjlbokopaa", sum := "2a8a2e1bd6197b9a8032d849174c1bccd4527d58a9a60d54f0b65011aeaf1b6b", func := "loop.example/turtlewalks/laws.FnExactLongOf", spec := "fnExactLongOf", unfollowed := true, recurses := true, apart := false }
def FnExactLongOfSaid : Prop := fnExactLongOfRow.holds Try.pinned (OpenSpec.ofChange fnExactLongOfSpec)

/-- ITS FALSE NEIGHBOUR: 'it returns false'. Refute it at one input. -/
def fnExactLongOfWrong : ChangeSpec := { name := "fnExactLongOf", fn := fun _ => fun
  | [d] => { results := [.lit (.bool false)], args := [d] }
  | _ => none }
def FnExactLongOfWrongFalsely : Prop := fnExactLongOfRow.holds Try.pinned (OpenSpec.ofChange fnExactLongOfWrong)

/-- 'laws.FnProgramOk': WHATEVER THE INPUT: true; the input reads as it did. -/
def fnProgramOkSpec : ChangeSpec := { name := "fnProgramOk", fn := fun _ => fun
  | [d1, d2] => { results := [.lit (.bool true)], args := [d1, d2] }
  | _ => none }
def fnProgramOkRow : OpenClaim := { program := "ytaakgdjlbokopaa", sum := "2a8a2e1bd6197b9a8032d849174c1bccd4527d58a9a60d54f0b65011aeaf1b6b", func := "loop.example/turtlewalks/laws.FnProgramOk", spec := "fnProgramOk", recurses := true, apart := false }
def FnProgramOkSaid : Prop := fnProgramOkRow.holds Try.pinned (OpenSpec.ofChange fnProgramOkSpec)

/-- ITS FALSE NEIGHBOUR: 'it returns false'. Refute it at one input. -/
def fnProgramOkWrong : ChangeSpec := { name := "fnProgramOk", fn := fun _ => fun
  | [d1, d2] => { results := [.lit (.bool false)], args := [d1, d2] }
  | _ => none }
def FnProgramOkWrongFalsely : Prop := fnProgramOkRow.holds Try.pinned (OpenSpec.ofChange fnProgramOkWrong)

/-- 'laws.FnDeepOf': WHATEVER THE INPUT: true; the input reads as it did. -/
def fnDeepOfSpec : ChangeSpec := { name := "fnDeepOf", fn := fun _ => fun
  | [d] => { results := [.lit (.bool true)], args := [d] }
  | _ => none }
def fnDeepOfRow : OpenClaim := { program := "ytaakgdjlbokopaa", sum := "2a8a2e1bd6197b9a8032d849174c1bccd4527d58a9a60d54f0b65011aeaf1b6b", func := "loop.example/turtlewalks/laws.FnDeepOf", spec := "fnDeepOf", unfollowed := true, recurses := true, apart := false }
def FnDeepOfSaid : Prop := fnDeepOfRow.holds Try.pinned (OpenSpec.ofChange fnDeepOfSpec)

/-- ITS FALSE NEIGHBOUR: 'it returns false'. Refute it at one input. -/
def fnDeepOfWrong : ChangeSpec := { name := "fnDeepOf", fn := fun _ => fun
  | [d] => { results := [.lit (.bool false)], args := [d] }
  | _ => none }
def FnDeepOfWrongFalsely : Prop := fnDeepOfRow.holds Try.pinned (OpenSpec.ofChange fnDeepOfWrong)

/-- 'laws.FnExactWordFor': WHATEVER THE INPUT: true; the input reads as it did. -/
def fnExactWordForSpec : ChangeSpec := { name := "fnExactWordFor", fn := fun _ => fun
  | [d] => { results := [.lit (.bool true)], args := [d] }
  | _ => none }
def fnExactWordForRow : OpenClaim := { program := "ytaakgdjlbokopaa", sum := "2a8a2e1bd6197b9a8032d849174c1bccd4527d58a9a60d54f0b65011aeaf1b6b", func := "loop.example/turtlewalks/laws.FnExactWordFor", spec := "fnExactWordFor", inPlace := ["internal/abi.NoEscape"], unfollowed := true, recurses := true, apart := false }
def FnExactWordForSaid : Prop := fnExactWordForRow.holds Try.pinned (OpenSpec.ofChange fnExactWordForSpec)

/-- ITS FALSE NEIGHBOUR: 'it returns false'. Refute it at one input. -/
def fnExactWordForWrong : ChangeSpec := { name := "fnExactWordFor", fn := fun _ => fun
  | [d] => { results := [.lit (.bool false)], args := [d] }
  | _ => none }
def FnExactWordForWrongFalsely : Prop := fnExactWordForRow.holds Try.pinned (OpenSpec.ofChange fnExactWordForWrong)

/- THE SECOND FORM. 'bulk': how many values and letters a reading holds, each counted each time it is reached (what is shared counts as often as it is met; a slice's spare places count too). A statement '..UptoSaid' is the law's where the arguments, and the package variables that the reading takes, are together of bulk at most 1048576: NARROWER than '..Said'. Prove '..Said' where nothing that the law and all that it calls make is longer than what came in: it says more and counts as full. Else prove '..UptoSaid'. A law counts once. -/
mutual
def uptoBulk {H : Type} : DataW H → Nat
  | .lit (.string bytes) => bytes.length + 1
  | .lit _ => 1
  | .nil => 1
  | .ptr d => uptoBulk d + 1
  | .slice elems spare => uptoBulkAll elems + uptoBulkAll spare + 1
  | .agg parts => uptoBulkAll parts + 1
  | .iface _ d => uptoBulk d + 1
  | .map entries => uptoBulkEntries entries + 1
  | .held _ => 1
def uptoBulkAll {H : Type} : List (DataW H) → Nat
  | [] => 0
  | d :: r => uptoBulk d + uptoBulkAll r
def uptoBulkEntries {H : Type} : List (Lit × DataW H) → Nat
  | [] => 0
  | x :: r => uptoBulkEntry x + uptoBulkEntries r
def uptoBulkEntry {H : Type} : Lit × DataW H → Nat
  | (.string bytes, d) => bytes.length + uptoBulk d + 1
  | (_, d) => uptoBulk d + 1
 end
def uptoSmall : (H : Type) → List (DataW H) → Bool := fun _ ds => decide (uptoBulkAll ds ≤ 1048576)
def OpenSpec.upto (s : _root_.Go.ChangeSpec) : _root_.Go.OpenSpec := { _root_.Go.OpenSpec.ofChange s with cond := some uptoSmall }

/-- 'laws.FnRepeatedOf', WHERE WHAT IT READS IS OF BULK AT MOST 1048576: true; the input reads as it did. -/
def fnRepeatedOfUptoRow : OpenClaim := { program := "ytaakgdjlbokopaa", sum := "2a8a2e1bd6197b9a8032d849174c1bccd4527d58a9a60d54f0b65011aeaf1b6b", func := "loop.example/turtlewalks/laws.FnRepeatedOf", spec := "fnRepeatedOf", inPlace := ["internal/abi.NoEscape"], unfollowed := true, recurses := true, apart := false, narrowed := true }
def FnRepeatedOfUptoSaid : Prop := fnRepeatedOfUptoRow.holds Try.pinned (OpenSpec.upto fnRepeatedOfSpec)

/-- 'laws.FnExactProgramOk', WHERE WHAT IT READS IS OF BULK AT MOST 1048576: true; the input reads as it did. -/
def fnExactProgramOkUptoRow : OpenClaim := { program := "ytaakgdjlbokopaa", sum := "2a8a2e1bd6197b9a8032d849174c1bccd4527d58a9a60d54f0b65011aeaf1b6b", func := "loop.example/turtlewalks/laws.FnExactProgramOk", spec := "fnExactProgramOk", recurses := true, apart := false, narrowed := true }
def FnExactProgramOkUptoSaid : Prop := fnExactProgramOkUptoRow.holds Try.pinned (OpenSpec.upto fnExactProgramOkSpec)

/-- 'laws.FnWordFor', WHERE WHAT IT READS IS OF BULK AT MOST 1048576: true; the input reads as it did. -/
def fnWordForUptoRow : OpenClaim := { program := "ytaakgdjlbokopaa", sum := "2a8a2e1bd6197b9a8032d849174c1bccd4527d58a9a60d54f0b65011aeaf1b6b", func := "loop.example/turtlewalks/laws.FnWordFor", spec := "fnWordFor", inPlace := ["internal/abi.NoEscape"], unfollowed := true, recurses := true, apart := false, narrowed := true }
def FnWordForUptoSaid : Prop := fnWordForUptoRow.holds Try.pinned (OpenSpec.upto fnWordForSpec)

/-- 'laws.FnExactDeepOf', WHERE WHAT IT READS IS OF BULK AT MOST 1048576: true; the input reads as it did. -/
def fnExactDeepOfUptoRow : OpenClaim := { program := "ytaakgdjlbokopaa", sum := "2a8a2e1bd6197b9a8032d849174c1bccd4527d58a9a60d54f0b65011aeaf1b6b", func := "loop.example/turtlewalks/laws.FnExactDeepOf", spec := "fnExactDeepOf", unfollowed := true, recurses := true, apart := false, narrowed := true }
def FnExactDeepOfUptoSaid : Prop := fnExactDeepOfUptoRow.holds Try.pinned (OpenSpec.upto fnExactDeepOfSpec)

/-- 'laws.FnExactRepeatedOf', WHERE WHAT IT READS IS OF BULK AT MOST 1048576: true; the input reads as it did. -/
def fnExactRepeatedOfUptoRow : OpenClaim := { program := "ytaakgdjlbokopaa", sum := "2a8a2e1bd6197b9a8032d849174c1bccd4527d58a9a60d54f0b65011aeaf1b6b", func := "loop.example/turtlewalks/laws.FnExactRepeatedOf", spec := "fnExactRepeatedOf", recurses := true, apart := false, narrowed := true }
def FnExactRepeatedOfUptoSaid : Prop := fnExactRepeatedOfUptoRow.holds Try.pinned (OpenSpec.upto fnExactRepeatedOfSpec)

/-- 'laws.FnLongOf', WHERE WHAT IT READS IS OF BULK AT MOST 1048576: true; the input reads as it did. -/
def fnLongOfUptoRow : OpenClaim := { program := "ytaakgdjlbokopaa", sum := "2a8a2e1bd6197b9a8032d849174c1bccd4527d58a9a60d54f0b65011aeaf1b6b", func := "loop.example/turtlewalks/laws.FnLongOf", spec := "fnLongOf", inPlace := ["internal/abi.NoEscape"], unfollowed := true, recurses := true, apart := false, narrowed := true }
def FnLongOfUptoSaid : Prop := fnLongOfUptoRow.holds Try.pinned (OpenSpec.upto fnLongOfSpec)

/-- 'laws.FnExactLongOf', WHERE WHAT IT READS IS OF BULK AT MOST 1048576: true; the input reads as it did. -/
def fnExactLongOfUptoRow : OpenClaim := { program := "ytaakgdjlbokopaa", sum := "2a8a2e1bd6197b9a8032d849174c1bccd4527d58a9a60d54f0b65011aeaf1b6b", func := "loop.example/turtlewalks/laws.FnExactLongOf", spec := "fnExactLongOf", unfollowed := true, recurses := true, apart := false, narrowed := true }
def FnExactLongOfUptoSaid : Prop := fnExactLongOfUptoRow.holds Try.pinned (OpenSpec.upto fnExactLongOfSpec)

/-- 'laws.FnProgramOk', WHERE WHAT IT READS IS OF BULK AT MOST 1048576: true; the input reads as it did. -/
def fnProgramOkUptoRow : OpenClaim := { program := "ytaakgdjlbokopaa", sum := "2a8a2e1bd6197b9a8032d849174c1bccd4527d58a9a60d54f0b65011aeaf1b6b", func := "loop.example/turtlewalks/laws.FnProgramOk", spec := "fnProgramOk", recurses := true, apart := false, narrowed := true }
def FnProgramOkUptoSaid : Prop := fnProgramOkUptoRow.holds Try.pinned (OpenSpec.upto fnProgramOkSpec)

/-- 'laws.FnDeepOf', WHERE WHAT IT READS IS OF BULK AT MOST 1048576: true; the input reads as it did. -/
def fnDeepOfUptoRow : OpenClaim := { program := "ytaakgdjlbokopaa", sum := "2a8a2e1bd6197b9a8032d849174c1bccd4527d58a9a60d54f0b65011aeaf1b6b", func := "loop.example/turtlewalks/laws.FnDeepOf", spec := "fnDeepOf", unfollowed := true, recurses := true, apart := false, narrowed := true }
def FnDeepOfUptoSaid : Prop := fnDeepOfUptoRow.holds Try.pinned (OpenSpec.upto fnDeepOfSpec)

/-- 'laws.FnExactWordFor', WHERE WHAT IT READS IS OF BULK AT MOST 1048576: true; the input reads as it did. -/
def fnExactWordForUptoRow : OpenClaim := { program := "ytaakgdjlbokopaa", sum := "2a8a2e1bd6197b9a8032d849174c1bccd4527d58a9a60d54f0b65011aeaf1b6b", func := "loop.example/turtlewalks/laws.FnExactWordFor", spec := "fnExactWordFor", inPlace := ["internal/abi.NoEscape"], unfollowed := true, recurses := true, apart := false, narrowed := true }
def FnExactWordForUptoSaid : Prop := fnExactWordForUptoRow.holds Try.pinned (OpenSpec.upto fnExactWordForSpec)

end Rows
end Go.Proofs.Ytaakgdjlbokopaa
