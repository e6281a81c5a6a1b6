/-
  DERIVED. GIVEN WITH THE SEED: THE CARDS: each row of YtfbkdoejgeklcaaDoorRows.lean that lists a variable, with what it lists TIED to the program's text (the seventh form; the later family's looks); each row that meets fmt, with fmt's text TOLD by the authors' own Lean function (tested against real Go, not proved from fmt's source: count such statements apart). THE CARD IS WHAT COUNTS. Prove the row's statement (the work); the ties are given (YtfbkdoejgeklcaaDoorTie.lean); close each card by the builder's one call (the guide's Derived/Test/ToyasCard.lean, 'card_holds'). Laid BY PROGRAM, IN A SANDBOX (cutbox-door.mjs). By AI agents, Wed Nov 11 2026. No macro, syntax, notation, axiom, sorry.
-/
import Derived.Test.YtfbkdoejgeklcaaDoorRows
import GoSem.ClaimSeven
namespace Go.Proofs.YtfbkdoejgeklcaaDoor
namespace Rows

/-- THE TIED CARD OF 'laws.FnExactWalkedFrom'. -/
def fnExactWalkedFromCard : Claim7 := { stood := { row := fnExactWalkedFromRow, standIns := [], harness := (true, "206d39053396ee210a86cf915cd0cac26e8ba3d13a691d3c3c426e3790f05e55"), looks := false }, kinds := [], alts := [], laidByText := true, laidKinds := [.data], laidTests := true, laidLooks := .later }
def FnExactWalkedFromCardSaid : Prop := Claim7.holds Tryd.pinned (.plain (OpenSpec.ofChange fnExactWalkedFromSpec)) fnExactWalkedFromCard

/-- THE TIED CARD OF 'laws.FnBackOf'. -/
def fnBackOfCard : Claim7 := { stood := { row := fnBackOfRow, standIns := [], harness := (true, "206d39053396ee210a86cf915cd0cac26e8ba3d13a691d3c3c426e3790f05e55"), looks := false }, kinds := [], alts := [], laidByText := true, laidKinds := [.data], laidTests := true, laidLooks := .later }
def FnBackOfCardSaid : Prop := Claim7.holds Tryd.pinned (.plain (OpenSpec.ofChange fnBackOfSpec)) fnBackOfCard

/-- THE TIED CARD OF 'laws.FnWalkedOf'. -/
def fnWalkedOfCard : Claim7 := { stood := { row := fnWalkedOfRow, standIns := [], harness := (true, "206d39053396ee210a86cf915cd0cac26e8ba3d13a691d3c3c426e3790f05e55"), looks := false }, kinds := [], alts := [], laidByText := true, laidKinds := [.data], laidTests := true, laidLooks := .later }
def FnWalkedOfCardSaid : Prop := Claim7.holds Tryd.pinned (.plain (OpenSpec.ofChange fnWalkedOfSpec)) fnWalkedOfCard

/-- THE TIED CARD OF 'laws.FnWalkedFrom'. -/
def fnWalkedFromCard : Claim7 := { stood := { row := fnWalkedFromRow, standIns := [], harness := (true, "206d39053396ee210a86cf915cd0cac26e8ba3d13a691d3c3c426e3790f05e55"), looks := false }, kinds := [], alts := [], laidByText := true, laidKinds := [.data], laidTests := true, laidLooks := .later }
def FnWalkedFromCardSaid : Prop := Claim7.holds Tryd.pinned (.plain (OpenSpec.ofChange fnWalkedFromSpec)) fnWalkedFromCard

/-- THE SECOND FORM's CARD OF 'laws.FnExactWalkedFrom'. -/
def fnExactWalkedFromUptoCard : Claim7 := { stood := { row := fnExactWalkedFromUptoRow, standIns := [], harness := (true, "206d39053396ee210a86cf915cd0cac26e8ba3d13a691d3c3c426e3790f05e55"), looks := false }, kinds := [], alts := [], laidByText := true, laidKinds := [.data], laidTests := true, laidLooks := .later }
def FnExactWalkedFromUptoCardSaid : Prop := Claim7.holds Tryd.pinned (.plain (OpenSpec.upto fnExactWalkedFromSpec)) fnExactWalkedFromUptoCard

/-- THE SECOND FORM's CARD OF 'laws.FnBackOf'. -/
def fnBackOfUptoCard : Claim7 := { stood := { row := fnBackOfUptoRow, standIns := [], harness := (true, "206d39053396ee210a86cf915cd0cac26e8ba3d13a691d3c3c426e3790f05e55"), looks := false }, kinds := [], alts := [], laidByText := true, laidKinds := [.data], laidTests := true, laidLooks := .later }
def FnBackOfUptoCardSaid : Prop := Claim7.holds Tryd.pinned (.plain (OpenSpec.upto fnBackOfSpec)) fnBackOfUptoCard

/-- THE SECOND FORM's CARD OF 'laws.FnWalkedOf'. -/
def fnWalkedOfUptoCard : Claim7 := { stood := { row := fnWalkedOfUptoRow, standIns := [], harness := (true, "206d39053396ee210a86cf915cd0cac26e8ba3d13a691d3c3c426e3790f05e55"), looks := false }, kinds := [], alts := [], laidByText := true, laidKinds := [.data], laidTests := true, laidLooks := .later }
def FnWalkedOfUptoCardSaid : Prop := Claim7.holds Tryd.pinned (.plain (OpenSpec.upto fnWalkedOfSpec)) fnWalkedOfUptoCard

/-- THE SECOND FORM's CARD OF 'laws.FnWalkedFrom'. -/
def fnWalkedFromUptoCard : Claim7 := { stood := { row := fnWalkedFromUptoRow, standIns := [], harness := (true, "206d39053396ee210a86cf915cd0cac26e8ba3d13a691d3c3c426e3790f05e55"), looks := false }, kinds := [], alts := [], laidByText := true, laidKinds := [.data], laidTests := true, laidLooks := .later }
def FnWalkedFromUptoCardSaid : Prop := Claim7.holds Tryd.pinned (.plain (OpenSpec.upto fnWalkedFromSpec)) fnWalkedFromUptoCard
end Rows
end Go.Proofs.YtfbkdoejgeklcaaDoor
