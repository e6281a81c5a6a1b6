/-
  DERIVED. GIVEN WITH THE SEED: THE CARDS: each row of YtminclapchnheaaDoorRows.lean that lists a variable, with what it lists TIED to the program's text (the seventh form; the later family's looks); each row that meets fmt, with fmt's text TOLD by the authors' own Lean function (tested against real Go, not proved from fmt's source: count such statements apart). THE CARD IS WHAT COUNTS. Prove the row's statement (the work); the ties are given (YtminclapchnheaaDoorTie.lean); close each card by the builder's one call (the guide's Derived/Test/ToyasCard.lean, 'card_holds'). Laid BY PROGRAM, IN A SANDBOX (cutbox-door.mjs). By AI agents, Wed Nov 11 2026. No macro, syntax, notation, axiom, sorry.
-/
import Derived.Test.YtminclapchnheaaDoorRows
import GoSem.ClaimSeven
namespace Go.Proofs.YtminclapchnheaaDoor
namespace Rows

/-- THE TIED CARD OF 'laws.FnExactClosedOk'. -/
def fnExactClosedOkCard : Claim7 := { stood := { row := fnExactClosedOkRow, standIns := [], harness := (true, "fb71f1d9aefe26ab87434790e7c96d8036e4fdc67faa6332f8e6c256ea5b980d"), looks := false }, kinds := [], alts := [], laidByText := true, laidKinds := [.data], laidTests := true, laidLooks := .later }
def FnExactClosedOkCardSaid : Prop := Claim7.holds Tryd.pinned (.plain (OpenSpec.ofChange fnExactClosedOkSpec)) fnExactClosedOkCard

/-- THE TIED CARD OF 'laws.FnExactMovedOn'. -/
def fnExactMovedOnCard : Claim7 := { stood := { row := fnExactMovedOnRow, standIns := [], harness := (true, "fb71f1d9aefe26ab87434790e7c96d8036e4fdc67faa6332f8e6c256ea5b980d"), looks := false }, kinds := [], alts := [], laidByText := true, laidKinds := [.data], laidTests := true, laidLooks := .later }
def FnExactMovedOnCardSaid : Prop := Claim7.holds Tryd.pinned (.plain (OpenSpec.ofChange fnExactMovedOnSpec)) fnExactMovedOnCard

/-- THE TIED CARD OF 'laws.FnExactSimpleOk'. -/
def fnExactSimpleOkCard : Claim7 := { stood := { row := fnExactSimpleOkRow, standIns := [], harness := (true, "fb71f1d9aefe26ab87434790e7c96d8036e4fdc67faa6332f8e6c256ea5b980d"), looks := false }, kinds := [], alts := [], laidByText := true, laidKinds := [.data], laidTests := true, laidLooks := .later }
def FnExactSimpleOkCardSaid : Prop := Claim7.holds Tryd.pinned (.plain (OpenSpec.ofChange fnExactSimpleOkSpec)) fnExactSimpleOkCard

/-- THE TIED CARD OF 'laws.FnExactTurningOf'. -/
def fnExactTurningOfCard : Claim7 := { stood := { row := fnExactTurningOfRow, standIns := [], harness := (true, "fb71f1d9aefe26ab87434790e7c96d8036e4fdc67faa6332f8e6c256ea5b980d"), looks := false }, kinds := [], alts := [], laidByText := true, laidKinds := [.data], laidTests := true, laidLooks := .later }
def FnExactTurningOfCardSaid : Prop := Claim7.holds Tryd.pinned (.plain (OpenSpec.ofChange fnExactTurningOfSpec)) fnExactTurningOfCard

/-- THE TIED CARD OF 'laws.FnExactPlacesOf'. -/
def fnExactPlacesOfCard : Claim7 := { stood := { row := fnExactPlacesOfRow, standIns := [], harness := (true, "fb71f1d9aefe26ab87434790e7c96d8036e4fdc67faa6332f8e6c256ea5b980d"), looks := false }, kinds := [], alts := [], laidByText := true, laidKinds := [.data], laidTests := true, laidLooks := .later }
def FnExactPlacesOfCardSaid : Prop := Claim7.holds Tryd.pinned (.plain (OpenSpec.ofChange fnExactPlacesOfSpec)) fnExactPlacesOfCard

/-- THE TIED CARD OF 'laws.FnClosedOk'. -/
def fnClosedOkCard : Claim7 := { stood := { row := fnClosedOkRow, standIns := [], harness := (true, "fb71f1d9aefe26ab87434790e7c96d8036e4fdc67faa6332f8e6c256ea5b980d"), looks := false }, kinds := [], alts := [], laidByText := true, laidKinds := [.data], laidTests := true, laidLooks := .later }
def FnClosedOkCardSaid : Prop := Claim7.holds Tryd.pinned (.plain (OpenSpec.ofChange fnClosedOkSpec)) fnClosedOkCard

/-- THE TIED CARD OF 'laws.FnMovedOn'. -/
def fnMovedOnCard : Claim7 := { stood := { row := fnMovedOnRow, standIns := [], harness := (true, "fb71f1d9aefe26ab87434790e7c96d8036e4fdc67faa6332f8e6c256ea5b980d"), looks := false }, kinds := [], alts := [], laidByText := true, laidKinds := [.data], laidTests := true, laidLooks := .later }
def FnMovedOnCardSaid : Prop := Claim7.holds Tryd.pinned (.plain (OpenSpec.ofChange fnMovedOnSpec)) fnMovedOnCard

/-- THE TIED CARD OF 'laws.FnPlacesOf'. -/
def fnPlacesOfCard : Claim7 := { stood := { row := fnPlacesOfRow, standIns := [], harness := (true, "fb71f1d9aefe26ab87434790e7c96d8036e4fdc67faa6332f8e6c256ea5b980d"), looks := false }, kinds := [], alts := [], laidByText := true, laidKinds := [.data], laidTests := true, laidLooks := .later }
def FnPlacesOfCardSaid : Prop := Claim7.holds Tryd.pinned (.plain (OpenSpec.ofChange fnPlacesOfSpec)) fnPlacesOfCard

/-- THE TIED CARD OF 'laws.FnSimpleOk'. -/
def fnSimpleOkCard : Claim7 := { stood := { row := fnSimpleOkRow, standIns := [], harness := (true, "fb71f1d9aefe26ab87434790e7c96d8036e4fdc67faa6332f8e6c256ea5b980d"), looks := false }, kinds := [], alts := [], laidByText := true, laidKinds := [.data], laidTests := true, laidLooks := .later }
def FnSimpleOkCardSaid : Prop := Claim7.holds Tryd.pinned (.plain (OpenSpec.ofChange fnSimpleOkSpec)) fnSimpleOkCard

/-- THE SECOND FORM's CARD OF 'laws.FnExactClosedOk'. -/
def fnExactClosedOkUptoCard : Claim7 := { stood := { row := fnExactClosedOkUptoRow, standIns := [], harness := (true, "fb71f1d9aefe26ab87434790e7c96d8036e4fdc67faa6332f8e6c256ea5b980d"), looks := false }, kinds := [], alts := [], laidByText := true, laidKinds := [.data], laidTests := true, laidLooks := .later }
def FnExactClosedOkUptoCardSaid : Prop := Claim7.holds Tryd.pinned (.plain (OpenSpec.upto fnExactClosedOkSpec)) fnExactClosedOkUptoCard

/-- THE SECOND FORM's CARD OF 'laws.FnExactMovedOn'. -/
def fnExactMovedOnUptoCard : Claim7 := { stood := { row := fnExactMovedOnUptoRow, standIns := [], harness := (true, "fb71f1d9aefe26ab87434790e7c96d8036e4fdc67faa6332f8e6c256ea5b980d"), looks := false }, kinds := [], alts := [], laidByText := true, laidKinds := [.data], laidTests := true, laidLooks := .later }
def FnExactMovedOnUptoCardSaid : Prop := Claim7.holds Tryd.pinned (.plain (OpenSpec.upto fnExactMovedOnSpec)) fnExactMovedOnUptoCard

/-- THE SECOND FORM's CARD OF 'laws.FnExactSimpleOk'. -/
def fnExactSimpleOkUptoCard : Claim7 := { stood := { row := fnExactSimpleOkUptoRow, standIns := [], harness := (true, "fb71f1d9aefe26ab87434790e7c96d8036e4fdc67faa6332f8e6c256ea5b980d"), looks := false }, kinds := [], alts := [], laidByText := true, laidKinds := [.data], laidTests := true, laidLooks := .later }
def FnExactSimpleOkUptoCardSaid : Prop := Claim7.holds Tryd.pinned (.plain (OpenSpec.upto fnExactSimpleOkSpec)) fnExactSimpleOkUptoCard

/-- THE SECOND FORM's CARD OF 'laws.FnExactTurningOf'. -/
def fnExactTurningOfUptoCard : Claim7 := { stood := { row := fnExactTurningOfUptoRow, standIns := [], harness := (true, "fb71f1d9aefe26ab87434790e7c96d8036e4fdc67faa6332f8e6c256ea5b980d"), looks := false }, kinds := [], alts := [], laidByText := true, laidKinds := [.data], laidTests := true, laidLooks := .later }
def FnExactTurningOfUptoCardSaid : Prop := Claim7.holds Tryd.pinned (.plain (OpenSpec.upto fnExactTurningOfSpec)) fnExactTurningOfUptoCard

/-- THE SECOND FORM's CARD OF 'laws.FnExactPlacesOf'. -/
def fnExactPlacesOfUptoCard : Claim7 := { stood := { row := fnExactPlacesOfUptoRow, standIns := [], harness := (true, "fb71f1d9aefe26ab87434790e7c96d8036e4fdc67faa6332f8e6c256ea5b980d"), looks := false }, kinds := [], alts := [], laidByText := true, laidKinds := [.data], laidTests := true, laidLooks := .later }
def FnExactPlacesOfUptoCardSaid : Prop := Claim7.holds Tryd.pinned (.plain (OpenSpec.upto fnExactPlacesOfSpec)) fnExactPlacesOfUptoCard

/-- THE SECOND FORM's CARD OF 'laws.FnClosedOk'. -/
def fnClosedOkUptoCard : Claim7 := { stood := { row := fnClosedOkUptoRow, standIns := [], harness := (true, "fb71f1d9aefe26ab87434790e7c96d8036e4fdc67faa6332f8e6c256ea5b980d"), looks := false }, kinds := [], alts := [], laidByText := true, laidKinds := [.data], laidTests := true, laidLooks := .later }
def FnClosedOkUptoCardSaid : Prop := Claim7.holds Tryd.pinned (.plain (OpenSpec.upto fnClosedOkSpec)) fnClosedOkUptoCard

/-- THE SECOND FORM's CARD OF 'laws.FnMovedOn'. -/
def fnMovedOnUptoCard : Claim7 := { stood := { row := fnMovedOnUptoRow, standIns := [], harness := (true, "fb71f1d9aefe26ab87434790e7c96d8036e4fdc67faa6332f8e6c256ea5b980d"), looks := false }, kinds := [], alts := [], laidByText := true, laidKinds := [.data], laidTests := true, laidLooks := .later }
def FnMovedOnUptoCardSaid : Prop := Claim7.holds Tryd.pinned (.plain (OpenSpec.upto fnMovedOnSpec)) fnMovedOnUptoCard

/-- THE SECOND FORM's CARD OF 'laws.FnPlacesOf'. -/
def fnPlacesOfUptoCard : Claim7 := { stood := { row := fnPlacesOfUptoRow, standIns := [], harness := (true, "fb71f1d9aefe26ab87434790e7c96d8036e4fdc67faa6332f8e6c256ea5b980d"), looks := false }, kinds := [], alts := [], laidByText := true, laidKinds := [.data], laidTests := true, laidLooks := .later }
def FnPlacesOfUptoCardSaid : Prop := Claim7.holds Tryd.pinned (.plain (OpenSpec.upto fnPlacesOfSpec)) fnPlacesOfUptoCard

/-- THE SECOND FORM's CARD OF 'laws.FnSimpleOk'. -/
def fnSimpleOkUptoCard : Claim7 := { stood := { row := fnSimpleOkUptoRow, standIns := [], harness := (true, "fb71f1d9aefe26ab87434790e7c96d8036e4fdc67faa6332f8e6c256ea5b980d"), looks := false }, kinds := [], alts := [], laidByText := true, laidKinds := [.data], laidTests := true, laidLooks := .later }
def FnSimpleOkUptoCardSaid : Prop := Claim7.holds Tryd.pinned (.plain (OpenSpec.upto fnSimpleOkSpec)) fnSimpleOkUptoCard
end Rows
end Go.Proofs.YtminclapchnheaaDoor
