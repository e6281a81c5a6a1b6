/-
  DERIVED. GIVEN WITH THE SEED: THE CARDS: each row of YtdkhibkebakepaaDoorRows.lean that lists a variable, with what it lists TIED to the program's text (the seventh form; the later family's looks); each row that meets fmt, with fmt's text TOLD by the authors' own Lean function (tested against real Go, not proved from fmt's source: count such statements apart). THE CARD IS WHAT COUNTS. Prove the row's statement (the work); the ties are given (YtdkhibkebakepaaDoorTie.lean); close each card by the builder's one call (the guide's Derived/Test/ToyasCard.lean, 'card_holds'). Laid BY PROGRAM, IN A SANDBOX (cutbox-door.mjs). By AI agents, Wed Nov 11 2026. No macro, syntax, notation, axiom, sorry.
-/
import Derived.Test.YtdkhibkebakepaaDoorRows
import GoSem.ClaimSeven
namespace Go.Proofs.YtdkhibkebakepaaDoor
namespace Rows

/-- THE TIED CARD OF 'laws.FnExactWalkedOf'. -/
def fnExactWalkedOfCard : Claim7 := { stood := { row := fnExactWalkedOfRow, standIns := [], harness := (true, "bfef89633d4a36a1680596f8c2b4c2adf1fca3064640c969ea47aefadede6bc2"), looks := false }, kinds := [], alts := [], laidByText := true, laidKinds := [.data], laidTests := true, laidLooks := .later }
def FnExactWalkedOfCardSaid : Prop := Claim7.holds Tryd.pinned (.plain (OpenSpec.ofChange fnExactWalkedOfSpec)) fnExactWalkedOfCard

/-- THE TIED CARD OF 'laws.FnExactRoundsOf'. -/
def fnExactRoundsOfCard : Claim7 := { stood := { row := fnExactRoundsOfRow, standIns := [], harness := (true, "bfef89633d4a36a1680596f8c2b4c2adf1fca3064640c969ea47aefadede6bc2"), looks := false }, kinds := [], alts := [], laidByText := true, laidKinds := [.data], laidTests := true, laidLooks := .later }
def FnExactRoundsOfCardSaid : Prop := Claim7.holds Tryd.pinned (.plain (OpenSpec.ofChange fnExactRoundsOfSpec)) fnExactRoundsOfCard

/-- THE TIED CARD OF 'laws.FnExactDriftOf'. -/
def fnExactDriftOfCard : Claim7 := { stood := { row := fnExactDriftOfRow, standIns := [], harness := (true, "bfef89633d4a36a1680596f8c2b4c2adf1fca3064640c969ea47aefadede6bc2"), looks := false }, kinds := [], alts := [], laidByText := true, laidKinds := [.data], laidTests := true, laidLooks := .later }
def FnExactDriftOfCardSaid : Prop := Claim7.holds Tryd.pinned (.plain (OpenSpec.ofChange fnExactDriftOfSpec)) fnExactDriftOfCard

/-- THE TIED CARD OF 'laws.FnExactAfterTimes'. -/
def fnExactAfterTimesCard : Claim7 := { stood := { row := fnExactAfterTimesRow, standIns := [], harness := (true, "bfef89633d4a36a1680596f8c2b4c2adf1fca3064640c969ea47aefadede6bc2"), looks := false }, kinds := [], alts := [], laidByText := true, laidKinds := [.data], laidTests := true, laidLooks := .later }
def FnExactAfterTimesCardSaid : Prop := Claim7.holds Tryd.pinned (.plain (OpenSpec.ofChange fnExactAfterTimesSpec)) fnExactAfterTimesCard

/-- THE TIED CARD OF 'laws.FnExactFarthestOf'. -/
def fnExactFarthestOfCard : Claim7 := { stood := { row := fnExactFarthestOfRow, standIns := [], harness := (true, "bfef89633d4a36a1680596f8c2b4c2adf1fca3064640c969ea47aefadede6bc2"), looks := false }, kinds := [], alts := [], laidByText := true, laidKinds := [.data], laidTests := true, laidLooks := .later }
def FnExactFarthestOfCardSaid : Prop := Claim7.holds Tryd.pinned (.plain (OpenSpec.ofChange fnExactFarthestOfSpec)) fnExactFarthestOfCard

/-- THE TIED CARD OF 'laws.FnAfterTimes'. -/
def fnAfterTimesCard : Claim7 := { stood := { row := fnAfterTimesRow, standIns := [], harness := (true, "bfef89633d4a36a1680596f8c2b4c2adf1fca3064640c969ea47aefadede6bc2"), looks := false }, kinds := [], alts := [], laidByText := true, laidKinds := [.data], laidTests := true, laidLooks := .later }
def FnAfterTimesCardSaid : Prop := Claim7.holds Tryd.pinned (.plain (OpenSpec.ofChange fnAfterTimesSpec)) fnAfterTimesCard

/-- THE TIED CARD OF 'laws.FnFarthestOf'. -/
def fnFarthestOfCard : Claim7 := { stood := { row := fnFarthestOfRow, standIns := [], harness := (true, "bfef89633d4a36a1680596f8c2b4c2adf1fca3064640c969ea47aefadede6bc2"), looks := false }, kinds := [], alts := [], laidByText := true, laidKinds := [.data], laidTests := true, laidLooks := .later }
def FnFarthestOfCardSaid : Prop := Claim7.holds Tryd.pinned (.plain (OpenSpec.ofChange fnFarthestOfSpec)) fnFarthestOfCard

/-- THE TIED CARD OF 'laws.FnRoundsOf'. -/
def fnRoundsOfCard : Claim7 := { stood := { row := fnRoundsOfRow, standIns := [], harness := (true, "bfef89633d4a36a1680596f8c2b4c2adf1fca3064640c969ea47aefadede6bc2"), looks := false }, kinds := [], alts := [], laidByText := true, laidKinds := [.data], laidTests := true, laidLooks := .later }
def FnRoundsOfCardSaid : Prop := Claim7.holds Tryd.pinned (.plain (OpenSpec.ofChange fnRoundsOfSpec)) fnRoundsOfCard

/-- THE TIED CARD OF 'laws.FnDriftOf'. -/
def fnDriftOfCard : Claim7 := { stood := { row := fnDriftOfRow, standIns := [], harness := (true, "bfef89633d4a36a1680596f8c2b4c2adf1fca3064640c969ea47aefadede6bc2"), looks := false }, kinds := [], alts := [], laidByText := true, laidKinds := [.data], laidTests := true, laidLooks := .later }
def FnDriftOfCardSaid : Prop := Claim7.holds Tryd.pinned (.plain (OpenSpec.ofChange fnDriftOfSpec)) fnDriftOfCard

/-- THE SECOND FORM's CARD OF 'laws.FnExactWalkedOf'. -/
def fnExactWalkedOfUptoCard : Claim7 := { stood := { row := fnExactWalkedOfUptoRow, standIns := [], harness := (true, "bfef89633d4a36a1680596f8c2b4c2adf1fca3064640c969ea47aefadede6bc2"), looks := false }, kinds := [], alts := [], laidByText := true, laidKinds := [.data], laidTests := true, laidLooks := .later }
def FnExactWalkedOfUptoCardSaid : Prop := Claim7.holds Tryd.pinned (.plain (OpenSpec.upto fnExactWalkedOfSpec)) fnExactWalkedOfUptoCard

/-- THE SECOND FORM's CARD OF 'laws.FnExactRoundsOf'. -/
def fnExactRoundsOfUptoCard : Claim7 := { stood := { row := fnExactRoundsOfUptoRow, standIns := [], harness := (true, "bfef89633d4a36a1680596f8c2b4c2adf1fca3064640c969ea47aefadede6bc2"), looks := false }, kinds := [], alts := [], laidByText := true, laidKinds := [.data], laidTests := true, laidLooks := .later }
def FnExactRoundsOfUptoCardSaid : Prop := Claim7.holds Tryd.pinned (.plain (OpenSpec.upto fnExactRoundsOfSpec)) fnExactRoundsOfUptoCard

/-- THE SECOND FORM's CARD OF 'laws.FnExactDriftOf'. -/
def fnExactDriftOfUptoCard : Claim7 := { stood := { row := fnExactDriftOfUptoRow, standIns := [], harness := (true, "bfef89633d4a36a1680596f8c2b4c2adf1fca3064640c969ea47aefadede6bc2"), looks := false }, kinds := [], alts := [], laidByText := true, laidKinds := [.data], laidTests := true, laidLooks := .later }
def FnExactDriftOfUptoCardSaid : Prop := Claim7.holds Tryd.pinned (.plain (OpenSpec.upto fnExactDriftOfSpec)) fnExactDriftOfUptoCard

/-- THE SECOND FORM's CARD OF 'laws.FnExactAfterTimes'. -/
def fnExactAfterTimesUptoCard : Claim7 := { stood := { row := fnExactAfterTimesUptoRow, standIns := [], harness := (true, "bfef89633d4a36a1680596f8c2b4c2adf1fca3064640c969ea47aefadede6bc2"), looks := false }, kinds := [], alts := [], laidByText := true, laidKinds := [.data], laidTests := true, laidLooks := .later }
def FnExactAfterTimesUptoCardSaid : Prop := Claim7.holds Tryd.pinned (.plain (OpenSpec.upto fnExactAfterTimesSpec)) fnExactAfterTimesUptoCard

/-- THE SECOND FORM's CARD OF 'laws.FnExactFarthestOf'. -/
def fnExactFarthestOfUptoCard : Claim7 := { stood := { row := fnExactFarthestOfUptoRow, standIns := [], harness := (true, "bfef89633d4a36a1680596f8c2b4c2adf1fca3064640c969ea47aefadede6bc2"), looks := false }, kinds := [], alts := [], laidByText := true, laidKinds := [.data], laidTests := true, laidLooks := .later }
def FnExactFarthestOfUptoCardSaid : Prop := Claim7.holds Tryd.pinned (.plain (OpenSpec.upto fnExactFarthestOfSpec)) fnExactFarthestOfUptoCard

/-- THE SECOND FORM's CARD OF 'laws.FnAfterTimes'. -/
def fnAfterTimesUptoCard : Claim7 := { stood := { row := fnAfterTimesUptoRow, standIns := [], harness := (true, "bfef89633d4a36a1680596f8c2b4c2adf1fca3064640c969ea47aefadede6bc2"), looks := false }, kinds := [], alts := [], laidByText := true, laidKinds := [.data], laidTests := true, laidLooks := .later }
def FnAfterTimesUptoCardSaid : Prop := Claim7.holds Tryd.pinned (.plain (OpenSpec.upto fnAfterTimesSpec)) fnAfterTimesUptoCard

/-- THE SECOND FORM's CARD OF 'laws.FnFarthestOf'. -/
def fnFarthestOfUptoCard : Claim7 := { stood := { row := fnFarthestOfUptoRow, standIns := [], harness := (true, "bfef89633d4a36a1680596f8c2b4c2adf1fca3064640c969ea47aefadede6bc2"), looks := false }, kinds := [], alts := [], laidByText := true, laidKinds := [.data], laidTests := true, laidLooks := .later }
def FnFarthestOfUptoCardSaid : Prop := Claim7.holds Tryd.pinned (.plain (OpenSpec.upto fnFarthestOfSpec)) fnFarthestOfUptoCard

/-- THE SECOND FORM's CARD OF 'laws.FnRoundsOf'. -/
def fnRoundsOfUptoCard : Claim7 := { stood := { row := fnRoundsOfUptoRow, standIns := [], harness := (true, "bfef89633d4a36a1680596f8c2b4c2adf1fca3064640c969ea47aefadede6bc2"), looks := false }, kinds := [], alts := [], laidByText := true, laidKinds := [.data], laidTests := true, laidLooks := .later }
def FnRoundsOfUptoCardSaid : Prop := Claim7.holds Tryd.pinned (.plain (OpenSpec.upto fnRoundsOfSpec)) fnRoundsOfUptoCard

/-- THE SECOND FORM's CARD OF 'laws.FnDriftOf'. -/
def fnDriftOfUptoCard : Claim7 := { stood := { row := fnDriftOfUptoRow, standIns := [], harness := (true, "bfef89633d4a36a1680596f8c2b4c2adf1fca3064640c969ea47aefadede6bc2"), looks := false }, kinds := [], alts := [], laidByText := true, laidKinds := [.data], laidTests := true, laidLooks := .later }
def FnDriftOfUptoCardSaid : Prop := Claim7.holds Tryd.pinned (.plain (OpenSpec.upto fnDriftOfSpec)) fnDriftOfUptoCard
end Rows
end Go.Proofs.YtdkhibkebakepaaDoor
