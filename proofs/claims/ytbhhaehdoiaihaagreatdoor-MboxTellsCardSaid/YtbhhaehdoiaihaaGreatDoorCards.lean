/-
  DERIVED. GIVEN WITH THE SEED: THE CARDS: each row of YtbhhaehdoiaihaaGreatDoorRows.lean that lists a variable, with what it lists TIED to the program's text (the seventh form; the later family's looks); each row that meets fmt, with fmt's text TOLD by the authors' own Lean function (tested against real Go, not proved from fmt's source: count such statements apart). THE CARD IS WHAT COUNTS. Prove the row's statement (the work); the ties are given (YtbhhaehdoiaihaaGreatDoorTie.lean); close each card by the builder's one call (the guide's Derived/Test/ToyasCard.lean, 'card_holds'). Laid BY PROGRAM, IN A SANDBOX (cutbox-door.mjs). By AI agents, Wed Nov 11 2026. No macro, syntax, notation, axiom, sorry.
-/
import Derived.Test.YtbhhaehdoiaihaaGreatDoorRows
import GoSem.ClaimSeven
namespace Go.Proofs.YtbhhaehdoiaihaaGreatDoor
namespace Rows

/-- THE TIED CARD OF 'missivelaw16.MboxTells'. -/
def mboxTellsCard : Claim7 := { stood := { row := mboxTellsRow, standIns := [], harness := (true, "03a7ee441ec095c989fef370bee19167e82a31394f57bac9eac1a6e1db894494"), looks := false }, kinds := [], alts := [], laidByText := true, laidKinds := [.data, .data, .data, .data, .data, .data, .data, .pinned], laidTests := true, laidLooks := .later }
def MboxTellsCardSaid : Prop := Claim7.holds Tryz.pinned (.plain (OpenSpec.ofChange mboxTellsSpec)) mboxTellsCard

/-- THE TIED CARD OF 'missivelaw16.MboxBack'. -/
def mboxBackCard : Claim7 := { stood := { row := mboxBackRow, standIns := [], harness := (true, "03a7ee441ec095c989fef370bee19167e82a31394f57bac9eac1a6e1db894494"), looks := false }, kinds := [], alts := [], laidByText := true, laidKinds := [.data, .data, .data, .data, .data, .data, .data, .pinned], laidTests := true, laidLooks := .later }
def MboxBackCardSaid : Prop := Claim7.holds Tryz.pinned (.plain (OpenSpec.ofChange mboxBackSpec)) mboxBackCard

/-- THE TIED CARD OF 'missivelaw16.MboxDates'. -/
def mboxDatesCard : Claim7 := { stood := { row := mboxDatesRow, standIns := [], harness := (true, "03a7ee441ec095c989fef370bee19167e82a31394f57bac9eac1a6e1db894494"), looks := false }, kinds := [], alts := [], laidByText := true, laidKinds := [.data, .data, .data, .data, .data, .data, .data, .pinned], laidTests := true, laidLooks := .later }
def MboxDatesCardSaid : Prop := Claim7.holds Tryz.pinned (.plain (OpenSpec.ofChange mboxDatesSpec)) mboxDatesCard

/-- THE TIED CARD OF 'missivelaw16.MboxLost'. -/
def mboxLostCard : Claim7 := { stood := { row := mboxLostRow, standIns := [], harness := (true, "03a7ee441ec095c989fef370bee19167e82a31394f57bac9eac1a6e1db894494"), looks := false }, kinds := [], alts := [], laidByText := true, laidKinds := [.data, .data, .data, .data, .data, .data, .data, .pinned], laidTests := true, laidLooks := .later }
def MboxLostCardSaid : Prop := Claim7.holds Tryz.pinned (.plain (OpenSpec.ofChange mboxLostSpec)) mboxLostCard

/-- THE SECOND FORM's CARD OF 'missivelaw16.MboxTells'. -/
def mboxTellsUptoCard : Claim7 := { stood := { row := mboxTellsUptoRow, standIns := [], harness := (true, "03a7ee441ec095c989fef370bee19167e82a31394f57bac9eac1a6e1db894494"), looks := false }, kinds := [], alts := [], laidByText := true, laidKinds := [.data, .data, .data, .data, .data, .data, .data, .pinned], laidTests := true, laidLooks := .later }
def MboxTellsUptoCardSaid : Prop := Claim7.holds Tryz.pinned (.plain (OpenSpec.upto mboxTellsSpec)) mboxTellsUptoCard

/-- THE SECOND FORM's CARD OF 'missivelaw16.MboxBack'. -/
def mboxBackUptoCard : Claim7 := { stood := { row := mboxBackUptoRow, standIns := [], harness := (true, "03a7ee441ec095c989fef370bee19167e82a31394f57bac9eac1a6e1db894494"), looks := false }, kinds := [], alts := [], laidByText := true, laidKinds := [.data, .data, .data, .data, .data, .data, .data, .pinned], laidTests := true, laidLooks := .later }
def MboxBackUptoCardSaid : Prop := Claim7.holds Tryz.pinned (.plain (OpenSpec.upto mboxBackSpec)) mboxBackUptoCard

/-- THE SECOND FORM's CARD OF 'missivelaw16.MboxDates'. -/
def mboxDatesUptoCard : Claim7 := { stood := { row := mboxDatesUptoRow, standIns := [], harness := (true, "03a7ee441ec095c989fef370bee19167e82a31394f57bac9eac1a6e1db894494"), looks := false }, kinds := [], alts := [], laidByText := true, laidKinds := [.data, .data, .data, .data, .data, .data, .data, .pinned], laidTests := true, laidLooks := .later }
def MboxDatesUptoCardSaid : Prop := Claim7.holds Tryz.pinned (.plain (OpenSpec.upto mboxDatesSpec)) mboxDatesUptoCard

/-- THE SECOND FORM's CARD OF 'missivelaw16.MboxLost'. -/
def mboxLostUptoCard : Claim7 := { stood := { row := mboxLostUptoRow, standIns := [], harness := (true, "03a7ee441ec095c989fef370bee19167e82a31394f57bac9eac1a6e1db894494"), looks := false }, kinds := [], alts := [], laidByText := true, laidKinds := [.data, .data, .data, .data, .data, .data, .data, .pinned], laidTests := true, laidLooks := .later }
def MboxLostUptoCardSaid : Prop := Claim7.holds Tryz.pinned (.plain (OpenSpec.upto mboxLostSpec)) mboxLostUptoCard
end Rows
end Go.Proofs.YtbhhaehdoiaihaaGreatDoor
