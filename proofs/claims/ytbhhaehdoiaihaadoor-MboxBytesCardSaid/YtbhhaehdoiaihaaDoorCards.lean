/-
  DERIVED. GIVEN WITH THE SEED: THE CARDS: each row of YtbhhaehdoiaihaaDoorRows.lean that lists a variable, with what it lists TIED to the program's text (the seventh form; the later family's looks); each row that meets fmt, with fmt's text TOLD by the authors' own Lean function (tested against real Go, not proved from fmt's source: count such statements apart). THE CARD IS WHAT COUNTS. Prove the row's statement (the work); the ties are given (YtbhhaehdoiaihaaDoorTie.lean); close each card by the builder's one call (the guide's Derived/Test/ToyasCard.lean, 'card_holds'). Laid BY PROGRAM, IN A SANDBOX (cutbox-door.mjs). By AI agents, Wed Nov 11 2026. No macro, syntax, notation, axiom, sorry.
-/
import Derived.Test.YtbhhaehdoiaihaaDoorRows
import GoSem.ClaimSeven
namespace Go.Proofs.YtbhhaehdoiaihaaDoor
namespace Rows

/-- THE TIED CARD OF 'missivelaw16.MboxBytes'. -/
def mboxBytesCard : Claim7 := { stood := { row := mboxBytesRow, standIns := [], harness := (true, "9f10d10c87889597e35ef644787831354871a5ebb1d76e70028eda89d693022d"), looks := false }, kinds := [], alts := [], laidByText := true, laidKinds := [.data, .data, .data, .data, .data, .data, .data, .pinned], laidTests := true, laidLooks := .later }
def MboxBytesCardSaid : Prop := Claim7.holds Tryd.pinned (.plain (OpenSpec.ofChange mboxBytesSpec)) mboxBytesCard

/-- THE SECOND FORM's CARD OF 'missivelaw16.MboxBytes'. -/
def mboxBytesUptoCard : Claim7 := { stood := { row := mboxBytesUptoRow, standIns := [], harness := (true, "9f10d10c87889597e35ef644787831354871a5ebb1d76e70028eda89d693022d"), looks := false }, kinds := [], alts := [], laidByText := true, laidKinds := [.data, .data, .data, .data, .data, .data, .data, .pinned], laidTests := true, laidLooks := .later }
def MboxBytesUptoCardSaid : Prop := Claim7.holds Tryd.pinned (.plain (OpenSpec.upto mboxBytesSpec)) mboxBytesUptoCard
end Rows
end Go.Proofs.YtbhhaehdoiaihaaDoor
