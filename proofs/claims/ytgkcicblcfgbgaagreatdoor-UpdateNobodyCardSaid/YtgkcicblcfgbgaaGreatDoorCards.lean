/-
  DERIVED. GIVEN WITH THE SEED: THE CARDS: each row of YtgkcicblcfgbgaaGreatDoorRows.lean that lists a variable, with what it lists TIED to the program's text (the seventh form; the later family's looks); each row that meets fmt, with fmt's text TOLD by the authors' own Lean function (tested against real Go, not proved from fmt's source: count such statements apart). THE CARD IS WHAT COUNTS. Prove the row's statement (the work); the ties are given (YtgkcicblcfgbgaaGreatDoorTie.lean); close each card by the builder's one call (the guide's Derived/Test/ToyasCard.lean, 'card_holds'). Laid BY PROGRAM, IN A SANDBOX (cutbox-door.mjs). By AI agents, Wed Nov 11 2026. No macro, syntax, notation, axiom, sorry.
-/
import Derived.Test.YtgkcicblcfgbgaaGreatDoorRows
import GoSem.ClaimSeven
namespace Go.Proofs.YtgkcicblcfgbgaaGreatDoor
namespace Rows

/-- THE TIED CARD OF 'toponymlaw36.UpdateNobody'. -/
def updateNobodyCard : Claim7 := { stood := { row := updateNobodyRow, standIns := [], harness := (true, "21517f6f475f7beaee5b98c4950760f6ceeec80feefc282890b58efcb4d6e5e9"), looks := true }, kinds := [], alts := [], laidByText := true, laidKinds := [.data, .data, .data, .data, .sentinel, .sentinel, .pinned], laidTests := true, laidLooks := .later }
def UpdateNobodyCardSaid : Prop := Claim7.holds Tryz.pinned (.plain (OpenSpec.ofChange updateNobodySpec)) updateNobodyCard

/-- THE SECOND FORM's CARD OF 'toponymlaw36.UpdateNobody'. -/
def updateNobodyUptoCard : Claim7 := { stood := { row := updateNobodyUptoRow, standIns := [], harness := (true, "21517f6f475f7beaee5b98c4950760f6ceeec80feefc282890b58efcb4d6e5e9"), looks := true }, kinds := [], alts := [], laidByText := true, laidKinds := [.data, .data, .data, .data, .sentinel, .sentinel, .pinned], laidTests := true, laidLooks := .later }
def UpdateNobodyUptoCardSaid : Prop := Claim7.holds Tryz.pinned (.plain (OpenSpec.upto updateNobodySpec)) updateNobodyUptoCard
end Rows
end Go.Proofs.YtgkcicblcfgbgaaGreatDoor
