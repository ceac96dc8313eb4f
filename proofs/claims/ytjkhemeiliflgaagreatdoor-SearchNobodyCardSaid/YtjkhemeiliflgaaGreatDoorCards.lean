/-
  DERIVED. GIVEN WITH THE SEED: THE CARDS: each row of YtjkhemeiliflgaaGreatDoorRows.lean that lists a variable, with what it lists TIED to the program's text (the seventh form; the later family's looks); each row that meets fmt, with fmt's text TOLD by the authors' own Lean function (tested against real Go, not proved from fmt's source: count such statements apart). THE CARD IS WHAT COUNTS. Prove the row's statement (the work); the ties are given (YtjkhemeiliflgaaGreatDoorTie.lean); close each card by the builder's one call (the guide's Derived/Test/ToyasCard.lean, 'card_holds'). Laid BY PROGRAM, IN A SANDBOX (cutbox-door.mjs). By AI agents, Wed Nov 11 2026. No macro, syntax, notation, axiom, sorry.
-/
import Derived.Test.YtjkhemeiliflgaaGreatDoorRows
import GoSem.ClaimSeven
namespace Go.Proofs.YtjkhemeiliflgaaGreatDoor
namespace Rows

/-- THE TIED CARD OF 'toponymlaw35.SearchNobody'. -/
def searchNobodyCard : Claim7 := { stood := { row := searchNobodyRow, standIns := [], harness := (true, "7b6da27d6710ce1c87217078463adbd3a934092958bc4824022cdb928d03e751"), looks := true }, kinds := [], alts := [], laidByText := true, laidKinds := [.sentinel, .sentinel, .data, .data, .data, .pinned, .data], laidTests := true, laidLooks := .later }
def SearchNobodyCardSaid : Prop := Claim7.holds Tryz.pinned (.plain (OpenSpec.ofChange searchNobodySpec)) searchNobodyCard

/-- THE SECOND FORM's CARD OF 'toponymlaw35.SearchNobody'. -/
def searchNobodyUptoCard : Claim7 := { stood := { row := searchNobodyUptoRow, standIns := [], harness := (true, "7b6da27d6710ce1c87217078463adbd3a934092958bc4824022cdb928d03e751"), looks := true }, kinds := [], alts := [], laidByText := true, laidKinds := [.sentinel, .sentinel, .data, .data, .data, .pinned, .data], laidTests := true, laidLooks := .later }
def SearchNobodyUptoCardSaid : Prop := Claim7.holds Tryz.pinned (.plain (OpenSpec.upto searchNobodySpec)) searchNobodyUptoCard
end Rows
end Go.Proofs.YtjkhemeiliflgaaGreatDoor
