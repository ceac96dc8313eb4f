/-
  DERIVED. GIVEN WITH THE SEED: THE CARDS: each row of YtklbbnlhhfadcaaGreatDoorRows.lean that lists a variable, with what it lists TIED to the program's text (the seventh form; the later family's looks); each row that meets fmt, with fmt's text TOLD by the authors' own Lean function (tested against real Go, not proved from fmt's source: count such statements apart). THE CARD IS WHAT COUNTS. Prove the row's statement (the work); the ties are given (YtklbbnlhhfadcaaGreatDoorTie.lean); close each card by the builder's one call (the guide's Derived/Test/ToyasCard.lean, 'card_holds'). Laid BY PROGRAM, IN A SANDBOX (cutbox-door.mjs). By AI agents, Wed Nov 11 2026. No macro, syntax, notation, axiom, sorry.
-/
import Derived.Test.YtklbbnlhhfadcaaGreatDoorRows
import GoSem.ClaimSeven
namespace Go.Proofs.YtklbbnlhhfadcaaGreatDoor
namespace Rows

/-- THE TIED CARD OF 'toponymlaw34.PlanNobody'. -/
def planNobodyCard : Claim7 := { stood := { row := planNobodyRow, standIns := [], harness := (true, "7d41d0466a83e4ed52144751e7008a5ea52f870e7d175cc71ac7e81957080b3d"), looks := true }, kinds := [], alts := [], laidByText := true, laidKinds := [.data, .data, .data, .data, .sentinel, .sentinel, .pinned], laidTests := true, laidLooks := .later }
def PlanNobodyCardSaid : Prop := Claim7.holds Tryz.pinned (.plain (OpenSpec.ofChange planNobodySpec)) planNobodyCard

/-- THE SECOND FORM's CARD OF 'toponymlaw34.PlanNobody'. -/
def planNobodyUptoCard : Claim7 := { stood := { row := planNobodyUptoRow, standIns := [], harness := (true, "7d41d0466a83e4ed52144751e7008a5ea52f870e7d175cc71ac7e81957080b3d"), looks := true }, kinds := [], alts := [], laidByText := true, laidKinds := [.data, .data, .data, .data, .sentinel, .sentinel, .pinned], laidTests := true, laidLooks := .later }
def PlanNobodyUptoCardSaid : Prop := Claim7.holds Tryz.pinned (.plain (OpenSpec.upto planNobodySpec)) planNobodyUptoCard
end Rows
end Go.Proofs.YtklbbnlhhfadcaaGreatDoor
