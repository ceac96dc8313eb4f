/-
  DERIVED. GIVEN WITH THE SEED: THE CARDS: each row of YtnaanmddpakbgaaGreatDoorRows.lean that lists a variable, with what it lists TIED to the program's text (the seventh form; the later family's looks); each row that meets fmt, with fmt's text TOLD by the authors' own Lean function (tested against real Go, not proved from fmt's source: count such statements apart). THE CARD IS WHAT COUNTS. Prove the row's statement (the work); the ties are given (YtnaanmddpakbgaaGreatDoorTie.lean); close each card by the builder's one call (the guide's Derived/Test/ToyasCard.lean, 'card_holds'). Laid BY PROGRAM, IN A SANDBOX (cutbox-door.mjs). By AI agents, Wed Nov 11 2026. No macro, syntax, notation, axiom, sorry.
-/
import Derived.Test.YtnaanmddpakbgaaGreatDoorRows
import GoSem.ClaimSeven
namespace Go.Proofs.YtnaanmddpakbgaaGreatDoor
namespace Rows

/-- THE TIED CARD OF 'toponymlaw22.RulesWords'. -/
def rulesWordsCard : Claim7 := { stood := { row := rulesWordsRow, standIns := [], harness := (true, "4e35b2234e85524f04abc3d8f71e2b708cd6b0f1455301ec717f7c124ee0fbc9"), looks := true }, kinds := [], alts := [], laidByText := true, laidKinds := [.data, .data, .data, .data, .sentinel, .sentinel, .pinned], laidTests := true, laidLooks := .later }
def RulesWordsCardSaid : Prop := Claim7.holds Tryz.pinned (.plain (OpenSpec.ofChange rulesWordsSpec)) rulesWordsCard

/-- THE SECOND FORM's CARD OF 'toponymlaw22.RulesWords'. -/
def rulesWordsUptoCard : Claim7 := { stood := { row := rulesWordsUptoRow, standIns := [], harness := (true, "4e35b2234e85524f04abc3d8f71e2b708cd6b0f1455301ec717f7c124ee0fbc9"), looks := true }, kinds := [], alts := [], laidByText := true, laidKinds := [.data, .data, .data, .data, .sentinel, .sentinel, .pinned], laidTests := true, laidLooks := .later }
def RulesWordsUptoCardSaid : Prop := Claim7.holds Tryz.pinned (.plain (OpenSpec.upto rulesWordsSpec)) rulesWordsUptoCard
end Rows
end Go.Proofs.YtnaanmddpakbgaaGreatDoor
