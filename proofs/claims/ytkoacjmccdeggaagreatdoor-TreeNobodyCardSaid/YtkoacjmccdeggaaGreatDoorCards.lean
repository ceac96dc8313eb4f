/-
  DERIVED. GIVEN WITH THE SEED: THE CARDS: each row of YtkoacjmccdeggaaGreatDoorRows.lean that lists a variable, with what it lists TIED to the program's text (the seventh form; the later family's looks); each row that meets fmt, with fmt's text TOLD by the authors' own Lean function (tested against real Go, not proved from fmt's source: count such statements apart). THE CARD IS WHAT COUNTS. Prove the row's statement (the work); the ties are given (YtkoacjmccdeggaaGreatDoorTie.lean); close each card by the builder's one call (the guide's Derived/Test/ToyasCard.lean, 'card_holds'). Laid BY PROGRAM, IN A SANDBOX (cutbox-door.mjs). By AI agents, Wed Nov 11 2026. No macro, syntax, notation, axiom, sorry.
-/
import Derived.Test.YtkoacjmccdeggaaGreatDoorRows
import GoSem.ClaimSeven
namespace Go.Proofs.YtkoacjmccdeggaaGreatDoor
namespace Rows

/-- THE TIED CARD OF 'toponymlaw33.IndexNobody'. -/
def indexNobodyCard : Claim7 := { stood := { row := indexNobodyRow, standIns := [], harness := (true, "6fb4e4e1085339a422ff6a5e8215021cf5b7bd70d0066b5417f6485c248bb2e5"), looks := true }, kinds := [], alts := [], laidByText := true, laidKinds := [.data, .data, .data, .data, .sentinel, .sentinel, .pinned], laidTests := true, laidLooks := .later }
def IndexNobodyCardSaid : Prop := Claim7.holds Tryz.pinned (.plain (OpenSpec.ofChange indexNobodySpec)) indexNobodyCard

/-- THE TIED CARD OF 'toponymlaw30.EntryPut'. -/
def entryPutCard : Claim7 := { stood := { row := entryPutRow, standIns := [], harness := (true, "6fb4e4e1085339a422ff6a5e8215021cf5b7bd70d0066b5417f6485c248bb2e5"), looks := true }, kinds := [], alts := [], laidByText := true, laidKinds := [.data, .data, .data, .data, .sentinel, .sentinel, .pinned], laidTests := true, laidLooks := .later }
def EntryPutCardSaid : Prop := Claim7.holds Tryz.pinned (.plain (OpenSpec.ofChange entryPutSpec)) entryPutCard

/-- THE TIED CARD OF 'toponymlaw32.TreeNobody'. -/
def treeNobodyCard : Claim7 := { stood := { row := treeNobodyRow, standIns := [], harness := (true, "6fb4e4e1085339a422ff6a5e8215021cf5b7bd70d0066b5417f6485c248bb2e5"), looks := true }, kinds := [], alts := [], laidByText := true, laidKinds := [.data, .data, .data, .data, .sentinel, .sentinel, .pinned], laidTests := true, laidLooks := .later }
def TreeNobodyCardSaid : Prop := Claim7.holds Tryz.pinned (.plain (OpenSpec.ofChange treeNobodySpec)) treeNobodyCard

/-- THE SECOND FORM's CARD OF 'toponymlaw33.IndexNobody'. -/
def indexNobodyUptoCard : Claim7 := { stood := { row := indexNobodyUptoRow, standIns := [], harness := (true, "6fb4e4e1085339a422ff6a5e8215021cf5b7bd70d0066b5417f6485c248bb2e5"), looks := true }, kinds := [], alts := [], laidByText := true, laidKinds := [.data, .data, .data, .data, .sentinel, .sentinel, .pinned], laidTests := true, laidLooks := .later }
def IndexNobodyUptoCardSaid : Prop := Claim7.holds Tryz.pinned (.plain (OpenSpec.upto indexNobodySpec)) indexNobodyUptoCard

/-- THE SECOND FORM's CARD OF 'toponymlaw30.EntryPut'. -/
def entryPutUptoCard : Claim7 := { stood := { row := entryPutUptoRow, standIns := [], harness := (true, "6fb4e4e1085339a422ff6a5e8215021cf5b7bd70d0066b5417f6485c248bb2e5"), looks := true }, kinds := [], alts := [], laidByText := true, laidKinds := [.data, .data, .data, .data, .sentinel, .sentinel, .pinned], laidTests := true, laidLooks := .later }
def EntryPutUptoCardSaid : Prop := Claim7.holds Tryz.pinned (.plain (OpenSpec.upto entryPutSpec)) entryPutUptoCard

/-- THE SECOND FORM's CARD OF 'toponymlaw32.TreeNobody'. -/
def treeNobodyUptoCard : Claim7 := { stood := { row := treeNobodyUptoRow, standIns := [], harness := (true, "6fb4e4e1085339a422ff6a5e8215021cf5b7bd70d0066b5417f6485c248bb2e5"), looks := true }, kinds := [], alts := [], laidByText := true, laidKinds := [.data, .data, .data, .data, .sentinel, .sentinel, .pinned], laidTests := true, laidLooks := .later }
def TreeNobodyUptoCardSaid : Prop := Claim7.holds Tryz.pinned (.plain (OpenSpec.upto treeNobodySpec)) treeNobodyUptoCard
end Rows
end Go.Proofs.YtkoacjmccdeggaaGreatDoor
