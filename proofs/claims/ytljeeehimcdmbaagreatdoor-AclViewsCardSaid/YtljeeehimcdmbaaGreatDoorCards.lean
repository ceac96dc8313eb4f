/-
  DERIVED. GIVEN WITH THE SEED: THE CARDS: each row of YtljeeehimcdmbaaGreatDoorRows.lean that lists a variable, with what it lists TIED to the program's text (the seventh form; the later family's looks); each row that meets fmt, with fmt's text TOLD by the authors' own Lean function (tested against real Go, not proved from fmt's source: count such statements apart). THE CARD IS WHAT COUNTS. Prove the row's statement (the work); the ties are given (YtljeeehimcdmbaaGreatDoorTie.lean); close each card by the builder's one call (the guide's Derived/Test/ToyasCard.lean, 'card_holds'). Laid BY PROGRAM, IN A SANDBOX (cutbox-door.mjs). By AI agents, Wed Nov 11 2026. No macro, syntax, notation, axiom, sorry.
-/
import Derived.Test.YtljeeehimcdmbaaGreatDoorRows
import GoSem.ClaimSeven
namespace Go.Proofs.YtljeeehimcdmbaaGreatDoor
namespace Rows

/-- THE TIED CARD OF 'toponymlaw31.AclAllows'. -/
def aclAllowsCard : Claim7 := { stood := { row := aclAllowsRow, standIns := [], harness := (true, "932440f92834f9bba356feccadd49f6299bdeb55c4c88782eb212825a8d23690"), looks := true }, kinds := [], alts := [], laidByText := true, laidKinds := [.data, .data, .data, .data, .sentinel, .sentinel, .pinned], laidTests := true, laidLooks := .later }
def AclAllowsCardSaid : Prop := Claim7.holds Tryz.pinned (.plain (OpenSpec.ofChange aclAllowsSpec)) aclAllowsCard

/-- THE TIED CARD OF 'toponymlaw31.AclSees'. -/
def aclSeesCard : Claim7 := { stood := { row := aclSeesRow, standIns := [], harness := (true, "932440f92834f9bba356feccadd49f6299bdeb55c4c88782eb212825a8d23690"), looks := true }, kinds := [], alts := [], laidByText := true, laidKinds := [.data, .data, .data, .data, .sentinel, .sentinel, .pinned], laidTests := true, laidLooks := .later }
def AclSeesCardSaid : Prop := Claim7.holds Tryz.pinned (.plain (OpenSpec.ofChange aclSeesSpec)) aclSeesCard

/-- THE TIED CARD OF 'toponymlaw31.AclLast'. -/
def aclLastCard : Claim7 := { stood := { row := aclLastRow, standIns := [], harness := (true, "932440f92834f9bba356feccadd49f6299bdeb55c4c88782eb212825a8d23690"), looks := true }, kinds := [], alts := [], laidByText := true, laidKinds := [.data, .data, .data, .data, .sentinel, .sentinel, .pinned], laidTests := true, laidLooks := .later }
def AclLastCardSaid : Prop := Claim7.holds Tryz.pinned (.plain (OpenSpec.ofChange aclLastSpec)) aclLastCard

/-- THE TIED CARD OF 'toponymlaw31.AclViews'. -/
def aclViewsCard : Claim7 := { stood := { row := aclViewsRow, standIns := [], harness := (true, "932440f92834f9bba356feccadd49f6299bdeb55c4c88782eb212825a8d23690"), looks := true }, kinds := [], alts := [], laidByText := true, laidKinds := [.data, .data, .data, .data, .sentinel, .sentinel, .pinned], laidTests := true, laidLooks := .later }
def AclViewsCardSaid : Prop := Claim7.holds Tryz.pinned (.plain (OpenSpec.ofChange aclViewsSpec)) aclViewsCard

/-- THE SECOND FORM's CARD OF 'toponymlaw31.AclAllows'. -/
def aclAllowsUptoCard : Claim7 := { stood := { row := aclAllowsUptoRow, standIns := [], harness := (true, "932440f92834f9bba356feccadd49f6299bdeb55c4c88782eb212825a8d23690"), looks := true }, kinds := [], alts := [], laidByText := true, laidKinds := [.data, .data, .data, .data, .sentinel, .sentinel, .pinned], laidTests := true, laidLooks := .later }
def AclAllowsUptoCardSaid : Prop := Claim7.holds Tryz.pinned (.plain (OpenSpec.upto aclAllowsSpec)) aclAllowsUptoCard

/-- THE SECOND FORM's CARD OF 'toponymlaw31.AclSees'. -/
def aclSeesUptoCard : Claim7 := { stood := { row := aclSeesUptoRow, standIns := [], harness := (true, "932440f92834f9bba356feccadd49f6299bdeb55c4c88782eb212825a8d23690"), looks := true }, kinds := [], alts := [], laidByText := true, laidKinds := [.data, .data, .data, .data, .sentinel, .sentinel, .pinned], laidTests := true, laidLooks := .later }
def AclSeesUptoCardSaid : Prop := Claim7.holds Tryz.pinned (.plain (OpenSpec.upto aclSeesSpec)) aclSeesUptoCard

/-- THE SECOND FORM's CARD OF 'toponymlaw31.AclLast'. -/
def aclLastUptoCard : Claim7 := { stood := { row := aclLastUptoRow, standIns := [], harness := (true, "932440f92834f9bba356feccadd49f6299bdeb55c4c88782eb212825a8d23690"), looks := true }, kinds := [], alts := [], laidByText := true, laidKinds := [.data, .data, .data, .data, .sentinel, .sentinel, .pinned], laidTests := true, laidLooks := .later }
def AclLastUptoCardSaid : Prop := Claim7.holds Tryz.pinned (.plain (OpenSpec.upto aclLastSpec)) aclLastUptoCard

/-- THE SECOND FORM's CARD OF 'toponymlaw31.AclViews'. -/
def aclViewsUptoCard : Claim7 := { stood := { row := aclViewsUptoRow, standIns := [], harness := (true, "932440f92834f9bba356feccadd49f6299bdeb55c4c88782eb212825a8d23690"), looks := true }, kinds := [], alts := [], laidByText := true, laidKinds := [.data, .data, .data, .data, .sentinel, .sentinel, .pinned], laidTests := true, laidLooks := .later }
def AclViewsUptoCardSaid : Prop := Claim7.holds Tryz.pinned (.plain (OpenSpec.upto aclViewsSpec)) aclViewsUptoCard
end Rows
end Go.Proofs.YtljeeehimcdmbaaGreatDoor
