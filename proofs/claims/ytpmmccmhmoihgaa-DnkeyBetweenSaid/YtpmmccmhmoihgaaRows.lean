/-
  No cell of these rows narrows 'for every input' (looked for: loops, veiled, ifaces, maps, wideKeys, modest, calm, conditions, laid).
  DERIVED. THE GIVEN ROWS OF THIS SEAT. 8 by the template 'for every input the law returns true; each argument reads behind the call as it read before'; 0 by the template 'total and deterministic' (their statements: YtpmmccmhmoihgaaTotals.lean).
  GIVEN WITH THE SEED: the statements are not yours to turn. If you find one false, say at which input.
  Laid BY PROGRAM, IN A SANDBOX (cutbox-rows.mjs): the forced cells as the released guide's own fill.sh prints them over the translation dbbf0d46459385a7… (all of the seat's roots in one cut). By AI agents, Wed Nov 11 2026. No macro, syntax, notation, axiom, sorry.
-/
import Derived.Test.YtpmmccmhmoihgaaChecked
import GoSem.Claim
import GoSem.ClaimJoined
import GoSem.ClaimMapViews
import Derived.JoinedTies
import Derived.KernelRfl
namespace Go.Proofs.Ytpmmccmhmoihgaa
/- THE CELL 'sum', in the pinned program and in every row, IS THE sha256 OF THE DUMP (.gsa) THAT YtpmmccmhmoihgaaProg.lean LOADS. Nothing in Lean hashes anything: it is a label: what it is worth is what the hold of that sum in a sandbox is worth. -/
noncomputable def Try.pinned : Pinned := { name := "ytpmmccmhmoihgaa", sum := "dbbf0d46459385a7e03715fdbeb951d2481629fa863b7bb7a197c939bf6bdc84", checked := Try.checked }
namespace Rows
def none {H : Type} : Left H := { results := [], args := [] }

/-- 'toponymlaw28.TruthTable': WHATEVER THE INPUT: true; the input reads as it did. -/
def truthTableSpec : ChangeSpec := { name := "truthTable", fn := fun _ => fun
  | [d1, d2, d3] => { results := [.lit (.bool true)], args := [d1, d2, d3] }
  | _ => none }
def truthTableRow : OpenClaim := { program := "ytpmmccmhmoihgaa", sum := "dbbf0d46459385a7e03715fdbeb951d2481629fa863b7bb7a197c939bf6bdc84", func := "toponym/toponymlaw28.TruthTable", spec := "truthTable", apart := false }
def TruthTableSaid : Prop := truthTableRow.holds Try.pinned (OpenSpec.ofChange truthTableSpec)

/-- ITS FALSE NEIGHBOUR: 'it returns false'. Refute it at one input. -/
def truthTableWrong : ChangeSpec := { name := "truthTable", fn := fun _ => fun
  | [d1, d2, d3] => { results := [.lit (.bool false)], args := [d1, d2, d3] }
  | _ => none }
def TruthTableWrongFalsely : Prop := truthTableRow.holds Try.pinned (OpenSpec.ofChange truthTableWrong)

/-- 'toponymlaw28.TruthLaws': WHATEVER THE INPUT: true; the input reads as it did. -/
def truthLawsSpec : ChangeSpec := { name := "truthLaws", fn := fun _ => fun
  | [d1, d2, d3] => { results := [.lit (.bool true)], args := [d1, d2, d3] }
  | _ => none }
def truthLawsRow : OpenClaim := { program := "ytpmmccmhmoihgaa", sum := "dbbf0d46459385a7e03715fdbeb951d2481629fa863b7bb7a197c939bf6bdc84", func := "toponym/toponymlaw28.TruthLaws", spec := "truthLaws", apart := false }
def TruthLawsSaid : Prop := truthLawsRow.holds Try.pinned (OpenSpec.ofChange truthLawsSpec)

/-- ITS FALSE NEIGHBOUR: 'it returns false'. Refute it at one input. -/
def truthLawsWrong : ChangeSpec := { name := "truthLaws", fn := fun _ => fun
  | [d1, d2, d3] => { results := [.lit (.bool false)], args := [d1, d2, d3] }
  | _ => none }
def TruthLawsWrongFalsely : Prop := truthLawsRow.holds Try.pinned (OpenSpec.ofChange truthLawsWrong)

/-- 'toponymlaw28.TruthParts': WHATEVER THE INPUT: true; the input reads as it did. -/
def truthPartsSpec : ChangeSpec := { name := "truthParts", fn := fun _ => fun
  | [d1, d2] => { results := [.lit (.bool true)], args := [d1, d2] }
  | _ => none }
def truthPartsRow : OpenClaim := { program := "ytpmmccmhmoihgaa", sum := "dbbf0d46459385a7e03715fdbeb951d2481629fa863b7bb7a197c939bf6bdc84", func := "toponym/toponymlaw28.TruthParts", spec := "truthParts", apart := false }
def TruthPartsSaid : Prop := truthPartsRow.holds Try.pinned (OpenSpec.ofChange truthPartsSpec)

/-- ITS FALSE NEIGHBOUR: 'it returns false'. Refute it at one input. -/
def truthPartsWrong : ChangeSpec := { name := "truthParts", fn := fun _ => fun
  | [d1, d2] => { results := [.lit (.bool false)], args := [d1, d2] }
  | _ => none }
def TruthPartsWrongFalsely : Prop := truthPartsRow.holds Try.pinned (OpenSpec.ofChange truthPartsWrong)

/-- 'toponymlaw23.DnkeyLooks': WHATEVER THE INPUT: true; the input reads as it did. -/
def dnkeyLooksSpec : ChangeSpec := { name := "dnkeyLooks", fn := fun _ => fun
  | [d] => { results := [.lit (.bool true)], args := [d] }
  | _ => none }
def dnkeyLooksRow : OpenClaim := { program := "ytpmmccmhmoihgaa", sum := "dbbf0d46459385a7e03715fdbeb951d2481629fa863b7bb7a197c939bf6bdc84", func := "toponym/toponymlaw23.DnkeyLooks", spec := "dnkeyLooks", inPlace := ["internal/bytealg.IndexByteString"], unfollowed := true, recurses := true, apart := false }
def DnkeyLooksSaid : Prop := dnkeyLooksRow.holds Try.pinned (OpenSpec.ofChange dnkeyLooksSpec)

/-- ITS FALSE NEIGHBOUR: 'it returns false'. Refute it at one input. -/
def dnkeyLooksWrong : ChangeSpec := { name := "dnkeyLooks", fn := fun _ => fun
  | [d] => { results := [.lit (.bool false)], args := [d] }
  | _ => none }
def DnkeyLooksWrongFalsely : Prop := dnkeyLooksRow.holds Try.pinned (OpenSpec.ofChange dnkeyLooksWrong)

/-- 'toponymlaw23.DnkeyPairs': WHATEVER THE INPUT: true; the input reads as it did. -/
def dnkeyPairsSpec : ChangeSpec := { name := "dnkeyPairs", fn := fun _ => fun
  | [d1, d2, d3] => { results := [.lit (.bool true)], args := [d1, d2, d3] }
  | _ => none }
def dnkeyPairsRow : OpenClaim := { program := "ytpmmccmhmoihgaa", sum := "dbbf0d46459385a7e03715fdbeb951d2481629fa863b7bb7a197c939bf6bdc84", func := "toponym/toponymlaw23.DnkeyPairs", spec := "dnkeyPairs", inPlace := ["internal/bytealg.IndexByteString"], unfollowed := true, recurses := true, apart := false }
def DnkeyPairsSaid : Prop := dnkeyPairsRow.holds Try.pinned (OpenSpec.ofChange dnkeyPairsSpec)

/-- ITS FALSE NEIGHBOUR: 'it returns false'. Refute it at one input. -/
def dnkeyPairsWrong : ChangeSpec := { name := "dnkeyPairs", fn := fun _ => fun
  | [d1, d2, d3] => { results := [.lit (.bool false)], args := [d1, d2, d3] }
  | _ => none }
def DnkeyPairsWrongFalsely : Prop := dnkeyPairsRow.holds Try.pinned (OpenSpec.ofChange dnkeyPairsWrong)

/-- 'toponymlaw23.DnkeyUnder': WHATEVER THE INPUT: true; the input reads as it did. -/
def dnkeyUnderSpec : ChangeSpec := { name := "dnkeyUnder", fn := fun _ => fun
  | [d1, d2] => { results := [.lit (.bool true)], args := [d1, d2] }
  | _ => none }
def dnkeyUnderRow : OpenClaim := { program := "ytpmmccmhmoihgaa", sum := "dbbf0d46459385a7e03715fdbeb951d2481629fa863b7bb7a197c939bf6bdc84", func := "toponym/toponymlaw23.DnkeyUnder", spec := "dnkeyUnder", inPlace := ["internal/bytealg.IndexByteString"], unfollowed := true, recurses := true, apart := false }
def DnkeyUnderSaid : Prop := dnkeyUnderRow.holds Try.pinned (OpenSpec.ofChange dnkeyUnderSpec)

/-- ITS FALSE NEIGHBOUR: 'it returns false'. Refute it at one input. -/
def dnkeyUnderWrong : ChangeSpec := { name := "dnkeyUnder", fn := fun _ => fun
  | [d1, d2] => { results := [.lit (.bool false)], args := [d1, d2] }
  | _ => none }
def DnkeyUnderWrongFalsely : Prop := dnkeyUnderRow.holds Try.pinned (OpenSpec.ofChange dnkeyUnderWrong)

/-- 'toponymlaw23.DnkeyBetween': WHATEVER THE INPUT: true; the input reads as it did. -/
def dnkeyBetweenSpec : ChangeSpec := { name := "dnkeyBetween", fn := fun _ => fun
  | [d1, d2, d3] => { results := [.lit (.bool true)], args := [d1, d2, d3] }
  | _ => none }
def dnkeyBetweenRow : OpenClaim := { program := "ytpmmccmhmoihgaa", sum := "dbbf0d46459385a7e03715fdbeb951d2481629fa863b7bb7a197c939bf6bdc84", func := "toponym/toponymlaw23.DnkeyBetween", spec := "dnkeyBetween", inPlace := ["internal/bytealg.IndexByteString"], unfollowed := true, recurses := true, apart := false }
def DnkeyBetweenSaid : Prop := dnkeyBetweenRow.holds Try.pinned (OpenSpec.ofChange dnkeyBetweenSpec)

/-- ITS FALSE NEIGHBOUR: 'it returns false'. Refute it at one input. -/
def dnkeyBetweenWrong : ChangeSpec := { name := "dnkeyBetween", fn := fun _ => fun
  | [d1, d2, d3] => { results := [.lit (.bool false)], args := [d1, d2, d3] }
  | _ => none }
def DnkeyBetweenWrongFalsely : Prop := dnkeyBetweenRow.holds Try.pinned (OpenSpec.ofChange dnkeyBetweenWrong)

/-- 'toponymlaw23.DnkeyMoves': WHATEVER THE INPUT: true; the input reads as it did. -/
def dnkeyMovesSpec : ChangeSpec := { name := "dnkeyMoves", fn := fun _ => fun
  | [d1, d2, d3] => { results := [.lit (.bool true)], args := [d1, d2, d3] }
  | _ => none }
def dnkeyMovesRow : OpenClaim := { program := "ytpmmccmhmoihgaa", sum := "dbbf0d46459385a7e03715fdbeb951d2481629fa863b7bb7a197c939bf6bdc84", func := "toponym/toponymlaw23.DnkeyMoves", spec := "dnkeyMoves", inPlace := ["internal/bytealg.IndexByteString"], unfollowed := true, recurses := true, apart := false }
def DnkeyMovesSaid : Prop := dnkeyMovesRow.holds Try.pinned (OpenSpec.ofChange dnkeyMovesSpec)

/-- ITS FALSE NEIGHBOUR: 'it returns false'. Refute it at one input. -/
def dnkeyMovesWrong : ChangeSpec := { name := "dnkeyMoves", fn := fun _ => fun
  | [d1, d2, d3] => { results := [.lit (.bool false)], args := [d1, d2, d3] }
  | _ => none }
def DnkeyMovesWrongFalsely : Prop := dnkeyMovesRow.holds Try.pinned (OpenSpec.ofChange dnkeyMovesWrong)

/- THE SECOND FORM. 'bulk': how many values and letters a reading holds, each counted each time it is reached (what is shared counts as often as it is met; a slice's spare places count too). A statement '..UptoSaid' is the law's where the arguments, and the package variables that the reading takes, are together of bulk at most 1048576: NARROWER than '..Said'. Prove '..Said' where nothing that the law and all that it calls make is longer than what came in: it says more and counts as full. Else prove '..UptoSaid'. A law counts once. -/
mutual
def uptoBulk {H : Type} : DataW H → Nat
  | .lit (.string bytes) => bytes.length + 1
  | .lit _ => 1
  | .nil => 1
  | .ptr d => uptoBulk d + 1
  | .slice elems spare => uptoBulkAll elems + uptoBulkAll spare + 1
  | .agg parts => uptoBulkAll parts + 1
  | .iface _ d => uptoBulk d + 1
  | .map entries => uptoBulkEntries entries + 1
  | .held _ => 1
def uptoBulkAll {H : Type} : List (DataW H) → Nat
  | [] => 0
  | d :: r => uptoBulk d + uptoBulkAll r
def uptoBulkEntries {H : Type} : List (Lit × DataW H) → Nat
  | [] => 0
  | x :: r => uptoBulkEntry x + uptoBulkEntries r
def uptoBulkEntry {H : Type} : Lit × DataW H → Nat
  | (.string bytes, d) => bytes.length + uptoBulk d + 1
  | (_, d) => uptoBulk d + 1
 end
def uptoSmall : (H : Type) → List (DataW H) → Bool := fun _ ds => decide (uptoBulkAll ds ≤ 1048576)
def OpenSpec.upto (s : _root_.Go.ChangeSpec) : _root_.Go.OpenSpec := { _root_.Go.OpenSpec.ofChange s with cond := some uptoSmall }

/-- 'toponymlaw28.TruthTable', WHERE WHAT IT READS IS OF BULK AT MOST 1048576: true; the input reads as it did. -/
def truthTableUptoRow : OpenClaim := { program := "ytpmmccmhmoihgaa", sum := "dbbf0d46459385a7e03715fdbeb951d2481629fa863b7bb7a197c939bf6bdc84", func := "toponym/toponymlaw28.TruthTable", spec := "truthTable", apart := false, narrowed := true }
def TruthTableUptoSaid : Prop := truthTableUptoRow.holds Try.pinned (OpenSpec.upto truthTableSpec)

/-- 'toponymlaw28.TruthLaws', WHERE WHAT IT READS IS OF BULK AT MOST 1048576: true; the input reads as it did. -/
def truthLawsUptoRow : OpenClaim := { program := "ytpmmccmhmoihgaa", sum := "dbbf0d46459385a7e03715fdbeb951d2481629fa863b7bb7a197c939bf6bdc84", func := "toponym/toponymlaw28.TruthLaws", spec := "truthLaws", apart := false, narrowed := true }
def TruthLawsUptoSaid : Prop := truthLawsUptoRow.holds Try.pinned (OpenSpec.upto truthLawsSpec)

/-- 'toponymlaw28.TruthParts', WHERE WHAT IT READS IS OF BULK AT MOST 1048576: true; the input reads as it did. -/
def truthPartsUptoRow : OpenClaim := { program := "ytpmmccmhmoihgaa", sum := "dbbf0d46459385a7e03715fdbeb951d2481629fa863b7bb7a197c939bf6bdc84", func := "toponym/toponymlaw28.TruthParts", spec := "truthParts", apart := false, narrowed := true }
def TruthPartsUptoSaid : Prop := truthPartsUptoRow.holds Try.pinned (OpenSpec.upto truthPartsSpec)

/-- 'toponymlaw23.DnkeyLooks', WHERE WHAT IT READS IS OF BULK AT MOST 1048576: true; the input reads as it did. -/
def dnkeyLooksUptoRow : OpenClaim := { program := "ytpmmccmhmoihgaa", sum := "dbbf0d46459385a7e03715fdbeb951d2481629fa863b7bb7a197c939bf6bdc84", func := "toponym/toponymlaw23.DnkeyLooks", spec := "dnkeyLooks", inPlace := ["internal/bytealg.IndexByteString"], unfollowed := true, recurses := true, apart := false, narrowed := true }
def DnkeyLooksUptoSaid : Prop := dnkeyLooksUptoRow.holds Try.pinned (OpenSpec.upto dnkeyLooksSpec)

/-- 'toponymlaw23.DnkeyPairs', WHERE WHAT IT READS IS OF BULK AT MOST 1048576: true; the input reads as it did. -/
def dnkeyPairsUptoRow : OpenClaim := { program := "ytpmmccmhmoihgaa", sum := "dbbf0d46459385a7e03715fdbeb951d2481629fa863b7bb7a197c939bf6bdc84", func := "toponym/toponymlaw23.DnkeyPairs", spec := "dnkeyPairs", inPlace := ["internal/bytealg.IndexByteString"], unfollowed := true, recurses := true, apart := false, narrowed := true }
def DnkeyPairsUptoSaid : Prop := dnkeyPairsUptoRow.holds Try.pinned (OpenSpec.upto dnkeyPairsSpec)

/-- 'toponymlaw23.DnkeyUnder', WHERE WHAT IT READS IS OF BULK AT MOST 1048576: true; the input reads as it did. -/
def dnkeyUnderUptoRow : OpenClaim := { program := "ytpmmccmhmoihgaa", sum := "dbbf0d46459385a7e03715fdbeb951d2481629fa863b7bb7a197c939bf6bdc84", func := "toponym/toponymlaw23.DnkeyUnder", spec := "dnkeyUnder", inPlace := ["internal/bytealg.IndexByteString"], unfollowed := true, recurses := true, apart := false, narrowed := true }
def DnkeyUnderUptoSaid : Prop := dnkeyUnderUptoRow.holds Try.pinned (OpenSpec.upto dnkeyUnderSpec)

/-- 'toponymlaw23.DnkeyBetween', WHERE WHAT IT READS IS OF BULK AT MOST 1048576: true; the input reads as it did. -/
def dnkeyBetweenUptoRow : OpenClaim := { program := "ytpmmccmhmoihgaa", sum := "dbbf0d46459385a7e03715fdbeb951d2481629fa863b7bb7a197c939bf6bdc84", func := "toponym/toponymlaw23.DnkeyBetween", spec := "dnkeyBetween", inPlace := ["internal/bytealg.IndexByteString"], unfollowed := true, recurses := true, apart := false, narrowed := true }
def DnkeyBetweenUptoSaid : Prop := dnkeyBetweenUptoRow.holds Try.pinned (OpenSpec.upto dnkeyBetweenSpec)

/-- 'toponymlaw23.DnkeyMoves', WHERE WHAT IT READS IS OF BULK AT MOST 1048576: true; the input reads as it did. -/
def dnkeyMovesUptoRow : OpenClaim := { program := "ytpmmccmhmoihgaa", sum := "dbbf0d46459385a7e03715fdbeb951d2481629fa863b7bb7a197c939bf6bdc84", func := "toponym/toponymlaw23.DnkeyMoves", spec := "dnkeyMoves", inPlace := ["internal/bytealg.IndexByteString"], unfollowed := true, recurses := true, apart := false, narrowed := true }
def DnkeyMovesUptoSaid : Prop := dnkeyMovesUptoRow.holds Try.pinned (OpenSpec.upto dnkeyMovesSpec)

end Rows
end Go.Proofs.Ytpmmccmhmoihgaa
