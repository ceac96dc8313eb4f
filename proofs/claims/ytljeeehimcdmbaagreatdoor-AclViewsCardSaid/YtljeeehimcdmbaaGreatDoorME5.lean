/- AclViews: a part of its proof. No condition. -/
import Derived.Test.YtljeeehimcdmbaaGreatDoorME2
set_option maxRecDepth 100000
namespace Go.Proofs.YtljeeehimcdmbaaGreatDoor
open Go Go.E Go.RowKit
theorem run31 (w : World) : runClosed (cx0 w) 3000 10 = true := by kernel_rfl
theorem awake31 (w : World) : Calls Tryz.prog 10 #[] w fun en w' => en = .returned (.bool true) ∧ Below w.heap.size w w' :=
  closed_ok (cx := cx0 w) (sound0 w) rfl (m := 3000) (f := 10) (run31 w) (by kernel_rfl)
#print axioms awake31
end Go.Proofs.YtljeeehimcdmbaaGreatDoor
