/- The walk of toponymlaw31.AclViews, from what reads as data. No condition. -/
import Derived.Test.YtljeeehimcdmbaaGreatDoorMGreatDoorVw6
import Derived.Test.YtljeeehimcdmbaaGreatDoorMGreatDoorVw7
set_option maxRecDepth 100000
namespace Go.Proofs.YtljeeehimcdmbaaGreatDoor.aclViews
open Go.RowKit Go.Wd Go.Dir
theorem walk {H : Type} {enc : TypeId × Value → H} (W : World) (base : Nat) (v0 v1 v2 : Value) (o0 : Value.okWide Tryz.prog W .any base 25 v0) (o1 : Value.okWide Tryz.prog W .any base 26 v1) (o2 : Value.okWide Tryz.prog W .any base 44 v2) {d0 d1 d2 : DataW H} {p0 p1 p2 : List MemPlace}
    (h0 : DataW.Trod enc Tryz.prog W 0 (fun _ => true) true 25 v0 d0 p0) (h1 : DataW.Trod enc Tryz.prog W 0 (fun _ => true) true 26 v1 d1 p1) (h2 : DataW.Trod enc Tryz.prog W 0 (fun _ => true) true 44 v2 d2 p2) :
    Calls Tryz.prog 6 #[v0, v1, v2] W fun e w' => e = .returned (.bool true) ∧ Below W.heap.size W w' := by
  obtain ⟨l, cs, gs, x0, x1, ⟨nh, ah⟩, who, key, attr, kind, rfl, rfl, hA, hC, hG, hE⟩ := sight.reads W base v0 v1 v2 o0 o1 o2 h0 h1 h2
  exact views_any awake31 l cs x0 x1 v1 gs nh ah who key attr kind W hA hC hG hE
end Go.Proofs.YtljeeehimcdmbaaGreatDoor.aclViews
