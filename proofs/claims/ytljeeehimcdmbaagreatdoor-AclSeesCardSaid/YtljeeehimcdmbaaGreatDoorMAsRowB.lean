/- AclSees: the row and its tied card. No condition. -/
import Derived.Test.YtljeeehimcdmbaaGreatDoorMAsRowA
import Derived.Test.YtljeeehimcdmbaaGreatDoorMAsRowF
namespace Go.Proofs.YtljeeehimcdmbaaGreatDoor.aclSees
set_option maxRecDepth 100000
theorem km : Tryz.prog.mainIs = some (((true, "932440f92834f9bba356feccadd49f6299bdeb55c4c88782eb212825a8d23690") : Bool × String).1, ((true, "932440f92834f9bba356feccadd49f6299bdeb55c4c88782eb212825a8d23690") : Bool × String).2.toList) := by kernel_rfl
theorem kin : Tryz.f4.isInstance Tryz.prog Rows.aclSeesRow.origin Rows.aclSeesRow.targs := of_decide_eq_true (by kernel_rfl)
theorem kwr : Tryz.f4.isWrapper Tryz.prog Rows.aclSeesRow.wrapper Rows.aclSeesRow.mainSum := by unfold Func.isWrapper; first | (rw [if_pos (by decide +kernel)]; kernel_rfl) | (rw [if_neg (by decide +kernel)]; exact ⟨rfl, rfl⟩)
theorem over : Rows.AclSeesSaid :=
  OpenClaim.holds_of_wide 4 Tryz.f4 rfl rfl rfl rfl rfl rfl rfl ⟨rfl, rfl, rfl, rfl, rfl⟩ rfl rfl rfl rfl rfl kfn Tryz.func4 closedFacts kin kwr (fun os started H enc _ => lifted os started H enc)
theorem proved : Rows.AclSeesCardSaid :=
  Claim7.holds_tied_plain_at .later [] [.data, .data, .data, .data, .sentinel, .sentinel, .pinned] true (true, "932440f92834f9bba356feccadd49f6299bdeb55c4c88782eb212825a8d23690") true
    over (fun _ h => by cases h) kw (fun _ h => by cases h) aclSees_row_tie rfl ⟨rfl, rfl⟩ km rfl
    (fun f fn hf hfn => by
      obtain rfl : f = 4 := Option.some.inj (kfn.symm.trans hf) |>.symm
      obtain rfl : fn = Tryz.f4 := (Option.some.inj (Tryz.func4.symm.trans hfn)).symm
      exact ⟨kl, fun j t ht => by
        have hm := Array.mem_of_getElem? ht
        exact (show Tryz.prog.wantsStandIn t = false by simpa using List.all_eq_true.1 kst t (by simpa using hm))⟩)
    kg
#print axioms proved
end Go.Proofs.YtljeeehimcdmbaaGreatDoor.aclSees
