/- AclViews: the row and its tied card. No condition. -/
import Derived.Test.YtljeeehimcdmbaaGreatDoorMAvRowA
import Derived.Test.YtljeeehimcdmbaaGreatDoorMAvRowF
namespace Go.Proofs.YtljeeehimcdmbaaGreatDoor.aclViews
set_option maxRecDepth 100000
theorem km : Tryz.prog.mainIs = some (((true, "932440f92834f9bba356feccadd49f6299bdeb55c4c88782eb212825a8d23690") : Bool × String).1, ((true, "932440f92834f9bba356feccadd49f6299bdeb55c4c88782eb212825a8d23690") : Bool × String).2.toList) := by kernel_rfl
theorem kin : Tryz.f6.isInstance Tryz.prog Rows.aclViewsRow.origin Rows.aclViewsRow.targs := of_decide_eq_true (by kernel_rfl)
theorem kwr : Tryz.f6.isWrapper Tryz.prog Rows.aclViewsRow.wrapper Rows.aclViewsRow.mainSum := by unfold Func.isWrapper; first | (rw [if_pos (by decide +kernel)]; kernel_rfl) | (rw [if_neg (by decide +kernel)]; exact ⟨rfl, rfl⟩)
theorem over : Rows.AclViewsSaid :=
  OpenClaim.holds_of_wide 6 Tryz.f6 rfl rfl rfl rfl rfl rfl rfl ⟨rfl, rfl, rfl, rfl, rfl⟩ rfl rfl rfl rfl rfl kfn Tryz.func6 closedFacts kin kwr (fun os started H enc _ => lifted os started H enc)
theorem proved : Rows.AclViewsCardSaid :=
  Claim7.holds_tied_plain_at .later [] [.data, .data, .data, .data, .sentinel, .sentinel, .pinned] true (true, "932440f92834f9bba356feccadd49f6299bdeb55c4c88782eb212825a8d23690") true
    over (fun _ h => by cases h) kw (fun _ h => by cases h) aclViews_row_tie rfl ⟨rfl, rfl⟩ km rfl
    (fun f fn hf hfn => by
      obtain rfl : f = 6 := Option.some.inj (kfn.symm.trans hf) |>.symm
      obtain rfl : fn = Tryz.f6 := (Option.some.inj (Tryz.func6.symm.trans hfn)).symm
      exact ⟨kl, fun j t ht => by
        have hm := Array.mem_of_getElem? ht
        exact (show Tryz.prog.wantsStandIn t = false by simpa using List.all_eq_true.1 kst t (by simpa using hm))⟩)
    kg
#print axioms proved
end Go.Proofs.YtljeeehimcdmbaaGreatDoor.aclViews
