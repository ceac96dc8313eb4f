/- PlanNobody: the row and its tied card. No condition. -/
import Derived.Test.YtklbbnlhhfadcaaGreatDoorMRowA
import Derived.Test.YtklbbnlhhfadcaaGreatDoorMRowF
namespace Go.Proofs.YtklbbnlhhfadcaaGreatDoor.planNobody
set_option maxRecDepth 100000
theorem km : Tryz.prog.mainIs = some (((true, "7d41d0466a83e4ed52144751e7008a5ea52f870e7d175cc71ac7e81957080b3d") : Bool × String).1, ((true, "7d41d0466a83e4ed52144751e7008a5ea52f870e7d175cc71ac7e81957080b3d") : Bool × String).2.toList) := by kernel_rfl
theorem kin : Tryz.f3.isInstance Tryz.prog Rows.planNobodyRow.origin Rows.planNobodyRow.targs := of_decide_eq_true (by kernel_rfl)
theorem kwr : Tryz.f3.isWrapper Tryz.prog Rows.planNobodyRow.wrapper Rows.planNobodyRow.mainSum := by unfold Func.isWrapper; first | (rw [if_pos (by decide +kernel)]; kernel_rfl) | (rw [if_neg (by decide +kernel)]; exact ⟨rfl, rfl⟩)
theorem over : Rows.PlanNobodySaid :=
  OpenClaim.holds_of_wide 3 Tryz.f3 rfl rfl rfl rfl rfl rfl rfl ⟨rfl, rfl, rfl, rfl, rfl⟩ rfl rfl rfl rfl rfl kfn Tryz.func3 closedFacts kin kwr (fun os started H enc _ => lifted os started H enc)
theorem proved : Rows.PlanNobodyCardSaid :=
  Claim7.holds_tied_plain_at .later [] [.data, .data, .data, .data, .sentinel, .sentinel, .pinned] true (true, "7d41d0466a83e4ed52144751e7008a5ea52f870e7d175cc71ac7e81957080b3d") true
    over (fun _ h => by cases h) kw (fun _ h => by cases h) planNobody_row_tie rfl ⟨rfl, rfl⟩ km rfl
    (fun f fn hf hfn => by
      obtain rfl : f = 3 := Option.some.inj (kfn.symm.trans hf) |>.symm
      obtain rfl : fn = Tryz.f3 := (Option.some.inj (Tryz.func3.symm.trans hfn)).symm
      exact ⟨kl, fun j t ht => by
        have hm := Array.mem_of_getElem? ht
        exact (show Tryz.prog.wantsStandIn t = false by simpa using List.all_eq_true.1 kst t (by simpa using hm))⟩)
    kg
#print axioms proved
end Go.Proofs.YtklbbnlhhfadcaaGreatDoor.planNobody
