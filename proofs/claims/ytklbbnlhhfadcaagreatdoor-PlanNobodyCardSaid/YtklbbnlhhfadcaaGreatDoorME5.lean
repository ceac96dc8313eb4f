/- PlanNobody: a part of its proof. No condition. -/
import Derived.Test.YtklbbnlhhfadcaaGreatDoorME2
import Derived.Test.YtklbbnlhhfadcaaGreatDoorEv4
set_option maxRecDepth 100000
namespace Go.Proofs.YtklbbnlhhfadcaaGreatDoor
open Go Go.E Go.RowKit
def attrC : List RV := [.str [99, 108, 115], .str [], .int .i64 9, .int .i64 9, .bool false, .bool false, .str [99, 110], .str [], .int .i64 1, .int .i64 2, .bool false, .bool false]
theorem chk (w : World) : ansV ((run (cx0 w) 3000).call (.fn 73 [] []) [.sl .h 0 2 2 false] (rowH attrC 69)) (.int .i64 0) = true := by kernel_rfl
noncomputable def TC : Tr (List RV → Hp → Option RV) := (Tr.nil.set (rowT 2 12 69 attrC (.int .i64 0)) (toPs 73)).getD .nil
theorem knownC (w : World) : KnownOk Tryz.prog (cxT TC w (fun _ => .nilFunc)) w.heap.size := by
  intro f xs h v hv g w' XS H hxs
  obtain ⟨t, h1, h2⟩ := bnd_inv hv
  have h3 : TC.get (toPs f) = some t := h1
  unfold TC at h3
  cases e : Tr.nil.set (rowT 2 12 69 attrC (.int .i64 0)) (toPs 73) with
  | none => rw [e] at h3; cases h3
  | some t' =>
    rw [e] at h3
    have h4 : t'.get (toPs f) = some t := h3
    rw [Tr.set_ok e] at h4
    split at h4
    · rename_i hq
      have := toPs_inj hq
      subst this
      rw [← Option.some.inj h4] at h2
      refine ⟨?_, row_known (cxw := cx0) (fun _ => rfl) (fun _ => rfl) sound0 (by decide) chk (fun w => by kernel_rfl) rfl h2 H hxs⟩
      have ht : textFn (cxT TC w (fun _ => .nilFunc)) (.fn 73 [] []) = true := by kernel_rfl
      obtain ⟨fn, mk, code, t1, t2⟩ := textFn_inv ht
      exact ⟨fn, mk, code, t1, t2⟩
    · cases h4
theorem run34 (w : World) : runClosed (cxT TC w (fun _ => .nilFunc)) 3000 6 = true := by kernel_rfl
theorem awake34 (w : World) : Calls Tryz.prog 6 #[] w fun en w' => en = .returned (.bool true) ∧ Below w.heap.size w w' :=
  closed_ok (cx := cxT TC w (fun _ => .nilFunc)) (sound _ w _ (knownC w)) rfl (m := 3000) (f := 6) (run34 w) (by kernel_rfl)
#print axioms awake34
end Go.Proofs.YtklbbnlhhfadcaaGreatDoor
