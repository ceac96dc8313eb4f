/- TreeNobody: a part of its proof. No condition. -/
import Derived.Test.YtkoacjmccdeggaaGreatDoorME2
import Derived.Test.YtkoacjmccdeggaaGreatDoorEv3
set_option maxRecDepth 100000
namespace Go.Proofs.YtkoacjmccdeggaaGreatDoor
open Go Go.E Go.RowKit
def attrC : List RV:=[.str [99,108,115],.str [],.int .i64 9,.int .i64 9,.bool false,.bool false,.str [99,110],.str [],.int .i64 1,.int .i64 2,.bool false,.bool false]
theorem chk (w : World) : ansV ((run (cx0 w) 3000).call (.fn 76 [] []) [.sl .h 0 2 2 false] (rowH attrC 86)) (.int .i64 0) = true:=by kernel_rfl
noncomputable def T76 : Tr (List RV→Hp→Option RV):=(Tr.nil.set (rowT 2 12 86 attrC (.int .i64 0)) (toPs 76)).getD .nil
theorem known76 (w : World) : KnownOk Tryz.prog (cxT T76 w (fun _ => .nilFunc)) w.heap.size:=by
 intro f xs h v hv g w' XS H hxs
 obtain ⟨t,h1,h2⟩:=bnd_inv hv
 have h3 : T76.get (toPs f) = some t:=h1
 unfold T76 at h3
 cases e : Tr.nil.set (rowT 2 12 86 attrC (.int .i64 0)) (toPs 76) with
 | none => rw [e] at h3; cases h3
 | some t' =>
   rw [e] at h3
   have h4 : t'.get (toPs f) = some t:=h3
   rw [Tr.set_ok e] at h4
   split at h4
   · rename_i hq
     have:=toPs_inj hq
     subst this
     rw [← Option.some.inj h4] at h2
     refine ⟨?_,row_known (cxw:=cx0) (fun _ => rfl) (fun _ => rfl) sound0 (by decide) chk (fun w => by kernel_rfl) rfl h2 H hxs⟩
     have ht : textFn (cxT T76 w (fun _ => .nilFunc)) (.fn 76 [] []) = true:=by kernel_rfl
     obtain ⟨fn,mk,code,t1,t2⟩:=textFn_inv ht
     exact ⟨fn,mk,code,t1,t2⟩
   · cases h4
theorem run32 (w : World) : runClosed (cxT T76 w (fun _ => .nilFunc)) 3000 23 = true:=by kernel_rfl
theorem awake32 (w : World) : Calls Tryz.prog 23 #[] w fun en w' => en = .returned (.bool true)∧Below w.heap.size w w':=
 closed_ok (cx:=cxT T76 w (fun _ => .nilFunc)) (sound _ w _ (known76 w)) rfl (m:=3000) (f:=23) (run32 w) (by kernel_rfl)
#print axioms awake32
end Go.Proofs.YtkoacjmccdeggaaGreatDoor
