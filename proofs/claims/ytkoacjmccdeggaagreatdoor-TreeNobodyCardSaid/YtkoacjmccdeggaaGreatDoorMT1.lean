/- TreeNobody: a part of its proof. No condition. -/
import Derived.Test.YtkoacjmccdeggaaGreatDoorME2
import Derived.Test.YtkoacjmccdeggaaGreatDoorEv3
set_option maxRecDepth 100000
namespace Go.Proofs.YtkoacjmccdeggaaGreatDoor.treeNobody
open Go Go.E
def actR (k : RV) : List RV:=[k,.opq 1 1,.opq 0 2,.opq 0 3]
def attrC : List RV:=[.str [99,108,115],.str [],.int .i64 9,.int .i64 9,.bool false,.bool false,.str [99,110],.str [],.int .i64 1,.int .i64 2,.bool false,.bool false]
def mustC : List RV:=[.str [99,108,115],.str [99,110]]
def clsC : List RV:=[.str [116,104,105,110,103],.str [],.bool false]
noncomputable def fewT (kc : RV) (B : Bool) : List RV→Hp→Option RV:=fun xs h => match xs with
 | [.agg [.sl b1 0 2 2 true,.sl b2 0 1 1 true],.sl b 0 1 1 true] => bnd (loadC h b1 0 12) fun c1 => bnd (loadC h b2 0 5) fun c2 => match c2 with
   | [.str n,.str m,.bool ab,.sl b3 0 2 2 true,.nils] => bnd (loadC h b3 0 2) fun c3 => bnd (loadC h b 0 4) fun cs => match cs with
     | [kk,.opq 1 1,.opq 0 2,.opq 0 3] => ifB (eqFs c1 attrC) (ifB (eqFs c3 mustC) (ifB (eqFs [.str n,.str m,.bool ab] clsC) (ifB (sameV kk kc) (some (.bool B)) none) none) none) none
     | _ => none
   | _ => none
 | _ => none
noncomputable def awakeT : List RV→Hp→Option RV:=fun xs _ => match xs with
 | [] => some (.bool true)
 | _ => none
noncomputable def T2 (kc : RV) (B : Bool) : Tr (List RV→Hp→Option RV):=((((Tr.nil.set (fewT kc B) (toPs 21)).getD .nil)).set awakeT (toPs 23)).getD .nil
theorem run0 (w : World) (v : Nat→Value) : answer ((run (cxT (T2 (.int .i64 0) true) w v) 3000).call (.fn 5 [] []) [.agg (actR (.int .i64 0)),.opq 2 4] ⟨.nil,.h,[]⟩) = true:=by kernel_rfl
theorem run1 (w : World) (v : Nat→Value) : answer ((run (cxT (T2 (.int .i64 1) true) w v) 3000).call (.fn 5 [] []) [.agg (actR (.int .i64 1)),.opq 2 4] ⟨.nil,.h,[]⟩) = true:=by kernel_rfl
theorem run2 (w : World) (v : Nat→Value) : answer ((run (cxT (T2 (.int .i64 2) true) w v) 3000).call (.fn 5 [] []) [.agg (actR (.int .i64 2)),.opq 2 4] ⟨.nil,.h,[]⟩) = true:=by kernel_rfl
theorem run3 (w : World) (v : Nat→Value) : answer ((run (cxT (T2 (.int .i64 3) true) w v) 3000).call (.fn 5 [] []) [.agg (actR (.int .i64 3)),.opq 2 4] ⟨.nil,.h,[]⟩) = true:=by kernel_rfl
theorem runN (w : World) (v : Nat→Value) : answer ((run (cxT (T2 (.opq 3 0) true) w v) 3000).call (.fn 5 [] []) [.agg (actR (.opq 3 0)),.opq 2 4] ⟨.nil,.h,[]⟩) = true:=by kernel_rfl
theorem runM (w : World) (v : Nat→Value) : answer ((run (cxT (T2 (.opq 12 0) true) w v) 3000).call (.fn 5 [] []) [.agg (actR (.opq 12 0)),.opq 2 4] ⟨.nil,.h,[]⟩) = true:=by kernel_rfl
theorem runF (w : World) (v : Nat→Value) : answer ((run (cxT (T2 (.opq 2 0) false) w v) 3000).call (.fn 5 [] []) [.agg (actR (.opq 2 0)),.opq 2 4] ⟨.nil,.h,[]⟩) = true:=by kernel_rfl
theorem txt (T : Tr (List RV→Hp→Option RV)) (w : World) (v : Nat→Value) : textFn (cxT T w v) (.fn 5 [] []) = true:=by kernel_rfl
theorem txt21 (T : Tr (List RV→Hp→Option RV)) (w : World) (v : Nat→Value) : textFn (cxT T w v) (.fn 21 [] []) = true:=by kernel_rfl
theorem txt23 (T : Tr (List RV→Hp→Option RV)) (w : World) (v : Nat→Value) : textFn (cxT T w v) (.fn 23 [] []) = true:=by kernel_rfl
#print axioms run0
end Go.Proofs.YtkoacjmccdeggaaGreatDoor.treeNobody
