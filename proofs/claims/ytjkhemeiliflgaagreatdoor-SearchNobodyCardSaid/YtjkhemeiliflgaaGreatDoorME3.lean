/- The law's runs, a case each. No condition. -/
import Derived.Test.YtjkhemeiliflgaaGreatDoorME2
import Derived.Test.YtjkhemeiliflgaaGreatDoorEv4
set_option maxRecDepth 100000
namespace Go.Proofs.YtjkhemeiliflgaaGreatDoor.searchNobody
open Go Go.E Go.RowKit
noncomputable def nums : List RV → Option (List Nat)
  | [] => some []
  | v :: l => match v with
    | .opq _ n => bnd (nums l) fun r => some (n :: r)
    | .ops n _ => bnd (nums l) fun r => some (n :: r)
    | _ => none
noncomputable def evens : Nat → Nat → List Nat
  | _, 0 => []
  | k, n + 1 => k :: evens (Nat.add k 2) n
noncomputable def reqT (a n : Nat) (v : RV) : List RV → Hp → Option RV := fun xs _ => match xs with
  | [.agg l] => bnd (nums l) fun ns => ifB (eqL ns (evens a n)) (some v) none
  | _ => none
noncomputable def leftT (a n : Nat) (v : RV) : List RV → Hp → Option RV := fun xs _ => match xs with
  | [.agg l, .int k z] => bnd (nums l) fun ns => ifB (eqL ns (evens a n)) (ifB (kEq k .i64) (ifB (eqI z 70) (some v) none) none) none
  | _ => none
noncomputable def awakeT : List RV → Hp → Option RV := fun xs _ => match xs with
  | [] => some (.bool true)
  | _ => none
noncomputable def T0 (b : Bool) (q : Nat) (s : Bool) : Tr (List RV → Hp → Option RV) := ((((((((Tr.nil.set (reqT 2 30 (.bool b)) (toPs 10)).getD .nil).set (leftT 20 11 (.opq q 200)) (toPs 32)).getD .nil).set (reqT 20 11 (.bool s)) (toPs 71)).getD .nil)).set awakeT (toPs 5)).getD .nil
def argR (n d a p : RV) : List RV := [.opq 1 0, .opq 2 2, .opq 0 4, n, .opq 0 8, .opq 0 10, .opq 0 12, .opq 0 14, .opq 0 16, .opq 0 18, .opq 0 20, .opq 0 22, .opq 0 24, .opq 0 26, .opq 0 28, .opq 0 30, .opq 0 32, .opq 0 34, .opq 0 36, .opq 0 38, .opq 0 40, .opq 0 42, .opq 0 44, .opq 0 46, d, .opq 0 50, a, .opq 0 54, .opq 0 56, p, .opq 0 60]
def restR : List RV := [.agg [.opq 0 100, .opq 0 102]]
theorem run0 (w : World) (v : Nat → Value) (s : Bool) : answer ((run (cxT (T0 false 2 s) w v) 3000).call (.fn 3 [] []) (.agg (argR (.opq 1 6) (.opq 1 48) (.opq 1 52) (.opq 1 58)) :: restR) ⟨.nil, .h, []⟩) = true := by kernel_rfl
theorem run1 (w : World) (v : Nat → Value) (s : Bool) : answer ((run (cxT (T0 true 2 s) w v) 3000).call (.fn 3 [] []) (.agg (argR (.ops 6 [[1506]]) (.opq 1 48) (.opq 1 52) (.opq 1 58)) :: restR) ⟨.nil, .h, []⟩) = true := by kernel_rfl
theorem run2 (w : World) (v : Nat → Value) (s : Bool) : answer ((run (cxT (T0 true 2 s) w v) 3000).call (.fn 3 [] []) (.agg (argR (.ops 6 [[1505]]) (.ops 48 [[1506]]) (.opq 1 52) (.opq 1 58)) :: restR) ⟨.nil, .h, []⟩) = true := by kernel_rfl
theorem run3 (w : World) (v : Nat → Value) (s : Bool) : answer ((run (cxT (T0 true 2 s) w v) 3000).call (.fn 3 [] []) (.agg (argR (.ops 6 [[1505]]) (.ops 48 [[1505]]) (.ops 52 [[1506]]) (.opq 1 58)) :: restR) ⟨.nil, .h, []⟩) = true := by kernel_rfl
theorem run4 (w : World) (v : Nat → Value) (s : Bool) : answer ((run (cxT (T0 true 2 s) w v) 3000).call (.fn 3 [] []) (.agg (argR (.ops 6 [[1505]]) (.ops 48 [[1505]]) (.ops 52 [[1505]]) (.ops 58 [[1306]])) :: restR) ⟨.nil, .h, []⟩) = true := by kernel_rfl
theorem run5 (w : World) (v : Nat → Value) (s : Bool) : answer ((run (cxT (T0 true 3 s) w v) 3000).call (.fn 3 [] []) (.agg (argR (.ops 6 [[1505]]) (.ops 48 [[1505]]) (.ops 52 [[1505]]) (.ops 58 [[1305]])) :: restR) ⟨.nil, .h, []⟩) = true := by kernel_rfl
theorem run6 (w : World) (v : Nat → Value) (s : Bool) : answer ((run (cxT (T0 true 4 false) w v) 3000).call (.fn 3 [] []) (.agg (argR (.ops 6 [[1505]]) (.ops 48 [[1505]]) (.ops 52 [[1505]]) (.ops 58 [[1305]])) :: restR) ⟨.nil, .h, []⟩) = true := by kernel_rfl
theorem run7 (w : World) (v : Nat → Value) (s : Bool) : answer ((run (cxT (T0 true 4 true) w v) 3000).call (.fn 3 [] []) (.agg (argR (.ops 6 [[1505]]) (.ops 48 [[1505]]) (.ops 52 [[1505]]) (.ops 58 [[1305]])) :: restR) ⟨.nil, .h, []⟩) = true := by kernel_rfl
theorem txtL (T : Tr (List RV → Hp → Option RV)) (w : World) (v : Nat → Value) : textFn (cxT T w v) (.fn 3 [] []) = true := by kernel_rfl
theorem txt26 (T : Tr (List RV → Hp → Option RV)) (w : World) (v : Nat → Value) : textFn (cxT T w v) (.fn 10 [] []) = true := by kernel_rfl
theorem txt24 (T : Tr (List RV → Hp → Option RV)) (w : World) (v : Nat → Value) : textFn (cxT T w v) (.fn 32 [] []) = true := by kernel_rfl
theorem txt29 (T : Tr (List RV → Hp → Option RV)) (w : World) (v : Nat → Value) : textFn (cxT T w v) (.fn 71 [] []) = true := by kernel_rfl
theorem txtA (T : Tr (List RV → Hp → Option RV)) (w : World) (v : Nat → Value) : textFn (cxT T w v) (.fn 5 [] []) = true := by kernel_rfl
#print axioms run0
end Go.Proofs.YtjkhemeiliflgaaGreatDoor.searchNobody
