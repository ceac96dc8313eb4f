/- The law's runs, a case each. No condition. -/
import Derived.Test.YtklbbnlhhfadcaaGreatDoorME2
import Derived.Test.YtklbbnlhhfadcaaGreatDoorEv4
set_option maxRecDepth 100000
namespace Go.Proofs.YtklbbnlhhfadcaaGreatDoor.planNobody
open Go Go.E Go.RowKit
noncomputable def nums : List RV → Option (List Nat)
  | [] => some []
  | v :: l => match v with
    | .opq _ n => bnd (nums l) fun r => some (n :: r)
    | .ops n _ => bnd (nums l) fun r => some (n :: r)
    | _ => none
noncomputable def evens : Nat → Nat → List Nat
  | _, 0 => []
  | k, n + 1 => k :: evens (Nat.add k 2) n
noncomputable def reqT (a n : Nat) (v : RV) : List RV → Hp → Option RV := fun xs _ => match xs with
  | [.agg l] => bnd (nums l) fun ns => ifB (eqL ns (evens a n)) (some v) none
  | _ => none
noncomputable def leftT (a n : Nat) (v : RV) : List RV → Hp → Option RV := fun xs _ => match xs with
  | [.agg l, .int k z] => bnd (nums l) fun ns => ifB (eqL ns (evens a n)) (ifB (kEq k .i64) (ifB (eqI z 70) (some v) none) none) none
  | _ => none
noncomputable def awakeT : List RV → Hp → Option RV := fun xs _ => match xs with
  | [] => some (.bool true)
  | _ => none
noncomputable def T0 (b : Bool) (q : Nat) (s : Bool) : Tr (List RV → Hp → Option RV) := ((((((((Tr.nil.set (reqT 4 2 (.bool b)) (toPs 32)).getD .nil).set (leftT 104 11 (.opq q 200)) (toPs 14)).getD .nil).set (reqT 104 11 (.bool s)) (toPs 34)).getD .nil)).set awakeT (toPs 6)).getD .nil
def argR (kc k : RV) : List RV := [kc, k, .opq 0 4, .opq 0 6]
def restR (y : RV) : List RV := [y, .opq 2 102, .opq 0 104, .opq 0 106, .opq 0 108, .opq 0 110, .opq 0 112, .opq 0 114, .opq 0 116, .opq 0 118, .opq 0 120, .opq 0 122, .opq 0 124]
theorem run0 (w : World) (v : Nat → Value) (s : Bool) : answer ((run (cxT (T0 false 2 s) w v) 3000).call (.fn 3 [] []) [.agg (argR (.opq 2 0) (.opq 1 2)), .agg (restR (.opq 1 100))] ⟨.nil, .h, []⟩) = true := by kernel_rfl
theorem run1 (w : World) (v : Nat → Value) (s : Bool) : answer ((run (cxT (T0 true 2 s) w v) 3000).call (.fn 3 [] []) [.agg (argR (.opq 2 0) (.ops 2 [[7006]])), .agg (restR (.opq 1 100))] ⟨.nil, .h, []⟩) = true := by kernel_rfl
theorem run2 (w : World) (v : Nat → Value) (s : Bool) : answer ((run (cxT (T0 true 2 s) w v) 3000).call (.fn 3 [] []) [.agg (argR (.opq 2 0) (.ops 2 [[7005]])), .agg (restR (.ops 100 [[7006]]))] ⟨.nil, .h, []⟩) = true := by kernel_rfl
theorem run3 (w : World) (v : Nat → Value) (s : Bool) : answer ((run (cxT (T0 true 3 s) w v) 3000).call (.fn 3 [] []) [.agg (argR (.opq 2 0) (.ops 2 [[7005]])), .agg (restR (.ops 100 [[7005]]))] ⟨.nil, .h, []⟩) = true := by kernel_rfl
theorem run4 (w : World) (v : Nat → Value) (s : Bool) : answer ((run (cxT (T0 true 4 false) w v) 3000).call (.fn 3 [] []) [.agg (argR (.opq 2 0) (.ops 2 [[7005]])), .agg (restR (.ops 100 [[7005]]))] ⟨.nil, .h, []⟩) = true := by kernel_rfl
theorem run5N (w : World) (v : Nat → Value) (s : Bool) : answer ((run (cxT (T0 true 4 true) w v) 3000).call (.fn 3 [] []) [.agg (argR (.opq 3 0) (.ops 2 [[7005]])), .agg (restR (.ops 100 [[7005]]))] ⟨.nil, .h, []⟩) = true := by kernel_rfl
theorem run50 (w : World) (v : Nat → Value) (s : Bool) : answer ((run (cxT (T0 true 4 true) w v) 3000).call (.fn 3 [] []) [.agg (argR (.int .i64 0) (.ops 2 [[7005]])), .agg (restR (.ops 100 [[7005]]))] ⟨.nil, .h, []⟩) = true := by kernel_rfl
theorem run51 (w : World) (v : Nat → Value) (s : Bool) : answer ((run (cxT (T0 true 4 true) w v) 3000).call (.fn 3 [] []) [.agg (argR (.int .i64 1) (.ops 2 [[7005]])), .agg (restR (.ops 100 [[7005]]))] ⟨.nil, .h, []⟩) = true := by kernel_rfl
theorem run52 (w : World) (v : Nat → Value) (s : Bool) : answer ((run (cxT (T0 true 4 true) w v) 3000).call (.fn 3 [] []) [.agg (argR (.int .i64 2) (.ops 2 [[7005]])), .agg (restR (.ops 100 [[7005]]))] ⟨.nil, .h, []⟩) = true := by kernel_rfl
theorem run53 (w : World) (v : Nat → Value) (s : Bool) : answer ((run (cxT (T0 true 4 true) w v) 3000).call (.fn 3 [] []) [.agg (argR (.int .i64 3) (.ops 2 [[7005]])), .agg (restR (.ops 100 [[7005]]))] ⟨.nil, .h, []⟩) = true := by kernel_rfl
theorem run5M (w : World) (v : Nat → Value) (s : Bool) : answer ((run (cxT (T0 true 4 true) w v) 3000).call (.fn 3 [] []) [.agg (argR (.opq 12 0) (.ops 2 [[7005]])), .agg (restR (.ops 100 [[7005]]))] ⟨.nil, .h, []⟩) = true := by kernel_rfl
theorem txtL (T : Tr (List RV → Hp → Option RV)) (w : World) (v : Nat → Value) : textFn (cxT T w v) (.fn 3 [] []) = true := by kernel_rfl
theorem txt26 (T : Tr (List RV → Hp → Option RV)) (w : World) (v : Nat → Value) : textFn (cxT T w v) (.fn 32 [] []) = true := by kernel_rfl
theorem txt24 (T : Tr (List RV → Hp → Option RV)) (w : World) (v : Nat → Value) : textFn (cxT T w v) (.fn 14 [] []) = true := by kernel_rfl
theorem txt29 (T : Tr (List RV → Hp → Option RV)) (w : World) (v : Nat → Value) : textFn (cxT T w v) (.fn 34 [] []) = true := by kernel_rfl
theorem txtA (T : Tr (List RV → Hp → Option RV)) (w : World) (v : Nat → Value) : textFn (cxT T w v) (.fn 6 [] []) = true := by kernel_rfl
end Go.Proofs.YtklbbnlhhfadcaaGreatDoor.planNobody
