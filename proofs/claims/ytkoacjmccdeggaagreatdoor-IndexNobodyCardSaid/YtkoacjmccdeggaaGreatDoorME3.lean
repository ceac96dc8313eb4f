/- IndexNobody: a part of its proof. No condition. -/
import Derived.Test.YtkoacjmccdeggaaGreatDoorME2
set_option maxRecDepth 100000
namespace Go.Proofs.YtkoacjmccdeggaaGreatDoor
open Go Go.E
def actR (d : Bool) : List RV := [.bool d, .opq 1 0, .opq 0 1, .opq 0 2]
def askR : List RV := [.opq 1 3, .opq 1 4, .opq 1 5]
/-- What is known of 'few' at these two: its answer. -/
noncomputable def fewT (d B : Bool) : List RV → Hp → Option RV := fun xs h => match xs with
  | [.agg [.nils, .nils, .nils], .sl b 0 1 1 true, .agg [.opq 1 3, .opq 1 4, .opq 1 5]] => bnd (loadC h b 0 4) fun cs => match cs with
    | [.bool e, .opq 1 0, .opq 0 1, .opq 0 2] => match d, e with
      | true, true => some (.bool B)
      | false, false => some (.bool B)
      | _, _ => none
    | _ => none
  | _ => none
noncomputable def T6 (d B : Bool) : Tr (List RV → Hp → Option RV) := (Tr.nil.set (fewT d B) (toPs 6)).getD .nil
theorem ff (w : World) (v : Nat → Value) : answer ((run (cxT (T6 false false) w v) 3000).call (.fn 3 [] []) [.agg (actR false), .agg askR] ⟨.nil, .h, []⟩) = true := by kernel_rfl
theorem ft (w : World) (v : Nat → Value) : answer ((run (cxT (T6 false true) w v) 3000).call (.fn 3 [] []) [.agg (actR false), .agg askR] ⟨.nil, .h, []⟩) = true := by kernel_rfl
theorem tf (w : World) (v : Nat → Value) : answer ((run (cxT (T6 true false) w v) 3000).call (.fn 3 [] []) [.agg (actR true), .agg askR] ⟨.nil, .h, []⟩) = true := by kernel_rfl
theorem tt (w : World) (v : Nat → Value) : answer ((run (cxT (T6 true true) w v) 3000).call (.fn 3 [] []) [.agg (actR true), .agg askR] ⟨.nil, .h, []⟩) = true := by kernel_rfl
theorem txt (T : Tr (List RV → Hp → Option RV)) (w : World) (v : Nat → Value) : textFn (cxT T w v) (.fn 3 [] []) = true := by kernel_rfl
theorem hasF6 (T : Tr (List RV → Hp → Option RV)) (w : World) (v : Nat → Value) : ∃ fn mk code, (cxT T w v).F.get (toPs 6) = some (fn, mk) ∧ fn.body = some code := by
  have h : textFn (cxT T w v) (.fn 6 [] []) = true := by kernel_rfl
  obtain ⟨fn, mk, code, t1, t2⟩ := textFn_inv h
  exact ⟨fn, mk, code, t1, t2⟩
theorem fewT_inv {d B : Bool} {xs : List RV} {h : Hp} {v : RV} (hv : fewT d B xs h = some v) : ∃ b, xs = [.agg [.nils, .nils, .nils], .sl b 0 1 1 true, .agg [.opq 1 3, .opq 1 4, .opq 1 5]] ∧ loadC h b 0 4 = some (actR d) ∧ v = .bool B := by
  unfold fewT at hv
  split at hv
  · rename_i b
    obtain ⟨cs, h1, h2⟩ := bnd_inv hv
    split at h2
    · rename_i e
      refine ⟨b, rfl, ?_⟩
      split at h2
      · exact ⟨h1, (Option.some.inj h2).symm⟩
      · exact ⟨h1, (Option.some.inj h2).symm⟩
      · cases h2
    · cases h2
  · cases hv
theorem known_inv {d B : Bool} {w : World} {o : Nat → Value} {f : FuncId} {xs : List RV} {h : Hp} {v : RV} (hv : knownV (cxT (T6 d B) w o) f xs h = some v) : f = 6 ∧ fewT d B xs h = some v := by
  obtain ⟨t, h1, h2⟩ := bnd_inv hv
  have h3 : (T6 d B).get (toPs f) = some t := h1
  unfold T6 at h3
  cases e : Tr.nil.set (fewT d B) (toPs 6) with
  | none => rw [e] at h3; cases h3
  | some t' =>
    rw [e] at h3
    have h4 : t'.get (toPs f) = some t := h3
    rw [Tr.set_ok e] at h4
    split at h4
    · rename_i hq
      have := toPs_inj hq
      subst this
      rw [← Option.some.inj h4] at h2
      exact ⟨rfl, h2⟩
    · cases h4
#print axioms tt
end Go.Proofs.YtkoacjmccdeggaaGreatDoor
