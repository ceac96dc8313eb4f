/- AclViews: a part of its proof. No condition. -/
import Derived.Test.YtljeeehimcdmbaaGreatDoorTie
import Derived.Test.YtljeeehimcdmbaaGreatDoorCards
import Derived.Test.YtljeeehimcdmbaaGreatDoorMGreatDoorVw8
import Derived.Test.YtljeeehimcdmbaaGreatDoorMNd
import Derived.WalkKit
import Derived.ProofKit
import Derived.OpenShut
import Derived.ShutString
import Derived.ChangeOld
import Derived.Below
import Derived.Carry
import Derived.LaidMore
import Derived.LaidOnce
import Derived.LaidHandle
import Derived.Stop.Joined
import Derived.SevenTiedAt
namespace Go.Proofs.YtljeeehimcdmbaaGreatDoor.aclViews
open Go.ChangeShapes Go.WideShapes Go.ChangeAt Go.RowKit
open Go.ChangeMaps (open_string shut_string)
set_option linter.unusedVariables false
set_option maxRecDepth 100000

theorem own : ownKnob Tryz.prog.godebug = none := by kernel_rfl
theorem laidOut : laidOutB Tryz.prog = true := by kernel_rfl
def cellsOfD : DataW Unit → Array Value
  | .agg l => (l.map fun | .lit (.int k n) => Value.int k n | _ => Value.nilFunc).toArray
  | _ => #[]
noncomputable def gFirst : Nat := (Tryz.prog.globalNamed "unicode/utf8.first").getD 0
noncomputable def startW (os : Os) : World :=
  { World.doorLaid Tryz.prog 72 os with heap := (World.doorLaid Tryz.prog 72 os).heap.modify gFirst fun
      | .cells _ t frozen => .cells (cellsOfD Go.Pinned.utf8First) t frozen
      | o => o }
theorem sm1 (os : Os) (args : Array Value) : (DataW.laidRun Tryz.prog ((startW os).forCall (fun _ _ => 0) ⟨#[], args, []⟩).memory 8 (((Rows.aclViewsRow.laid : List (String × DataW Unit)).filter fun x => x.2.handleName?.isNone).map (·.1))).map (·.1) = some ((Rows.aclViewsRow.laid : List (String × DataW Unit)).filter fun x => x.2.handleName?.isNone) := by kernel_rfl
theorem sm2a (os : Os) (args : Array Value) : (DataW.laidRun Tryz.prog ((startW os).forCall (fun _ _ => 0) ⟨#[], args, []⟩).memory 8 (((Rows.aclViewsRow.laid : List (String × DataW Unit)).filter fun x => x.2.handleName?.isNone).map (·.1))).map (fun x => decide x.2.Nodup) = some true := Go.E.nodup_of (by kernel_rfl)
theorem sm2b (os : Os) (args : Array Value) : (DataW.laidRun Tryz.prog ((startW os).forCall (fun _ _ => 0) ⟨#[], args, []⟩).memory 8 (((Rows.aclViewsRow.laid : List (String × DataW Unit)).filter fun x => x.2.handleName?.isNone).map (·.1))).map (fun x => laidRowsB Tryz.prog ((startW os).forCall (fun _ _ => 0) ⟨#[], args, []⟩).memory x.2) = some true := by kernel_rfl
theorem two_maps {α : Type} {o : Option α} {f g : α → Bool} (h : o.map f = some true) (k : o.map g = some true) : o.map (fun x => f x && g x) = some true := by
  cases o with
  | none => cases h
  | some x =>
    simp only [Option.map_some, Option.some.injEq] at h k ⊢
    rw [h, k]; rfl
theorem sm2 (os : Os) (args : Array Value) : (DataW.laidRun Tryz.prog ((startW os).forCall (fun _ _ => 0) ⟨#[], args, []⟩).memory 8 (((Rows.aclViewsRow.laid : List (String × DataW Unit)).filter fun x => x.2.handleName?.isNone).map (·.1))).map (fun x => decide x.2.Nodup && laidRowsB Tryz.prog ((startW os).forCall (fun _ _ => 0) ⟨#[], args, []⟩).memory x.2) = some true := two_maps (sm2a os args) (sm2b os args)
theorem sm3 (os : Os) (args : Array Value) : ((Rows.aclViewsRow.laid : List (String × DataW Unit)).filter fun x => x.2.handleName?.isSome && x.2.funcsIn?.isNone).all (handleAtB Tryz.prog ((startW os).forCall (fun _ _ => 0) ⟨#[], args, []⟩).memory) = true := by kernel_rfl
theorem sm4 (os : Os) (args : Array Value) : funcsRun Tryz.prog ((startW os).forCall (fun _ _ => 0) ⟨#[], args, []⟩).memory 8 ((funcsListed (Rows.aclViewsRow.laid : List (String × DataW Unit))).map (·.1)) = some ((funcsListed (Rows.aclViewsRow.laid : List (String × DataW Unit))).map (·.2.funcsOut)) := by kernel_rfl
theorem start_met (os : Os) (args : Array Value) : laidMetH Tryz.prog Rows.aclViewsRow.laid ((startW os).forCall (fun _ _ => 0) ⟨#[], args, []⟩).memory :=
  laidMetH_of_parts3 (fuel := 8) (laidMet_of_run' 8 (sm1 os args) (sm2 os args)) (sm3 os args) (sm4 os args)
theorem lifted (os : Os) (started : os.Started) (H : Type) (enc : TypeId × Value → H) :
    ReturnsInHanded {} Tryz.checked os 6 .any (fun w args => (Rows.aclViewsSpec.pre enc Tryz.prog Tryz.f6 [] false w args ∧ laidMetH Tryz.prog Rows.aclViewsRow.laid w) ∧ sizedMet enc Tryz.prog Tryz.f6 (OpenSpec.ofChange Rows.aclViewsSpec) false w args)
      (Rows.aclViewsSpec.post enc Tryz.prog Tryz.f6 false true false false) := by
  refine returnsInHanded_of_change_and (C := Tryz.checked) (X := fun w _ => laidMetH Tryz.prog Rows.aclViewsRow.laid w) (fun _ _ _ hh h => h.of_heap hh) own started (by kernel_rfl) Tryz.func6
    (ChangeSpec.witness_shaped (enc := enc) (C := Tryz.checked) (os := os) (X := fun w _ => laidMetH Tryz.prog Rows.aclViewsRow.laid w) false (startW os) #[(.agg #[.slice none 0 0, .slice none 0 0]), (.slice none 0 0), (.agg #[.slice none 0 0, .slice none 0 0, .string ByteArray.empty, .string ByteArray.empty, .string ByteArray.empty, .int .i64 0])] 8 rfl (World.shaped_of_RefB (by kernel_rfl) (by kernel_rfl)) (by kernel_rfl) (by kernel_rfl) (by kernel_rfl) (start_met os _)) ?_
  intro W base args ds gs before hval0 hW hcnd hsz0 hL _
  have hval : ∀ (j : Nat) t v, Tryz.f6.params[j]? = some t → args[j]? = some v → Value.okWide Tryz.prog W .any base t v := hval0
  have hW' := hW
  obtain ⟨p, q, hA0, hV, rfl, hfz, hnd⟩ := hW
  have hA : DataW.TrodAll enc Tryz.prog W 0 (fun _ => true) true Tryz.f6.params.toList args.toList ds p := hA0
  rw [Tryz.params6] at hA hval
  obtain ⟨v0, vs0, d0, ds0, p0, q0, hargs, rfl, rfl, h0, r0⟩ := trodAll_cons hA
  obtain ⟨v1, vs1, d1, ds1, p1, q1, rfl, rfl, rfl, h1, r1⟩ := trodAll_cons r0
  obtain ⟨v2, vs2, d2, ds2, p2, q2, rfl, rfl, rfl, h2, r2⟩ := trodAll_cons r1
  obtain ⟨rfl, rfl, rfl⟩ := trodAll_nil r2
  obtain rfl : args = #[v0, v1, v2] := by cases args; simp_all
  obtain ⟨rfl, rfl⟩ := trodVars_none hV
  have lt0 : ∀ x ∈ p0, x.block < W.heap.size := by obtain ⟨m, hm⟩ := h0; exact DataW.trod_lt m _ _ _ hm
  have lt1 : ∀ x ∈ p1, x.block < W.heap.size := by obtain ⟨m, hm⟩ := h1; exact DataW.trod_lt m _ _ _ hm
  have lt2 : ∀ x ∈ p2, x.block < W.heap.size := by obtain ⟨m, hm⟩ := h2; exact DataW.trod_lt m _ _ _ hm
  clear hA0 hval0
  refine (walk W base v0 v1 v2 (hval 0 _ v0 rfl rfl) (hval 1 _ v1 rfl rfl) (hval 2 _ v2 rfl rfl) h0 h1 h2).mono fun e W' ⟨he, bel⟩ => ?_
  subst he
  exact ⟨_, rfl, _, _, _, [], _, [], hW', (trodAll_cons_mk (shut_bool Tryz.underlying4 _) trodAll_mk0), (trodAll_cons_mk (Below.trod laidOut (by kernel_rfl) (of_decide_eq_true (by kernel_rfl)) h0 bel lt0) (trodAll_cons_mk (Below.trod laidOut (by kernel_rfl) (of_decide_eq_true (by kernel_rfl)) h1 bel lt1) (trodAll_cons_mk (Below.trod laidOut (by kernel_rfl) (of_decide_eq_true (by kernel_rfl)) h2 bel lt2) trodAll_mk0))), rfl, bel.frame _, fun h => by cases h⟩
end Go.Proofs.YtljeeehimcdmbaaGreatDoor.aclViews
