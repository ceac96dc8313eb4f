/- SessionNobody: a part of its proof. No condition. -/
import Derived.Test.YtngclgnhgmaedaaGreatDoorME2
import Derived.Test.YtngclgnhgmaedaaGreatDoorEv4
set_option maxRecDepth 100000
namespace Go.Proofs.YtngclgnhgmaedaaGreatDoor
open Go Go.E Go.RowKit
def attrC : List RV := [.str [99, 108, 115], .str [], .int .i64 9, .int .i64 9, .bool false, .bool false, .str [99, 110], .str [], .int .i64 1, .int .i64 2, .bool false, .bool false, .str [112, 119], .str [], .int .i64 5, .int .i64 5, .bool false, .bool false]
theorem chk (w : World) : ansV ((run (cx0 w) 3000).call (.fn 127 [] []) [.sl .h 0 3 3 false] (rowH attrC 114)) (.int .i64 0) = true := by kernel_rfl
noncomputable def Tk : Tr (List RV → Hp → Option RV) := (Tr.nil.set (rowT 3 18 114 attrC (.int .i64 0)) (toPs 127)).getD .nil
theorem txtK (w : World) (v : Nat → Value) : textFn (cxT Tk w v) (.fn 127 [] []) = true := by kernel_rfl
theorem txt0 (w : World) : textFn (cx0 w) (.fn 127 [] []) = true := by kernel_rfl
theorem knownK (w : World) (o : Nat → Value) : KnownOk Tryz.prog (cxT Tk w o) w.heap.size := by
  intro f xs h v hv g w' XS H hxs
  obtain ⟨t, h1, h2⟩ := bnd_inv hv
  have h3 : Tk.get (toPs f) = some t := h1
  unfold Tk at h3
  cases e : Tr.nil.set (rowT 3 18 114 attrC (.int .i64 0)) (toPs 127) with
  | none => rw [e] at h3; cases h3
  | some t' =>
    rw [e] at h3
    have h4 : t'.get (toPs f) = some t := h3
    rw [Tr.set_ok e] at h4
    split at h4
    · rename_i hq
      have := toPs_inj hq
      subst this
      rw [← Option.some.inj h4] at h2
      refine ⟨?_, row_known (cxw := cx0) (fun _ => rfl) (fun _ => rfl) sound0 (by decide) chk txt0 rfl h2 H hxs⟩
      obtain ⟨fn, mk, code, t1, t2⟩ := textFn_inv (txtK w o)
      exact ⟨fn, mk, code, t1, t2⟩
    · cases h4
def opqs (k : Nat) : Nat → List RV
  | 0 => []
  | n + 1 => .opq 0 k :: opqs (k + 1) n
def reqR : List RV := opqs 1 30
theorem runS (w : World) (o : Nat → Value) : answer ((run (cxT Tk w o) 3000).call (.fn 3 [] []) [.opq 1 0, .agg reqR] ⟨.nil, .h, []⟩) = true := by kernel_rfl
theorem txtS (w : World) (o : Nat → Value) : textFn (cxT Tk w o) (.fn 3 [] []) = true := by kernel_rfl
#print axioms runS
end Go.Proofs.YtngclgnhgmaedaaGreatDoor
