/- SessionNobody: a part of its proof. No condition. -/
import Derived.Test.YtngclgnhgmaedaaGreatDoorME3
import Derived.WideShapes
set_option maxRecDepth 100000
namespace Go.Proofs.YtngclgnhgmaedaaGreatDoor.sessionNobody
open Go Go.E Go.RowKit Go.WideShapes
def leaf (V : Value) : Prop := (∀ cs, V ≠ .agg cs) ∧ ∀ vs, V ≠ .tuple vs
theorem leaf_of {P : Program} {w : World} {r : Reach} {b : Nat} {t : TypeId} {v : Value} (h : Cell.okWide P w r b t v) : leaf v := by
  constructor
  · rintro cs rfl
    unfold Cell.okWide at h
    split at h
    all_goals first | (rename_i e; cases e; done) | skip
    all_goals
      unfold Cell.ok at h
      split at h <;> first | (rename_i e; cases e; done) | exact h
  · rintro cs rfl
    unfold Cell.okWide at h
    split at h
    all_goals first | (rename_i e; cases e; done) | skip
    all_goals
      unfold Cell.ok at h
      split at h <;> first | (rename_i e; cases e; done) | exact h
theorem vrs_opqs {g : Gh} : ∀ (l : List Value) (k : Nat), (∀ i V, l[i]? = some V → g.o (k + i) = V ∧ leaf V) → VRs g (opqs k l.length) l
  | [], _, _ => .nil
  | V :: l, k, h => by
    obtain ⟨h1, h2⟩ := h 0 V rfl
    refine .cons (.opq 0 k h1 (okq_any V) h2) (vrs_opqs l (k + 1) fun i V' hi => ?_)
    have := h (i + 1) V' (by simpa using hi)
    rw [show k + 1 + i = k + (i + 1) by omega]
    exact this
theorem opqs_one : ∀ n k, ∀ v ∈ opqs k n, v.one = true
  | 0, _, v, h => by cases h
  | n + 1, k, v, h => by
    rcases List.mem_cons.1 h with rfl | h
    · rfl
    · exact opqs_one n (k + 1) v h
theorem walk {H : Type} {enc : TypeId × Value → H} (W : World) (base : Nat) (v0 v1 : Value) (o0 : Value.okWide Tryz.prog W .any base 9 v0) (o1 : Value.okWide Tryz.prog W .any base 33 v1) {d0 d1 : DataW H} {p0 p1 : List MemPlace}
    (h0 : DataW.Trod enc Tryz.prog W 0 (fun _ => true) true 9 v0 d0 p0) (h1 : DataW.Trod enc Tryz.prog W 0 (fun _ => true) true 33 v1 d1 p1) :
    Calls Tryz.prog 3 #[v0, v1] W fun e w' => e = .returned (.bool true) ∧ Below W.heap.size W w' := by
  obtain ⟨s, rfl⟩ := okWide_string Tryz.underlying9 o0
  have hrow : ∃ cs : Array Value, v1 = .agg cs ∧ cs.size = 30 ∧ Row.okWide Tryz.prog W .any base 33 cs := by
    simp only [Value.okWide, Tryz.underlying33] at o1
    obtain ⟨cs, e1, e2, e3⟩ := o1
    exact ⟨cs, e1, e2.trans (by kernel_rfl), e3⟩
  obtain ⟨cs, rfl, hsz, ts, _, _, hcell⟩ := hrow
  let o : Nat → Value := fun n => match n with
    | 0 => .string s
    | n + 1 => cs.toList.getD n .nilFunc
  obtain ⟨h', hr⟩ := answer_inv (runS W o)
  have hv : VRs ⟨fun _ => none, fun _ => 0, o⟩ reqR cs.toList := by
    have := vrs_opqs (g := ⟨fun _ => none, fun _ => 0, o⟩) cs.toList 1 (fun i V hi => by
      refine ⟨?_, ?_⟩
      · show o (1 + i) = V
        rw [Nat.add_comm]
        show cs.toList.getD i .nilFunc = V
        rw [List.getD_eq_getElem?_getD, hi]; rfl
      · obtain ⟨u, _, hu⟩ := hcell i V (by simpa using hi)
        exact leaf_of hu)
    rw [Array.length_toList, hsz] at this
    exact this
  exact run_ok (cx := cxT Tk W o) (sound Tk W o (knownK W o)) rfl hr (txtS W o) (.cons (.opq 1 0 rfl (okq_str s) ⟨fun _ h => (by cases h), fun _ h => (by cases h)⟩) (.cons (.agg hv (opqs_one 30 1)) .nil))
#print axioms walk
end Go.Proofs.YtngclgnhgmaedaaGreatDoor.sessionNobody
