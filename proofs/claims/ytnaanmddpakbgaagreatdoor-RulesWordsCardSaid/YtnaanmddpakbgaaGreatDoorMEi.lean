/- E: what a laid table of numbers says of memory. No condition. -/
import Derived.Test.YtnaanmddpakbgaaGreatDoorMEh
import Derived.OpenShut
import Derived.ChangeArms
namespace Go.E
open Go Go.RowKit
theorem laid_var {P : Program} {w : World} : ∀ {l : List (String × DataW Unit)} {ps : List MemPlace}, DataW.LaidVars P w l ps → ∀ {n : String} {d : DataW Unit}, (n, d) ∈ l →
    ∃ g t cs fuel p, P.globalNamed n = some g ∧ (P.globals[g]?).map (·.type) = some t ∧ w.var? P n = some cs ∧ DataW.trod (fun _ => ()) P w 0 (fun _ => true) false fuel t cs.toList = some (d, p)
  | [], _, _, _, _, hm => by cases hm
  | (n', d') :: r, ps, h, n, d, hm => by
    obtain ⟨g, t, cs, fuel, p, q, h1, h2, h3, h4, h5, _⟩ := h
    rcases List.mem_cons.1 hm with e | hm
    · cases e
      exact ⟨g, t, cs, fuel, p, h1, h2, h3, h4⟩
    · exact laid_var h5 hm
theorem cells_ints {k : IntKind} {cs : List Value} {vs : List Int} (hl : cs.length = vs.length) (h : ∀ i v, vs[i]? = some v → (cs.drop i).take 1 = [.int k v]) : cs = vs.map (Value.int k) := by
  apply List.ext_getElem?
  intro i
  rw [List.getElem?_map]
  cases hv : vs[i]? with
  | none =>
    rw [List.getElem?_eq_none_iff] at hv
    rw [List.getElem?_eq_none (by omega)]; rfl
  | some v =>
    have := h i v hv
    have h2 := congrArg (fun l => l[0]?) this
    simp only [List.getElem?_take, List.getElem?_drop] at h2
    simpa using h2
theorem ints_laid {P : Program} {w : World} {t e : TypeId} {n fuel : Nat} {k : IntKind} {cs : List Value} {p : List MemPlace} {vs : List Int} (ht : P.underlying t = some (.array n e)) (he : P.underlying e = some (.int k)) (hc : P.cellsOf e = 1) (hn : P.cellsOf t = n)
    (h : DataW.trod (fun _ => ()) P w 0 (fun _ => true) false fuel t cs = some (DataW.agg (vs.map fun v => .lit (.int k v)), p)) : cs = vs.map (Value.int k) := by
  obtain ⟨xs, m, _, hx, h1, h2, h3⟩ := DataW.trod_array ht h
  have hx1 : vs.map (fun v => DataW.lit (H := Unit) (.int k v)) = xs.map (·.1) := by
    have := congrArg Prod.fst hx
    simpa using this
  have hlen : xs.length = vs.length := by have := congrArg List.length hx1; simpa using this.symm
  refine cells_ints (by rw [h1, hn, ← h2, hlen]) fun i v hv => ?_
  have hi : i < n := by
    rw [← h2, hlen]
    exact (List.getElem?_eq_some_iff.1 hv).1
  have h4 := h3 i hi
  rw [hc, Nat.mul_one, List.getElem?_eq_getElem (by omega)] at h4
  obtain ⟨z, z1, z2, _⟩ := DataW.trod_int he h4
  have e1 := congrArg (fun l => l[i]?) hx1
  simp only [List.getElem?_map, hv, List.getElem?_eq_getElem (show i < xs.length by omega), Option.map_some, Option.some.injEq] at e1
  rw [z2] at e1
  cases e1
  exact z1
theorem tab_of_laid {P : Program} {w : World} {l : List (String × DataW Unit)} (hl : laidMet P l w) {nm : String} {g n : Nat} {t e : TypeId} {k : IntKind} {vs : List Int} (hm : (nm, DataW.agg (vs.map fun v => .lit (.int k v))) ∈ l) (hg : P.globalNamed nm = some g)
    (htg : (P.globals[g]?).map (·.type) = some t) (ht : P.underlying t = some (.array n e)) (he : P.underlying e = some (.int k)) (hc : P.cellsOf e = 1) (hn : P.cellsOf t = n) : ∃ ty, ∃ CS fz, w.heap[g]? = some (.cells CS ty fz) ∧ CS.toList = vs.map (Value.int k) := by
  obtain ⟨ps, hv, _, _⟩ := hl
  obtain ⟨g', t', cs, fuel, p, h1, h2, h3, h4⟩ := laid_var hv hm
  rw [hg] at h1
  cases h1
  rw [htg] at h2
  cases h2
  have h5 := ints_laid ht he hc hn h4
  unfold World.var? at h3
  rw [hg] at h3
  simp only [Option.bind_some] at h3
  split at h3
  · rename_i CS ty fz hh
    cases h3
    exact ⟨ty, cs, fz, hh, h5⟩
  · cases h3
theorem lits_ints (k : IntKind) : ∀ vs : List Int, lits (vs.map (RV.int k)) = some (vs.map (Value.int k))
  | [] => rfl
  | v :: vs => by
    have := lits_ints k vs
    show (match lit1 (.int k v), lits (vs.map (RV.int k)) with | some a, some r => some (a :: r) | _, _ => none) = _
    rw [this]; rfl
end Go.E
