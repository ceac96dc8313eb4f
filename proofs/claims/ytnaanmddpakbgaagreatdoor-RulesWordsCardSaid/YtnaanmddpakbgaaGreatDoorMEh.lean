/- E: package-level variables whose values are known: a run that reads them. No condition. -/
import Derived.Test.YtnaanmddpakbgaaGreatDoorEv4
namespace Go.E
open Go Go.RowKit
/-- A variable's number, its cells, its block's type. -/
abbrev Tab := Nat × List RV × TypeId
noncomputable def tabG : List Tab → Tr Ps := List.rec .nil fun x _ ih => (ih.set (toPs x.1) (toPs x.1)).getD .nil
noncomputable def tabH : List Tab → Tr RO := List.rec .nil fun x _ ih => (ih.set (.old x.2.1 x.2.2) (toPs x.1)).getD .nil
noncomputable def tabHp (l : List Tab) (n : Nat) : Hp := ⟨tabH l, toPs n, []⟩
def lit1 : RV → Option Value
  | .bool b => some (.bool b)
  | .int k n => some (.int k n)
  | _ => none
def lits : List RV → Option (List Value)
  | [] => some []
  | v :: l => match lit1 v, lits l with
    | some a, some r => some (a :: r)
    | _, _ => none
theorem lits_ok {g : Gh} : ∀ {l : List RV} {L : List Value}, lits l = some L → VRs g l L ∧ (∀ v ∈ l, v.one = true) ∧ L.length = l.length
  | [], L, h => by cases h; exact ⟨.nil, by simp, rfl⟩
  | v :: l, L, h => by
    unfold lits at h
    split at h
    · rename_i a r ha hr
      cases h
      obtain ⟨h1, h2, h3⟩ := lits_ok (g := g) hr
      have hv : VR g v a ∧ v.one = true := by
        cases v <;> first | (cases ha; done) | skip
        · cases ha; exact ⟨.bool _, rfl⟩
        · cases ha; exact ⟨.int _ _, rfl⟩
      refine ⟨.cons hv.1 h1, fun u hu => ?_, by simp [h3]⟩
      rcases List.mem_cons.1 hu with rfl | hu
      · exact hv.2
      · exact h2 u hu
    · cases h
/-- These variables hold these cells. -/
def TabsAt (l : List Tab) (w : World) : Prop := ∀ x ∈ l, ∃ CS fz, w.heap[x.1]? = some (.cells CS x.2.2 fz) ∧ lits x.2.1 = some CS.toList
theorem TabsAt.below {l : List Tab} {w w' : World} (h : TabsAt l w) (hb : Below w.heap.size w w') : TabsAt l w' := fun x hx => by
  obtain ⟨CS, fz, h1, h2⟩ := h x hx
  exact ⟨CS, fz, (hb.block _ (Array.getElem?_eq_some_iff.1 h1).1).trans h1, h2⟩
theorem tabG_inv : ∀ {l : List Tab} {p b : Ps}, (tabG l).get p = some b → b = p ∧ ∃ x ∈ l, toPs x.1 = p
  | [], p, b, h => by cases h
  | x :: l, p, b, h => by
    have h : (((tabG l).set (toPs x.1) (toPs x.1)).getD .nil).get p = some b := h
    cases e : (tabG l).set (toPs x.1) (toPs x.1) with
    | none => rw [e] at h; cases h
    | some t =>
      rw [e] at h
      have h : t.get p = some b := h
      rw [Tr.set_ok e] at h
      split at h
      · rename_i hq
        cases h
        exact ⟨hq.symm, x, List.mem_cons_self, hq.symm⟩
      · obtain ⟨h1, y, h2, h3⟩ := tabG_inv h
        exact ⟨h1, y, List.mem_cons_of_mem _ h2, h3⟩
theorem tabH_inv : ∀ {l : List Tab} {p : Ps} {o : RO}, (tabH l).get p = some o → ∃ x ∈ l, toPs x.1 = p ∧ o = .old x.2.1 x.2.2
  | [], p, o, h => by cases h
  | x :: l, p, o, h => by
    have h : (((tabH l).set (.old x.2.1 x.2.2) (toPs x.1)).getD .nil).get p = some o := h
    cases e : (tabH l).set (.old x.2.1 x.2.2) (toPs x.1) with
    | none => rw [e] at h; cases h
    | some t =>
      rw [e] at h
      have h : t.get p = some o := h
      rw [Tr.set_ok e] at h
      split at h
      · rename_i hq
        cases h
        exact ⟨x, List.mem_cons_self, hq.symm, rfl⟩
      · obtain ⟨y, h2, h3⟩ := tabH_inv h
        exact ⟨y, List.mem_cons_of_mem _ h2, h3⟩
noncomputable def tabGh (l : List Tab) (o : Nat → Value) : Gh := ⟨fun p => if (∃ x ∈ l, toPs x.1 = p) then some (p.num, 0) else none, fun _ => 0, o⟩
theorem tab_HR {cx : Ctx} {l : List Tab} {n : Nat} {w : World} (hG : cx.G = tabG l) (hw : cx.w0 = w) (ht : TabsAt l w) (hn : ∀ x ∈ l, x.1 < n) : HR cx (tabGh l cx.o) (tabHp l n) w w.heap.size := by
  refine ⟨fun p o hp => ?_, fun p p' o o' hp hp' h1 h2 => ?_, fun p p' o cs ty hp h1 => ?_, fun p B k hp => ?_, fun p z hp => ?_, fun i p hp => ?_, ⟨rfl, by rw [hw]; exact Nat.le_refl _, by rw [hw]; exact .refl _ _⟩⟩
  · rw [Hp.get_eq] at hp
    obtain ⟨x, hx, rfl, rfl⟩ := tabH_inv hp
    obtain ⟨CS, fz, h1, h2⟩ := ht x hx
    obtain ⟨h3, h4, h5⟩ := lits_ok (g := tabGh l cx.o) h2
    refine ⟨x.1, 0, CS, fz, ?_, h1, ?_, ?_, h4⟩
    · show (if _ then _ else _) = _
      rw [if_pos ⟨x, hx, rfl⟩, toPs_num]
    · rw [Array.length_toList] at h5; omega
    · rw [List.drop_zero, ← h5, List.take_length]; exact h3
  · rw [Hp.get_eq] at hp
    obtain ⟨x, hx, rfl, rfl⟩ := tabH_inv hp
    cases h1
  · rw [Hp.get_eq] at hp
    obtain ⟨x, hx, rfl, rfl⟩ := tabH_inv hp
    cases h1
  · have hp : (if (∃ x ∈ l, toPs x.1 = p) then some (p.num, 0) else none) = some (B, k) := hp
    split at hp
    · rename_i hq
      obtain ⟨x, hx, rfl⟩ := hq
      cases hp
      rw [toPs_num]
      obtain ⟨CS, fz, h1, _⟩ := ht x hx
      exact (Array.getElem?_eq_some_iff.1 h1).1
    · cases hp
  · have hp : (if (∃ x ∈ l, toPs x.1 = p) then some (p.num, 0) else none) = some z := hp
    split at hp
    · rename_i hq
      obtain ⟨x, hx, rfl⟩ := hq
      show (toPs x.1).num < (toPs n).num
      rw [toPs_num, toPs_num]
      exact hn x hx
    · cases hp
  · rw [hG] at hp
    obtain ⟨rfl, x, hx, h1⟩ := tabG_inv hp
    show (if _ then _ else _) = _
    rw [if_pos ⟨x, hx, h1⟩, toPs_num]
theorem tab_run {P : Program} {cx : Ctx} {l : List Tab} {n : Nat} (hG : cx.G = tabG l) (ht : TabsAt l cx.w0) (hn : ∀ x ∈ l, x.1 < n) (hS : Sound P cx cx.w0.heap.size) {m : Nat} {f : FuncId} {xs : List RV} {XS : Array Value} {h' : Hp}
    (hr : (run cx m).call (.fn f [] []) xs (tabHp l n) = some ⟨.bool true, h'⟩) (htx : textFn cx (.fn f [] []) = true) (hx : VRs (tabGh l cx.o) xs XS.toList) : Calls P f XS cx.w0 fun en w' => en = .returned (.bool true) ∧ Below cx.w0.heap.size cx.w0 w' := by
  refine (run_gen hS (tab_HR hG rfl ht hn) rfl hr htx hx).mono ?_
  rintro en w' ⟨⟨g', V, rfl, hV⟩, hb⟩
  refine ⟨?_, hb⟩
  cases hV
  rfl
end Go.E
