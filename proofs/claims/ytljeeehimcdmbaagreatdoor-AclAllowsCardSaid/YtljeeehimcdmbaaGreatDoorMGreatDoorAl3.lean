/- What toponymref20.Check says of types: checkR. No condition. -/
import Derived.Test.YtljeeehimcdmbaaGreatDoorMGreatDoorAl2
namespace Go.Proofs.YtljeeehimcdmbaaGreatDoor
open Go.RowKit Go.Wd Go.Dir Go.Shelf
open Go.Op (bytesLess)

def stepR (l : List Attr) (j : Nat) : Bool := oneR l (l.getD j Attr.none) && (decide (j = 0) || bytesLess (l.getD (j - 1) Attr.none).name.toList (l.getD j Attr.none).name.toList)
theorem checkR_of (l : List Attr) (h0 : l.length ≤ 24) (h : ∀ j, j < l.length → stepR l j = true) : checkR l = true := by
  unfold checkR
  rw [decide_eq_true h0, (rises_iff l).2 (rises_of l fun i hi => by
    have := h (i + 1) hi
    unfold stepR at this
    simp only [Bool.and_eq_true, Bool.or_eq_true, decide_eq_true_eq] at this
    rcases this.2 with h | h
    · omega
    · exact h)]
  rw [Bool.true_and, Bool.true_and, List.all_eq_true]
  intro x hx
  obtain ⟨i, hi, rfl⟩ := List.getElem_of_mem hx
  have := h i hi
  unfold stepR at this
  rw [List.getD_eq_getElem?_getD, List.getElem?_eq_getElem hi] at this
  simp only [Bool.and_eq_true] at this
  exact this.1
theorem checkR_no (l : List Attr) (j : Nat) (hj : j < l.length) (h : stepR l j = false) : checkR l = false := by
  cases hc : checkR l with
  | false => rfl
  | true =>
    unfold checkR at hc
    simp only [Bool.and_eq_true, decide_eq_true_eq, List.all_eq_true] at hc
    have h1 := hc.2 _ (getD_mem l j Attr.none hj)
    have hr := (rises_iff l).1 hc.1.2
    unfold stepR at h
    rw [h1, Bool.true_and] at h
    by_cases h0 : j = 0
    · rw [decide_eq_true h0] at h; cases h
    · rw [hr (j - 1) j (by omega) hj] at h
      rw [Bool.or_true] at h; cases h
theorem checkR_long (l : List Attr) (h0 : ¬ l.length ≤ 24) : checkR l = false := by unfold checkR; rw [decide_eq_false h0]; rfl

end Go.Proofs.YtljeeehimcdmbaaGreatDoor
