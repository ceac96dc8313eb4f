/- Places of memory that are told apart by their numbers: a look that is linear. No condition. -/
import Derived.LaidLaws
namespace Go.E
open Go
def plNo : MemPlace → Nat
  | .cell b off => Nat.add (Nat.mul b 4096) off
  | .map _ => 0
def plSmall : MemPlace → Bool
  | .cell _ off => Nat.blt off 4096
  | .map _ => false
noncomputable def ndFrom (l : List MemPlace) : Nat → Bool :=
  List.rec (fun _ => true) (fun p _ ih m => Bool.rec false (Bool.rec (ih (Nat.lor m (Nat.shiftLeft 1 (plNo p)))) false (Nat.beq (Nat.land (Nat.shiftRight m (plNo p)) 1) 1)) (plSmall p)) l
theorem plNo_inj {p q : MemPlace} (hp : plSmall p = true) (hq : plSmall q = true) (h : plNo p = plNo q) : p = q := by
  cases p with
  | map => cases hp
  | cell b o =>
    cases q with
    | map => cases hq
    | cell b' o' =>
      have h1 : o < 4096 := by simpa [plSmall, Nat.blt_eq] using hp
      have h2 : o' < 4096 := by simpa [plSmall, Nat.blt_eq] using hq
      have h3 : b * 4096 + o = b' * 4096 + o' := h
      have : b = b' ∧ o = o' := by omega
      rw [this.1, this.2]
theorem bit_test (m n : Nat) : Nat.beq (Nat.land (Nat.shiftRight m n) 1) 1 = m.testBit n := by
  show Nat.beq ((m >>> n) &&& 1) 1 = m.testBit n
  rw [Nat.testBit, Nat.and_comm]
  rcases Nat.mod_two_eq_zero_or_one (m >>> n) with h | h <;> simp [Nat.one_and_eq_mod_two, h] <;> rfl
theorem ndFrom_ok : ∀ (l : List MemPlace) (m : Nat), ndFrom l m = true → l.Nodup ∧ ∀ p ∈ l, plSmall p = true ∧ m.testBit (plNo p) = false
  | [], _, _ => ⟨List.nodup_nil, by simp⟩
  | p :: l, m, h => by
    have h : (Bool.rec false (Bool.rec (ndFrom l (Nat.lor m (Nat.shiftLeft 1 (plNo p)))) false (Nat.beq (Nat.land (Nat.shiftRight m (plNo p)) 1) 1)) (plSmall p) : Bool) = true := h
    cases hs : plSmall p with
    | false => rw [hs] at h; cases h
    | true =>
      rw [hs, bit_test] at h
      cases ht : m.testBit (plNo p) with
      | true => rw [ht] at h; cases h
      | false =>
        rw [ht] at h
        have h : ndFrom l (m ||| (1 <<< (plNo p))) = true := h
        obtain ⟨h1, h2⟩ := ndFrom_ok l _ h
        refine ⟨List.nodup_cons.2 ⟨fun hm => ?_, h1⟩, fun q hq => ?_⟩
        · have := (h2 p hm).2
          rw [Nat.testBit_or] at this
          simp at this
        · rcases List.mem_cons.1 hq with rfl | hq
          · exact ⟨hs, ht⟩
          · refine ⟨(h2 q hq).1, ?_⟩
            have := (h2 q hq).2
            rw [Nat.testBit_or] at this
            simp at this
            exact this.1
theorem nodup_of {o : Option (List (String × DataW Unit) × List MemPlace)} (h : o.map (fun x => ndFrom x.2 0) = some true) : o.map (fun x => decide x.2.Nodup) = some true := by
  cases o with
  | none => cases h
  | some x =>
    simp only [Option.map_some, Option.some.injEq] at h ⊢
    exact decide_eq_true (ndFrom_ok _ _ h).1
end Go.E
