/- Contracts of the functions that the statements TruthTable, TruthLaws and TruthParts reach, and the walks of these. No condition. -/
import Derived.Test.YtpmmccmhmoihgaaTb
namespace Go.Proofs.Ytpmmccmhmoihgaa
open Go.RowKit
attribute [local go_sem] ord_1_1 ord_1_m ord_1_0 ord_m_1 ord_m_m ord_m_0 ord_0_1 ord_0_m ord_0_0 ord_2_1 ord_2_m ord_2_0

theorem is_zero (w : World) : Calls Try.prog 22 #[.complex .f64 0 0] w fun e w' => e = .returned (.bool false) ∧ w' = w := by
  go_enter Try.func22, Try.ntmps22
  go_wp2
  go_ret
  exact ⟨rfl, rfl⟩

theorem trsAt2 {w : World} {b : Nat} (x y : Tr) (h0 : w.cell? ⟨b, 0, none⟩ = some x.v) (h1 : w.cell? ⟨b, 1, none⟩ = some y.v) : TrsAt w (.slice (some ⟨b, 0, none⟩) 2 2) [x, y] :=
  ⟨_, 2, rfl, fun i hi => ⟨b, 0, rfl, match i, hi with | 0, _ => h0 | 1, _ => h1⟩⟩
theorem trsAt3 {w : World} {b : Nat} (x y z : Tr) (h0 : w.cell? ⟨b, 0, none⟩ = some x.v) (h1 : w.cell? ⟨b, 1, none⟩ = some y.v) (h2 : w.cell? ⟨b, 2, none⟩ = some z.v) : TrsAt w (.slice (some ⟨b, 0, none⟩) 3 3) [x, y, z] :=
  ⟨_, 3, rfl, fun i hi => ⟨b, 0, rfl, match i, hi with | 0, _ => h0 | 1, _ => h1 | 2, _ => h2⟩⟩
theorem trsAt0 {w : World} : TrsAt w (.slice none 0 0) [] := ⟨none, 0, rfl, fun i hi => by simp at hi⟩

theorem and2 {w : World} {b : Nat} (x y : Tr) (h0 : w.cell? ⟨b, 0, none⟩ = some x.v) (h1 : w.cell? ⟨b, 1, none⟩ = some y.v) :
    Calls Try.prog 16 #[.slice (some ⟨b, 0, none⟩) 2 2] w fun e w' => e = .returned (andL [x, y]).v ∧ w' = w := and_any _ _ w (trsAt2 x y h0 h1) (by simp)
theorem or2 {w : World} {b : Nat} (x y : Tr) (h0 : w.cell? ⟨b, 0, none⟩ = some x.v) (h1 : w.cell? ⟨b, 1, none⟩ = some y.v) :
    Calls Try.prog 18 #[.slice (some ⟨b, 0, none⟩) 2 2] w fun e w' => e = .returned (orL [x, y]).v ∧ w' = w := or_any _ _ w (trsAt2 x y h0 h1) (by simp)
theorem and3 {w : World} {b : Nat} (x y z : Tr) (h0 : w.cell? ⟨b, 0, none⟩ = some x.v) (h1 : w.cell? ⟨b, 1, none⟩ = some y.v) (h2 : w.cell? ⟨b, 2, none⟩ = some z.v) :
    Calls Try.prog 16 #[.slice (some ⟨b, 0, none⟩) 3 3] w fun e w' => e = .returned (andL [x, y, z]).v ∧ w' = w := and_any _ _ w (trsAt3 x y z h0 h1 h2) (by simp)
theorem or3 {w : World} {b : Nat} (x y z : Tr) (h0 : w.cell? ⟨b, 0, none⟩ = some x.v) (h1 : w.cell? ⟨b, 1, none⟩ = some y.v) (h2 : w.cell? ⟨b, 2, none⟩ = some z.v) :
    Calls Try.prog 18 #[.slice (some ⟨b, 0, none⟩) 3 3] w fun e w' => e = .returned (orL [x, y, z]).v ∧ w' = w := or_any _ _ w (trsAt3 x y z h0 h1 h2) (by simp)

theorem awake_any (w : World) : Calls Try.prog 11 #[] w fun e w' => e = .returned (.bool true) ∧ Below w.heap.size w w' := by
  go_enter Try.func11, Try.ntmps11
  go_wp2_with fail
  refine (and2 .t .u (by simp [go_sem, Tr.v]) (by simp [go_sem, Tr.v])).mono ?_; rintro e w' ⟨rfl, rfl⟩
  simp only [show andL [.t, .u] = .u from rfl, Tr.v]
  go_wp2_with fail
  refine (and2 .f .u (by simp [go_sem, Tr.v]) (by simp [go_sem, Tr.v])).mono ?_; rintro e w' ⟨rfl, rfl⟩
  simp only [show andL [.f, .u] = .f from rfl, Tr.v]
  go_wp2_with fail
  refine (or2 .f .u (by simp [go_sem, Tr.v]) (by simp [go_sem, Tr.v])).mono ?_; rintro e w' ⟨rfl, rfl⟩
  simp only [show orL [.f, .u] = .u from rfl, Tr.v]
  go_wp2_with fail
  refine (not_any .u _).mono ?_; rintro e w' ⟨rfl, rfl⟩
  simp only [show Tr.not .u = .u from rfl, Tr.v]
  go_wp2_with fail
  refine (not_any .t _).mono ?_; rintro e w' ⟨rfl, rfl⟩
  simp only [show Tr.not .t = .f from rfl, Tr.v]
  go_wp2_with fail
  refine (and_any [] _ _ trsAt0 (by simp)).mono ?_; rintro e w' ⟨rfl, rfl⟩
  simp only [show andL [] = .t from rfl, Tr.v]
  go_wp2_with fail
  refine (or_any [] _ _ trsAt0 (by simp)).mono ?_; rintro e w' ⟨rfl, rfl⟩
  simp only [show orL [] = .f from rfl, Tr.v]
  go_wp2_with fail
  refine (of_any true _).mono ?_; rintro e w' ⟨rfl, rfl⟩
  simp only [if_true, Tr.v]
  go_wp2_with fail
  refine (word_any .f _).mono ?_; rintro e w' ⟨rfl, rfl⟩
  simp only [Tr.word]
  go_wp2_with fail
  refine (is_any .t _).mono ?_; rintro e w' ⟨rfl, rfl⟩
  simp only [Tr.isT]
  go_wp2_with fail
  refine (is_zero _).mono ?_; rintro e w' ⟨rfl, rfl⟩
  go_wp2
  go_ret
  exact ⟨rfl, (((Below.refl _ _).alloc (Nat.le_refl _) _).alloc (by simp) _).alloc (by simp; omega) _⟩
end Go.Proofs.Ytpmmccmhmoihgaa
