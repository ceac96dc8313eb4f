/- The walks of DnkeyLooks and DnkeyPairs. No condition. -/
import Derived.Test.YtpmmccmhmoihgaaKf
namespace Go.Proofs.Ytpmmccmhmoihgaa
open Go.RowKit

theorem short1_any (a : ByteArray) (w : World) : Calls Try.prog 23 #[.string a, .string ⟨#[]⟩, .string ⟨#[]⟩] w fun e w' => e = .returned (.bool (decide (a.size ≤ 5000))) ∧ w' = w := by
  refine (short_any a ⟨#[]⟩ ⟨#[]⟩ w).mono ?_
  rintro e w' ⟨rfl, rfl⟩
  exact ⟨by simp [show (⟨#[]⟩ : ByteArray).size = 0 from rfl], rfl⟩
theorem short2_any (a b : ByteArray) (w : World) : Calls Try.prog 23 #[.string a, .string b, .string ⟨#[]⟩] w fun e w' => e = .returned (.bool (decide (a.size ≤ 5000 ∧ b.size ≤ 5000))) ∧ w' = w := by
  refine (short_any a b ⟨#[]⟩ w).mono ?_
  rintro e w' ⟨rfl, rfl⟩
  exact ⟨by simp [show (⟨#[]⟩ : ByteArray).size = 0 from rfl], rfl⟩

set_option maxHeartbeats 1000000 in
theorem looks_any (s : ByteArray) (w : World) : Calls Try.prog 6 #[.string s] w fun e w' => e = .returned (.bool true) ∧ Below w.heap.size w w' := by
  have HS := fun w => Lib.hid (short1_any s w)
  by_cases hs : s.size ≤ 5000
  · rw [decide_eq_true hs] at HS
    have A1 := fun w => Lib.hid (above_any s (by omega) w)
    have A2 := fun w => Lib.hid (refAbove_any s (by omega) w)
    have A3 := fun w => Lib.hid (check_any s (by omega) w)
    have A4 := fun w => Lib.hid (refCheck_any s (by omega) w)
    have A5 := fun w => Lib.hid (depth_any s (by omega) w)
    have A6 := fun w => Lib.hid (refDepth_any s (by omega) w)
    have A7 := fun w => Lib.hid (behind_any s (by omega) w)
    have A8 := fun w => Lib.hid (refBehind_any s (by omega) w)
    unfold nameE at A4
    generalize (if isK s = true then (0 : Int) else 220) = n at *
    generalize aboveR s = u at *
    generalize hasAbove s = h at *
    generalize depthI s = d at *
    generalize behindR s = g at *
    go_enter Try.func6, Try.ntmps6
    go_wp2_with fail
    refine ((HS _).out).mono ?_; rintro e w' ⟨rfl, rfl⟩
    go_wp2_with fail
    refine ((A1 _).out).mono ?_; rintro e w1 ⟨rfl, h1⟩
    go_wp2_with fail
    refine ((A2 _).out).mono ?_; rintro e w' ⟨rfl, rfl⟩
    go_wp2_with fail
    refine ((A3 _).out).mono ?_; rintro e w2 ⟨rfl, h2⟩
    go_wp2_with fail
    refine ((A4 _).out).mono ?_; rintro e w' ⟨rfl, rfl⟩
    go_wp2_with fail
    refine ((A5 _).out).mono ?_; rintro e w3 ⟨rfl, h3⟩
    go_wp2_with fail
    refine ((A6 _).out).mono ?_; rintro e w' ⟨rfl, rfl⟩
    go_wp2_with fail
    refine ((A7 _).out).mono ?_; rintro e w4 ⟨rfl, h4⟩
    go_wp2_with fail
    refine ((A8 _).out).mono ?_; rintro e w' ⟨rfl, rfl⟩
    go_wp2_with fail
    refine (awake23_any _).mono ?_; rintro e w5 ⟨rfl, h5⟩
    go_wp2
    go_ret
    have s1 := h1.size; have s2 := h2.size; have s3 := h3.size; have s4 := h4.size
    exact ⟨rfl, h1.trans ((h2.mono (by omega)).trans ((h3.mono (by omega)).trans ((h4.mono (by omega)).trans (h5.mono (by omega)))))⟩
  · rw [decide_eq_false hs] at HS
    go_enter Try.func6, Try.ntmps6
    go_wp2_with fail
    refine ((HS _).out).mono ?_; rintro e w' ⟨rfl, rfl⟩
    go_wp2_with fail
    refine (awake23_any _).mono ?_; rintro e w5 ⟨rfl, h5⟩
    go_wp2
    go_ret
    exact ⟨rfl, h5⟩

set_option maxHeartbeats 1000000 in
theorem pairs_any (a b c : ByteArray) (w : World) : Calls Try.prog 7 #[.string a, .string b, .string c] w fun e w' => e = .returned (.bool true) ∧ Below w.heap.size w w' := by
  have HS := fun w => Lib.hid (short_any a b c w)
  by_cases hs : a.size ≤ 5000 ∧ b.size ≤ 5000 ∧ c.size ≤ 5000
  · rw [decide_eq_true hs] at HS
    obtain ⟨ha, hb, hc⟩ := hs
    have A1 := fun w => Lib.hid (move_any a b c (by omega) (by omega) (by omega) w)
    have A2 := fun w => Lib.hid (refMove_any a b c (by omega) (by omega) (by omega) w)
    have A3 := fun w => Lib.hid (under_any a b (by omega) (by omega) w)
    have A4 := fun w => Lib.hid (refUnder_any a b (by omega) (by omega) w)
    have A5 := fun w => Lib.hid (next_any a b (by omega) w)
    have A6 := fun w => Lib.hid (refNext_any a b (by omega) (by omega) w)
    unfold nameE at A2
    simp only [moveR_eq, moveOk_eq, next_eq] at A1 A5
    generalize (if refMoveOk a b c = true then (0 : Int) else 220) = n at *
    generalize refMoveR a b c = m at *
    generalize underR a b = u at *
    generalize refNextR a b = x at *
    clear ha hb hc
    go_enter Try.func7, Try.ntmps7
    go_wp2_with fail
    refine ((HS _).out).mono ?_; rintro e w' ⟨rfl, rfl⟩
    go_wp2_with fail
    refine ((A1 _).out).mono ?_; rintro e w1 ⟨rfl, h1⟩
    go_wp2_with fail
    refine ((A2 _).out).mono ?_; rintro e w' ⟨rfl, rfl⟩
    go_wp2_with fail
    refine ((A3 _).out).mono ?_; rintro e w2 ⟨rfl, h2⟩
    go_wp2_with fail
    refine ((A4 _).out).mono ?_; rintro e w' ⟨rfl, rfl⟩
    go_wp2_with fail
    refine ((A5 _).out).mono ?_; rintro e w3 ⟨rfl, h3⟩
    go_wp2_with fail
    refine ((A6 _).out).mono ?_; rintro e w' ⟨rfl, rfl⟩
    go_wp2_with fail
    refine (awake23_any _).mono ?_; rintro e w5 ⟨rfl, h5⟩
    go_wp2
    go_ret
    have s1 := h1.size; have s2 := h2.size; have s3 := h3.size
    exact ⟨rfl, h1.trans ((h2.mono (by omega)).trans ((h3.mono (by omega)).trans (h5.mono (by omega))))⟩
  · rw [decide_eq_false hs] at HS
    clear hs
    go_enter Try.func7, Try.ntmps7
    go_wp2_with fail
    refine ((HS _).out).mono ?_; rintro e w' ⟨rfl, rfl⟩
    go_wp2_with fail
    refine (awake23_any _).mono ?_; rintro e w5 ⟨rfl, h5⟩
    go_wp2
    go_ret
    exact ⟨rfl, h5⟩
end Go.Proofs.Ytpmmccmhmoihgaa
