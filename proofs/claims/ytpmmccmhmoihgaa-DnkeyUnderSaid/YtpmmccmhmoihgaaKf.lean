/- Keys: what the walks tell, joined with the plain facts; awake and short. No condition. -/
import Derived.Test.YtpmmccmhmoihgaaKd
import Derived.Test.YtpmmccmhmoihgaaKe
import Derived.WalkLawsBesides
namespace Go.Proofs.Ytpmmccmhmoihgaa
open Go.RowKit

theorem empty_list {s : ByteArray} : s.size = 0 ↔ s.data.toList = [] := by
  rw [Lib.size_eq]; exact List.length_eq_zero_iff

theorem aboveR_list {s : ByteArray} (h : hasAbove s = true) : isK s = true ∧ s.data.toList ≠ [] ∧ (aboveR s).data.toList = Key.above s.data.toList := by
  unfold hasAbove at h
  rw [Bool.and_eq_true] at h
  have h0 : ¬ s.size = 0 := by simpa using h.1
  refine ⟨h.2, fun e => h0 (empty_list.2 e), ?_⟩
  unfold aboveR
  rw [if_neg (by rintro (h1 | h1); exact h0 h1; rw [h.2] at h1; cases h1), Lib.extract_data]
  unfold Key.above
  rw [Lib.size_eq]; simp

theorem isK_depth {s : ByteArray} : isK s = true ↔ ∃ d, Key.depth s.data.toList = some d := by
  unfold isK Key.isKey; exact Option.isSome_iff_exists
theorem depthI_some {s : ByteArray} {d : Nat} (h : Key.depth s.data.toList = some d) : depthI s = d := by unfold depthI; rw [h]

theorem bytes_ext {a b : ByteArray} (h : a.data.toList = b.data.toList) : a = b := by
  rw [← Lib.mk_data a, ← Lib.mk_data b, h]

theorem next_eq (a b : ByteArray) : nextR a b = refNextR a b := by
  rw [Bool.eq_iff_iff]
  constructor
  · intro h
    unfold nextR at h
    rw [Bool.and_eq_true] at h
    obtain ⟨h1, h2⟩ := h
    obtain ⟨hk, hne, hl⟩ := aboveR_list h1
    have hb : b.data.toList = Key.above a.data.toList := by
      have := eq_of_beq h2
      rw [Lib.toList_data, Lib.toList_data] at this
      rw [← this, hl]
    obtain ⟨d, hd⟩ := isK_depth.1 hk
    obtain ⟨e1, e2⟩ := Key.depth_above _ d hd hne
    unfold refNextR underR
    have hkb : isK b = true := isK_depth.2 ⟨d - 1, by rw [hb]; exact e1⟩
    rw [hk, hkb, depthI_some hd, depthI_some (s := b) (d := d - 1) (by rw [hb]; exact e1)]
    have hp : Lib.hasPrefix a.data.toList b.data.toList = true := by
      unfold Lib.hasPrefix; rw [hb]; exact Key.above_prefix _
    rw [hp]
    simp; omega
  · intro h
    unfold refNextR at h
    rw [Bool.and_eq_true] at h
    obtain ⟨h1, h2⟩ := h
    unfold underR at h1
    rw [Bool.and_eq_true, Bool.and_eq_true] at h1
    obtain ⟨⟨ha, hb⟩, hp⟩ := h1
    obtain ⟨da, hda⟩ := isK_depth.1 ha
    obtain ⟨db, hdb⟩ := isK_depth.1 hb
    have hd : da = db + 1 := by
      have := eq_of_beq h2
      rw [depthI_some hda, depthI_some hdb] at this
      omega
    subst hd
    unfold Lib.hasPrefix at hp
    rw [List.isPrefixOf_iff_prefix] at hp
    obtain ⟨r, hr⟩ := hp
    have hne : a.data.toList ≠ [] := by
      intro e
      rw [e] at hda
      simp [Key.depth, Key.scan] at hda
    have hab : Key.above a.data.toList = b.data.toList := by
      rw [← hr]
      exact Key.above_unique _ _ db hdb (by rw [hr]; exact hda)
    have hA : hasAbove a = true := by
      unfold hasAbove
      rw [ha, decide_eq_false (fun e => hne (empty_list.1 e))]; rfl
    unfold nextR
    rw [hA, Lib.toList_data, Lib.toList_data, (aboveR_list hA).2.2, hab]
    simp

theorem moveOk_eq (key fr to : ByteArray) : moveOk key fr to = refMoveOk key fr to := by
  unfold moveOk refMoveOk underR
  cases Lib.hasPrefix key.data.toList fr.data.toList <;> cases isK key <;> cases isK fr <;> cases isK to <;> rfl

theorem moveR_eq (key fr to : ByteArray) : moveR key fr to = refMoveR key fr to := by
  unfold moveR refMoveR
  rw [moveOk_eq]
  by_cases h : refMoveOk key fr to = true
  · rw [if_pos h, if_pos h]
    rw [← moveOk_eq] at h
    unfold moveOk at h
    rw [Bool.and_eq_true] at h
    congr 1
    apply bytes_ext
    rw [Lib.extract_data]
    show Lib.trimPrefix _ _ = _
    unfold Lib.trimPrefix
    rw [if_pos h.1]
    rw [Lib.size_eq fr, List.take_of_length_le (by rw [List.length_drop, Lib.size_eq]; exact Nat.le_refl _)]
  · rw [if_neg h, if_neg h]

theorem short_any (a b c : ByteArray) (w : World) :
    Calls Try.prog 23 #[.string a, .string b, .string c] w fun e w' => e = .returned (.bool (decide (a.size ≤ 5000 ∧ b.size ≤ 5000 ∧ c.size ≤ 5000))) ∧ w' = w := by
  by_cases ha : a.size ≤ 5000
  · have d1 : decide (a.size ≤ 5000) = true := decide_eq_true ha
    by_cases hb : b.size ≤ 5000
    · have d2 : decide (b.size ≤ 5000) = true := decide_eq_true hb
      by_cases hc : c.size ≤ 5000
      · have d3 : decide (c.size ≤ 5000) = true := decide_eq_true hc
        rw [decide_eq_true (⟨ha, hb, hc⟩ : a.size ≤ 5000 ∧ b.size ≤ 5000 ∧ c.size ≤ 5000)]
        have d4 : decide ((c.size : Int) ≤ 5000) = true := decide_eq_true (by omega)
        go_enter Try.func23, Try.ntmps23
        go_wp2
        go_ret
        exact ⟨rfl, rfl⟩
      · have d3 : decide (c.size ≤ 5000) = false := decide_eq_false hc
        rw [decide_eq_false (fun h : a.size ≤ 5000 ∧ b.size ≤ 5000 ∧ c.size ≤ 5000 => hc h.2.2)]
        have d4 : decide ((c.size : Int) ≤ 5000) = false := decide_eq_false (by omega)
        go_enter Try.func23, Try.ntmps23
        go_wp2
        go_ret
        exact ⟨rfl, rfl⟩
    · have d2 : decide (b.size ≤ 5000) = false := decide_eq_false hb
      rw [decide_eq_false (fun h : a.size ≤ 5000 ∧ b.size ≤ 5000 ∧ c.size ≤ 5000 => hb h.2.1)]
      go_enter Try.func23, Try.ntmps23
      go_wp2
      go_ret
      exact ⟨rfl, rfl⟩
  · have d1 : decide (a.size ≤ 5000) = false := decide_eq_false ha
    rw [decide_eq_false (fun h : a.size ≤ 5000 ∧ b.size ≤ 5000 ∧ c.size ≤ 5000 => ha h.1)]
    go_enter Try.func23, Try.ntmps23
    go_wp2
    go_ret
    exact ⟨rfl, rfl⟩

def oa : ByteArray := ⟨#[111, 61, 97, 0]⟩
set_option maxHeartbeats 1000000 in
theorem awake23_any (w : World) : Calls Try.prog 24 #[] w fun e w' => e = .returned (.bool true) ∧ Below w.heap.size w w' := by
  have a1 : aboveR ⟨#[111, 61, 97, 0, 99, 110, 61, 98, 0]⟩ = ⟨#[111, 61, 97, 0]⟩ := by decide +kernel
  have a2 : hasAbove ⟨#[111, 61, 97, 0, 99, 110, 61, 98, 0]⟩ = true := by decide +kernel
  have m1 : moveR ⟨#[111, 61, 97, 0, 99, 110, 61, 98, 0]⟩ ⟨#[111, 61, 97, 0]⟩ ⟨#[111, 61, 99, 0]⟩ = ⟨#[111, 61, 99, 0, 99, 110, 61, 98, 0]⟩ := by decide +kernel
  have m2 : moveOk ⟨#[111, 61, 97, 0, 99, 110, 61, 98, 0]⟩ ⟨#[111, 61, 97, 0]⟩ ⟨#[111, 61, 99, 0]⟩ = true := by decide +kernel
  have m3 : moveR ⟨#[111, 61, 97, 0]⟩ ⟨#[111, 61, 99, 0]⟩ ⟨#[]⟩ = ⟨#[]⟩ := by decide +kernel
  have m4 : moveOk ⟨#[111, 61, 97, 0]⟩ ⟨#[111, 61, 99, 0]⟩ ⟨#[]⟩ = false := by decide +kernel
  have d1 : depthI ⟨#[111, 61, 97, 0, 99, 110, 61, 98, 0]⟩ = 2 := by decide +kernel
  have k1 : isK ⟨#[97]⟩ = false := by decide +kernel
  have u1 : underR ⟨#[97, 0, 98, 0]⟩ ⟨#[97, 0]⟩ = true := by decide +kernel
  have u2 : underR ⟨#[97, 98, 0]⟩ ⟨#[97, 0]⟩ = false := by decide +kernel
  have n1 : nextR ⟨#[97, 0]⟩ ⟨#[]⟩ = true := by decide +kernel
  have b1 : behindR ⟨#[97, 0]⟩ = ⟨#[97, 1]⟩ := by decide +kernel
  have A := Lib.hid a1; have A2 := Lib.hid a2; have M1 := Lib.hid m1; have M2 := Lib.hid m2; have M3 := Lib.hid m3; have M4 := Lib.hid m4; have D1 := Lib.hid d1; have K1 := Lib.hid k1; have U1 := Lib.hid u1; have U2 := Lib.hid u2; have N1 := Lib.hid n1; have B1 := Lib.hid b1
  clear a1 a2 m1 m2 m3 m4 d1 k1 u1 u2 n1 b1
  go_enter Try.func24, Try.ntmps24
  go_wp2_with fail
  refine (above_any _ (by decide) _).mono ?_; rintro e w1 ⟨rfl, h1⟩; rw [A.out, A2.out]
  go_wp2_with fail
  refine (move_any _ _ _ (by decide) (by decide) (by decide) _).mono ?_; rintro e w2 ⟨rfl, h2⟩; rw [M1.out, M2.out]; simp only [if_true]
  go_wp2_with fail
  refine (move_any _ _ _ (by decide) (by decide) (by decide) _).mono ?_; rintro e w3 ⟨rfl, h3⟩; rw [M3.out, M4.out]; simp only [Bool.false_eq_true, if_false]
  go_wp2_with fail
  refine (depth_any _ (by decide) _).mono ?_; rintro e w4 ⟨rfl, h4⟩; rw [D1.out]
  go_wp2_with fail
  refine (check_any _ (by decide) _).mono ?_; rintro e w5 ⟨rfl, h5⟩; rw [K1.out]; simp only [Bool.false_eq_true, if_false]
  go_wp2_with fail
  refine (under_any _ _ (by decide) (by decide) _).mono ?_; rintro e w6 ⟨rfl, h6⟩; rw [U1.out]
  go_wp2_with fail
  refine (under_any _ _ (by decide) (by decide) _).mono ?_; rintro e w7 ⟨rfl, h7⟩; rw [U2.out]
  go_wp2_with fail
  refine (next_any _ _ (by decide) _).mono ?_; rintro e w8 ⟨rfl, h8⟩; rw [N1.out]
  go_wp2_with fail
  refine (behind_any _ (by decide) _).mono ?_; rintro e w9 ⟨rfl, h9⟩; rw [B1.out]
  go_wp2
  go_ret
  have s1 := h1.size; have s2 := h2.size; have s3 := h3.size; have s4 := h4.size; have s5 := h5.size; have s6 := h6.size; have s7 := h7.size; have s8 := h8.size
  exact ⟨rfl, h1.trans ((h2.mono (by omega)).trans ((h3.mono (by omega)).trans ((h4.mono (by omega)).trans ((h5.mono (by omega)).trans ((h6.mono (by omega)).trans ((h7.mono (by omega)).trans ((h8.mono (by omega)).trans (h9.mono (by omega)))))))))⟩

end Go.Proofs.Ytpmmccmhmoihgaa
