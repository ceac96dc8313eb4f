/- The walks of the document's answer on keys. No condition. -/
import Derived.Test.YtljeeehimcdmbaaGreatDoorMGreatDoorKc
namespace Go.Proofs.YtljeeehimcdmbaaGreatDoor.Dk
open Go.RowKit

/-- The error of bytes that are a key, or none. -/
def nameE (k : Bool) : Int := if k = true then 0 else 220

theorem byte_at (s : ByteArray) (k : Nat) (h : k < s.size) : s.data.toList.getD k 0 = s[k] := by
  have h' : k < s.data.size := h
  rw [List.getD_eq_getElem?_getD, Array.getElem?_toList, Array.getElem?_eq_getElem h']; rfl

theorem byte_zero (b : UInt8) : b.toNat = 0 ↔ b = 0 := ⟨fun h => UInt8.toNat_inj.1 h, fun h => by rw [h]; rfl⟩

/-- The two facts of a byte, in the walk's own spelling. -/
theorem byte_yes {b : UInt8} (h : b = 0) : b.toNat = 0 ∧ ((b.toNat : Int) == 0) = true ∧ ((b.toNat : Int) != 0) = false := by subst h; exact ⟨rfl, rfl, rfl⟩
theorem byte_no {b : UInt8} (h : ¬ b = 0) : ¬ b.toNat = 0 ∧ ((b.toNat : Int) == 0) = false ∧ ((b.toNat : Int) != 0) = true := by
  have : ¬ b.toNat = 0 := fun e => h ((byte_zero b).1 e)
  have h2 : ((b.toNat : Int) == 0) = false := beq_eq_false_iff_ne.2 (by omega)
  exact ⟨this, h2, by simp [bne, h2]⟩

set_option maxHeartbeats 1000000 in
theorem refCheck_any (s : ByteArray) (hs : s.size ≤ 1000000) (w : World) :
    Calls Tryz.prog 55 #[.string s] w fun e w' => e = .returned (.int .i64 (nameE (isK s))) ∧ w' = w := by
  go_enter Tryz.func55, Tryz.ntmps55
  go_wp2
  go_loop [3] (fun i => ∃ k : Nat, k ≤ s.size ∧ i = .int .i64 k ∧ Key.seen s.data.toList k) (fun i => s.size - (intOf i).toNat)
  case atStart => exact ⟨0, Nat.zero_le _, rfl, Key.seen_start _⟩
  case round =>
    obtain ⟨k, hk, rfl, hseen⟩ := hrel
    have hlen := Lib.size_eq s
    have Hs := Lib.hid hseen
    have Hl := Lib.hid hlen
    clear hseen
    by_cases hlt : k < s.size
    · have hb := byte_at s k hlt
      have hlt' : k < s.data.toList.length := by omega
      have Hlt := Lib.hid hlt'
      clear hlen hlt'
      by_cases hz : s[k] = 0
      · obtain ⟨z1, z2, z3⟩ := byte_yes hz
        have hz' : s.data.toList.getD k 0 = 0 := hb.trans hz
        have Hz := Lib.hid hz'
        clear hb hz hz'
        by_cases h0 : 0 < k
        · have hp := byte_at s (k - 1) (by omega)
          have q1 : (0 : Int) ≤ (k : Int) - 1 := by omega
          have q2 : (k : Int) - 1 < (s.size : Int) := by omega
          have q3 : ((k : Int) == 0) = false := beq_eq_false_iff_ne.2 (by omega)
          by_cases hpz : s[k - 1] = 0
          · obtain ⟨y1, y2, y3⟩ := byte_yes hpz
            have hbad : Hid (isK s = false) := Key.seen_bad _ k Hlt.out Hz.out (by unfold Key.begun; rw [hp, hpz]; simp) Hs.out
            clear hp hpz
            go_wp2
            go_ret
            exact ⟨(by rw [hbad.out]; rfl : Ending.returned (.int .i64 220) = Ending.returned (.int .i64 (nameE (isK s)))), rfl⟩
          · obtain ⟨y1, y2, y3⟩ := byte_no hpz
            have hnext : Hid (Key.seen s.data.toList (k + 1)) := Key.seen_step _ k Hlt.out (fun _ => by unfold Key.begun; rw [hp]; simp; exact ⟨h0, hpz⟩) Hs.out
            clear hp hpz
            go_wp2
            go_round
            case rel => exact ⟨k + 1, by omega, by go_num, hnext.out⟩
            case measure => simp [intOf]; omega
        · obtain rfl : k = 0 := by omega
          have hbad : Hid (isK s = false) := Key.seen_bad _ 0 Hlt.out Hz.out rfl Hs.out
          go_wp2
          go_ret
          exact ⟨(by rw [hbad.out]; rfl : Ending.returned (.int .i64 220) = Ending.returned (.int .i64 (nameE (isK s)))), rfl⟩
      · obtain ⟨z1, z2, z3⟩ := byte_no hz
        have hnext : Hid (Key.seen s.data.toList (k + 1)) := Key.seen_step _ k Hlt.out (fun h => absurd (hb.symm.trans h) hz) Hs.out
        clear hb hz
        go_wp2
        go_round
        case rel => exact ⟨k + 1, by omega, by go_num, hnext.out⟩
        case measure => simp [intOf]; omega
    · obtain rfl : k = s.size := by omega
      have hd : decide (s.size < s.size) = false := decide_eq_false (by omega)
      have hend : Hid (isK s = !(Key.begun s.data.toList s.size)) := by
        have h := Hs.out
        rw [hlen] at h ⊢
        exact Key.seen_end _ h
      clear hlen
      by_cases h0 : s.size = 0
      · have d0 : decide (0 < s.size) = false := decide_eq_false (by omega)
        have d1 : decide ((0 : Int) < (s.size : Int)) = false := decide_eq_false (by omega)
        have hyes : Hid (isK s = true) := by show _ = _; rw [hend.out, h0]; rfl
        have hlt0 : ¬ (0 : Int) < (s.size : Int) := by omega
        go_wp2
        go_ret
        exact ⟨(by rw [hyes.out]; rfl : Ending.returned (.int .i64 0) = Ending.returned (.int .i64 (nameE (isK s)))), rfl⟩
      · have hp := byte_at s (s.size - 1) (by omega)
        have q1 : (0 : Int) ≤ (s.size : Int) - 1 := by omega
        have q2 : (s.size : Int) - 1 < (s.size : Int) := by omega
        have hlt0 : (0 : Int) < (s.size : Int) := by omega
        have d0 : decide ((0 : Int) < (s.size : Int)) = true := decide_eq_true hlt0
        by_cases hpz : s[s.size - 1] = 0
        · obtain ⟨y1, y2, y3⟩ := byte_yes hpz
          have hyes : Hid (isK s = true) := by show _ = _; rw [hend.out]; unfold Key.begun; rw [hp, hpz]; simp
          clear hp hpz
          go_wp2
          go_ret
          exact ⟨(by rw [hyes.out]; rfl : Ending.returned (.int .i64 0) = Ending.returned (.int .i64 (nameE (isK s)))), rfl⟩
        · obtain ⟨y1, y2, y3⟩ := byte_no hpz
          have hno : Hid (isK s = false) := by show _ = _; rw [hend.out]; unfold Key.begun; rw [hp]; simp; exact ⟨by omega, hpz⟩
          clear hp hpz
          go_wp2
          go_ret
          exact ⟨(by rw [hno.out]; rfl : Ending.returned (.int .i64 220) = Ending.returned (.int .i64 (nameE (isK s)))), rfl⟩

theorem underR_raw (a b : ByteArray) (h : b.size ≤ a.size) : ((a.extract 0 b.size).toList == b.toList) = Lib.hasPrefix a.data.toList b.data.toList := by
  rw [← Lib.hasPrefix_raw, decide_eq_true h, Bool.true_and]
theorem underR_long (a b : ByteArray) (h : ¬ b.size ≤ a.size) : Lib.hasPrefix a.data.toList b.data.toList = false := by
  rw [← Lib.hasPrefix_raw, decide_eq_false h, Bool.false_and]

set_option maxHeartbeats 400000 in
theorem refUnder_any (a b : ByteArray) (ha : a.size ≤ 1000000) (hb : b.size ≤ 1000000) (w : World) :
    Calls Tryz.prog 40 #[.string a, .string b] w fun e w' => e = .returned (.bool (underR a b)) ∧ w' = w := by
  have H1 := fun w => Lib.hid (refCheck_any a ha w)
  have H2 := fun w => Lib.hid (refCheck_any b hb w)
  have HR := fun h => Lib.hid (underR_raw a b h)
  have HL := fun h => Lib.hid (underR_long a b h)
  unfold underR
  generalize isK a = x at *
  generalize isK b = y at *
  cases x
  · simp only [nameE, Bool.false_eq_true, if_false] at H1
    clear HR HL
    go_enter Tryz.func40, Tryz.ntmps40
    go_wp2_with fail
    refine ((H1 _).out).mono ?_; rintro e w' ⟨rfl, rfl⟩
    go_wp2
    go_ret
    exact ⟨rfl, rfl⟩
  · simp only [nameE, if_true] at H1
    cases y
    · simp only [nameE, Bool.false_eq_true, if_false] at H2
      clear HR HL
      go_enter Tryz.func40, Tryz.ntmps40
      go_wp2_with fail
      refine ((H1 _).out).mono ?_; rintro e w' ⟨rfl, rfl⟩
      go_wp2_with fail
      refine ((H2 _).out).mono ?_; rintro e w' ⟨rfl, rfl⟩
      go_wp2
      go_ret
      exact ⟨rfl, rfl⟩
    · simp only [nameE, if_true] at H2
      by_cases hsz : b.size ≤ a.size
      · have hr := HR hsz
        clear HR HL
        have d1 : decide (b.size ≤ a.size) = true := decide_eq_true hsz
        have q1 : (0 : Int) ≤ (b.size : Int) := by omega
        have q2 : (b.size : Int) ≤ (a.size : Int) := by omega
        go_enter Tryz.func40, Tryz.ntmps40
        go_wp2_with fail
        refine ((H1 _).out).mono ?_; rintro e w' ⟨rfl, rfl⟩
        go_wp2_with fail
        refine ((H2 _).out).mono ?_; rintro e w' ⟨rfl, rfl⟩
        go_wp2
        go_ret
        exact ⟨by rw [← hr.out]; rfl, rfl⟩
      · have hr := HL hsz
        clear HR HL
        have d1 : decide (b.size ≤ a.size) = false := decide_eq_false hsz
        go_enter Tryz.func40, Tryz.ntmps40
        go_wp2_with fail
        refine ((H1 _).out).mono ?_; rintro e w' ⟨rfl, rfl⟩
        go_wp2_with fail
        refine ((H2 _).out).mono ?_; rintro e w' ⟨rfl, rfl⟩
        go_wp2
        go_ret
        exact ⟨by rw [hr.out]; rfl, rfl⟩

end Go.Proofs.YtljeeehimcdmbaaGreatDoor.Dk
