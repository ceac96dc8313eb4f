/- The walks of the document's answer on keys. No condition. -/
import Derived.Test.YtpmmccmhmoihgaaKc
namespace Go.Proofs.Ytpmmccmhmoihgaa
open Go.RowKit

/-- The error of bytes that are a key, or none. -/
def nameE (k : Bool) : Int := if k = true then 0 else 220

theorem byte_at (s : ByteArray) (k : Nat) (h : k < s.size) : s.data.toList.getD k 0 = s[k] := by
  have h' : k < s.data.size := h
  rw [List.getD_eq_getElem?_getD, Array.getElem?_toList, Array.getElem?_eq_getElem h']; rfl

theorem byte_zero (b : UInt8) : b.toNat = 0 ↔ b = 0 := ⟨fun h => UInt8.toNat_inj.1 h, fun h => by rw [h]; rfl⟩

/-- The two facts of a byte, in the walk's own spelling. -/
theorem byte_yes {b : UInt8} (h : b = 0) : b.toNat = 0 ∧ ((b.toNat : Int) == 0) = true ∧ ((b.toNat : Int) != 0) = false := by subst h; exact ⟨rfl, rfl, rfl⟩
theorem byte_no {b : UInt8} (h : ¬ b = 0) : ¬ b.toNat = 0 ∧ ((b.toNat : Int) == 0) = false ∧ ((b.toNat : Int) != 0) = true := by
  have : ¬ b.toNat = 0 := fun e => h ((byte_zero b).1 e)
  have h2 : ((b.toNat : Int) == 0) = false := beq_eq_false_iff_ne.2 (by omega)
  exact ⟨this, h2, by simp [bne, h2]⟩

set_option maxHeartbeats 1000000 in
theorem refCheck_any (s : ByteArray) (hs : s.size ≤ 1000000) (w : World) :
    Calls Try.prog 28 #[.string s] w fun e w' => e = .returned (.int .i64 (nameE (isK s))) ∧ w' = w := by
  go_enter Try.func28, Try.ntmps28
  go_wp2
  go_loop [3] (fun i => ∃ k : Nat, k ≤ s.size ∧ i = .int .i64 k ∧ Key.seen s.data.toList k) (fun i => s.size - (intOf i).toNat)
  case atStart => exact ⟨0, Nat.zero_le _, rfl, Key.seen_start _⟩
  case round =>
    obtain ⟨k, hk, rfl, hseen⟩ := hrel
    have hlen := Lib.size_eq s
    have Hs := Lib.hid hseen
    have Hl := Lib.hid hlen
    clear hseen
    by_cases hlt : k < s.size
    · have hb := byte_at s k hlt
      have hlt' : k < s.data.toList.length := by omega
      have Hlt := Lib.hid hlt'
      clear hlen hlt'
      by_cases hz : s[k] = 0
      · obtain ⟨z1, z2, z3⟩ := byte_yes hz
        have hz' : s.data.toList.getD k 0 = 0 := hb.trans hz
        have Hz := Lib.hid hz'
        clear hb hz hz'
        by_cases h0 : 0 < k
        · have hp := byte_at s (k - 1) (by omega)
          have q1 : (0 : Int) ≤ (k : Int) - 1 := by omega
          have q2 : (k : Int) - 1 < (s.size : Int) := by omega
          have q3 : ((k : Int) == 0) = false := beq_eq_false_iff_ne.2 (by omega)
          by_cases hpz : s[k - 1] = 0
          · obtain ⟨y1, y2, y3⟩ := byte_yes hpz
            have hbad : Hid (isK s = false) := Key.seen_bad _ k Hlt.out Hz.out (by unfold Key.begun; rw [hp, hpz]; simp) Hs.out
            clear hp hpz
            go_wp2
            go_ret
            exact ⟨(by rw [hbad.out]; rfl : Ending.returned (.int .i64 220) = Ending.returned (.int .i64 (nameE (isK s)))), rfl⟩
          · obtain ⟨y1, y2, y3⟩ := byte_no hpz
            have hnext : Hid (Key.seen s.data.toList (k + 1)) := Key.seen_step _ k Hlt.out (fun _ => by unfold Key.begun; rw [hp]; simp; exact ⟨h0, hpz⟩) Hs.out
            clear hp hpz
            go_wp2
            go_round
            case rel => exact ⟨k + 1, by omega, by go_num, hnext.out⟩
            case measure => simp [intOf]; omega
        · obtain rfl : k = 0 := by omega
          have hbad : Hid (isK s = false) := Key.seen_bad _ 0 Hlt.out Hz.out rfl Hs.out
          go_wp2
          go_ret
          exact ⟨(by rw [hbad.out]; rfl : Ending.returned (.int .i64 220) = Ending.returned (.int .i64 (nameE (isK s)))), rfl⟩
      · obtain ⟨z1, z2, z3⟩ := byte_no hz
        have hnext : Hid (Key.seen s.data.toList (k + 1)) := Key.seen_step _ k Hlt.out (fun h => absurd (hb.symm.trans h) hz) Hs.out
        clear hb hz
        go_wp2
        go_round
        case rel => exact ⟨k + 1, by omega, by go_num, hnext.out⟩
        case measure => simp [intOf]; omega
    · obtain rfl : k = s.size := by omega
      have hd : decide (s.size < s.size) = false := decide_eq_false (by omega)
      have hend : Hid (isK s = !(Key.begun s.data.toList s.size)) := by
        have h := Hs.out
        rw [hlen] at h ⊢
        exact Key.seen_end _ h
      clear hlen
      by_cases h0 : s.size = 0
      · have d0 : decide (0 < s.size) = false := decide_eq_false (by omega)
        have d1 : decide ((0 : Int) < (s.size : Int)) = false := decide_eq_false (by omega)
        have hyes : Hid (isK s = true) := by show _ = _; rw [hend.out, h0]; rfl
        have hlt0 : ¬ (0 : Int) < (s.size : Int) := by omega
        go_wp2
        go_ret
        exact ⟨(by rw [hyes.out]; rfl : Ending.returned (.int .i64 0) = Ending.returned (.int .i64 (nameE (isK s)))), rfl⟩
      · have hp := byte_at s (s.size - 1) (by omega)
        have q1 : (0 : Int) ≤ (s.size : Int) - 1 := by omega
        have q2 : (s.size : Int) - 1 < (s.size : Int) := by omega
        have hlt0 : (0 : Int) < (s.size : Int) := by omega
        have d0 : decide ((0 : Int) < (s.size : Int)) = true := decide_eq_true hlt0
        by_cases hpz : s[s.size - 1] = 0
        · obtain ⟨y1, y2, y3⟩ := byte_yes hpz
          have hyes : Hid (isK s = true) := by show _ = _; rw [hend.out]; unfold Key.begun; rw [hp, hpz]; simp
          clear hp hpz
          go_wp2
          go_ret
          exact ⟨(by rw [hyes.out]; rfl : Ending.returned (.int .i64 0) = Ending.returned (.int .i64 (nameE (isK s)))), rfl⟩
        · obtain ⟨y1, y2, y3⟩ := byte_no hpz
          have hno : Hid (isK s = false) := by show _ = _; rw [hend.out]; unfold Key.begun; rw [hp]; simp; exact ⟨by omega, hpz⟩
          clear hp hpz
          go_wp2
          go_ret
          exact ⟨(by rw [hno.out]; rfl : Ending.returned (.int .i64 220) = Ending.returned (.int .i64 (nameE (isK s)))), rfl⟩

theorem depthI_yes {s : ByteArray} (h : isK s = true) : depthI s = (s.data.toList.count 0 : Nat) := by
  unfold isK Key.isKey at h
  unfold depthI
  cases hd : Key.depth s.data.toList with
  | none => rw [hd] at h; cases h
  | some d => rw [← Key.scan_count _ _ _ hd]
theorem depthI_no {s : ByteArray} (h : isK s = false) : depthI s = -1 := by
  unfold isK Key.isKey at h
  unfold depthI
  cases hd : Key.depth s.data.toList with
  | none => rfl
  | some d => rw [hd] at h; cases h

set_option maxHeartbeats 400000 in
theorem refDepth_any (s : ByteArray) (hs : s.size ≤ 1000000) (w : World) :
    Calls Try.prog 30 #[.string s] w fun e w' => e = .returned (.int .i64 (depthI s)) ∧ w' = w := by
  have H := fun w => Lib.hid (refCheck_any s hs w)
  cases hk : isK s with
  | false =>
    rw [depthI_no hk]
    rw [hk] at H
    clear hk
    simp only [nameE, Bool.false_eq_true, if_false] at H
    go_enter Try.func30, Try.ntmps30
    go_wp2_with fail
    refine ((H _).out).mono ?_; rintro e w' ⟨rfl, rfl⟩
    go_wp2
    go_ret
    exact ⟨rfl, rfl⟩
  | true =>
    rw [depthI_yes hk]
    rw [hk] at H
    clear hk
    simp only [nameE, if_true] at H
    have hlen := Lib.size_eq s
    have Hl := Lib.hid hlen
    clear hlen
    go_enter Try.func30, Try.ntmps30
    go_wp2_with fail
    refine ((H _).out).mono ?_; rintro e w' ⟨rfl, rfl⟩
    go_wp2
    go_loop [3, 4] (fun n i => ∃ k : Nat, k ≤ s.size ∧ i = .int .i64 k ∧ n = .int .i64 (((s.data.toList.take k).count 0 : Nat) : Int)) (fun _ i => s.size - (intOf i).toNat)
    case atStart => exact ⟨0, Nat.zero_le _, rfl, by simp⟩
    case round =>
      obtain ⟨k, hk, rfl, rfl⟩ := hrel
      by_cases hlt : k < s.size
      · have hb := byte_at s k hlt
        have HS := Lib.hid (Key.count_snoc s.data.toList k (by rw [← Hl.out]; exact hlt))
        have hc : (s.data.toList.take k).count 0 ≤ k := Nat.le_trans (List.count_le_length ..) (List.length_take_le ..)
        generalize (s.data.toList.take k).count 0 = c at *
        by_cases hz : s[k] = 0
        · obtain ⟨z1, z2, z3⟩ := byte_yes hz
          have hz' := Lib.hid (hb.trans hz)
          clear hb hz
          go_wp2
          go_round
          case rel => exact ⟨k + 1, by omega, by go_num, by rw [HS.out, if_pos hz'.out]; go_num⟩
          case measure => simp [intOf]; omega
        · obtain ⟨z1, z2, z3⟩ := byte_no hz
          have hz' := Lib.hid (show ¬ s.data.toList.getD k 0 = 0 from fun h => hz (hb.symm.trans h))
          clear hb hz
          go_wp2
          go_round
          case rel => exact ⟨k + 1, by omega, by go_num, by rw [HS.out, if_neg hz'.out]; go_num⟩
          case measure => simp [intOf]; omega
      · obtain rfl : k = s.size := by omega
        have hd : decide (s.size < s.size) = false := decide_eq_false (by omega)
        have HT := Lib.hid (List.take_of_length_le (l := s.data.toList) (i := s.size) (Nat.le_of_eq Hl.out.symm))
        generalize hcc : (s.data.toList.take s.size).count 0 = c at *
        have HC := Lib.hid hcc
        clear hcc
        go_wp2
        go_ret
        refine ⟨?_, rfl⟩
        show Ending.returned (.int .i64 ((c : Nat) : Int)) = _
        rw [← HC.out, HT.out]; simp

/-- Above, by the depth. -/
theorem depth_pos (s : ByteArray) : depthI s < 1 ↔ hasAbove s = false := by
  unfold hasAbove
  cases hk : isK s with
  | false => rw [depthI_no hk]; simp
  | true =>
    rw [depthI_yes hk]
    by_cases h0 : s.size = 0
    · have : s.data.toList = [] := List.length_eq_zero_iff.1 (by rw [← Lib.size_eq]; exact h0)
      rw [this, decide_eq_true h0]; simp
    · rw [decide_eq_false h0]
      have h1 : s.data.toList.count 0 ≠ 0 := by
        intro hc
        unfold isK Key.isKey at hk
        cases hd : Key.depth s.data.toList with
        | none => rw [hd] at hk; cases hk
        | some d =>
          have := Key.scan_count _ _ _ hd
          rw [hc] at this
          subst this
          have hne := Key.scan_zero s.data.toList hd
          rw [Lib.size_eq, hne] at h0
          exact h0 rfl
      constructor
      · intro h; exfalso; omega
      · intro h; cases h

set_option maxHeartbeats 400000 in
theorem refAbove_any (s : ByteArray) (hs : s.size ≤ 1000000) (w : World) :
    Calls Try.prog 26 #[.string s] w fun e w' => e = .returned (.tuple #[.string (aboveR s), .bool (hasAbove s)]) ∧ w' = w := by
  have H := fun w => Lib.hid (refDepth_any s hs w)
  have HP := Lib.hid (depth_pos s)
  generalize depthI s = d at *
  cases ha : hasAbove s with
  | false =>
    have e1 : aboveR s = ⟨#[]⟩ := by
      unfold aboveR
      rw [if_pos]
      unfold hasAbove at ha
      by_cases h0 : s.size = 0
      · exact .inl h0
      · rw [decide_eq_false h0] at ha; exact .inr (by simpa using ha)
    rw [e1]
    have d1 : decide (d < 1) = true := decide_eq_true (HP.out.2 ha)
    clear ha e1
    go_enter Try.func26, Try.ntmps26
    go_wp2_with fail
    refine ((H _).out).mono ?_; rintro e w' ⟨rfl, rfl⟩
    go_wp2
    go_ret2
    exact ⟨rfl, rfl⟩
  | true =>
    have hk : isK s = true ∧ ¬ s.size = 0 := by
      unfold hasAbove at ha
      by_cases h0 : s.size = 0
      · rw [decide_eq_true h0] at ha; simp at ha
      · rw [decide_eq_false h0] at ha; exact ⟨by simpa using ha, h0⟩
    have e1 : aboveR s = s.extract 0 (Key.aboveAt s.data.toList (s.size - 1)) := by
      unfold aboveR
      rw [if_neg]
      rintro (h | h)
      · exact hk.2 h
      · rw [hk.1] at h; cases h
    have HE := Lib.hid e1
    have d1 : decide (d < 1) = false := decide_eq_false (fun h => by have := HP.out.1 h; rw [ha] at this; cases this)
    have hpos : 0 < s.size := by have := hk.2; omega
    clear ha e1 hk
    have q1 : (0 : Int) ≤ (s.size : Int) - 1 := by omega
    have hsub : Hid ((s.size : Int) - 1 = ((s.size - 1 : Nat) : Int)) := by show _ = _; omega
    go_enter Try.func26, Try.ntmps26
    go_wp2_with fail
    refine ((H _).out).mono ?_; rintro e w' ⟨rfl, rfl⟩
    go_wp2
    go_loop [4] (fun i => ∃ k : Nat, k + 1 ≤ s.size ∧ i = .int .i64 k ∧ Key.aboveAt s.data.toList k = Key.aboveAt s.data.toList (s.size - 1)) (fun i => (intOf i).toNat)
    case atStart => exact ⟨s.size - 1, by omega, by rw [hsub.out], rfl⟩
    case round =>
      obtain ⟨k, hk, rfl, hat⟩ := hrel
      have Hat := Lib.hid hat
      clear hat
      by_cases h0 : 0 < k
      · have hb := byte_at s (k - 1) (by omega)
        have q2 : (0 : Int) ≤ (k : Int) - 1 := by omega
        have q3 : (k : Int) - 1 < (s.size : Int) := by omega
        have q4 : (k : Int) ≤ (s.size : Int) := by omega
        have d0 : decide (0 < k) = true := decide_eq_true h0
        obtain ⟨m, hm⟩ : ∃ m, m = k - 1 := ⟨_, rfl⟩
        have hm' : k = m + 1 := by omega
        have Hm := Lib.hid hm
        have Hm' := Lib.hid hm'
        have hunf : Key.aboveAt s.data.toList k = if s.data.toList.getD (k - 1) 0 = 0 then k else Key.aboveAt s.data.toList (k - 1) := by
          rw [hm', Nat.add_sub_cancel]; rfl
        clear hm hm'
        by_cases hz : s[k - 1] = 0
        · obtain ⟨z1, z2, z3⟩ := byte_yes hz
          have hE2 : Hid (k = Key.aboveAt s.data.toList (s.size - 1)) := by
            show _ = _
            rw [← Hat.out, hunf, if_pos (hb.trans hz)]
          clear hb hz hunf
          go_wp2
          go_ret2
          exact ⟨(by rw [HE.out, ← hE2.out] : Ending.returned (.tuple #[.string (s.extract 0 k), .bool true]) = Ending.returned (.tuple #[.string (aboveR s), .bool true])), rfl⟩
        · obtain ⟨z1, z2, z3⟩ := byte_no hz
          have hE2 : Hid (Key.aboveAt s.data.toList m = Key.aboveAt s.data.toList (s.size - 1)) := by
            show _ = _
            rw [← Hat.out, hunf, if_neg (fun h => hz (hb.symm.trans h)), Hm.out]
          clear hb hz hunf
          go_wp2
          go_round
          case rel => exact ⟨m, by have := Hm'.out; omega, by rw [Hm'.out]; go_num, hE2.out⟩
          case measure => simp [intOf]; omega
      · obtain rfl : k = 0 := by omega
        have hE2 : Hid (0 = Key.aboveAt s.data.toList (s.size - 1)) := Hat.out
        go_wp2
        go_ret2
        exact ⟨(by rw [HE.out, ← hE2.out]; simp : Ending.returned (.tuple #[.string ByteArray.empty, .bool true]) = Ending.returned (.tuple #[.string (aboveR s), .bool true])), rfl⟩

theorem underR_raw (a b : ByteArray) (h : b.size ≤ a.size) : ((a.extract 0 b.size).toList == b.toList) = Lib.hasPrefix a.data.toList b.data.toList := by
  rw [← Lib.hasPrefix_raw, decide_eq_true h, Bool.true_and]
theorem underR_long (a b : ByteArray) (h : ¬ b.size ≤ a.size) : Lib.hasPrefix a.data.toList b.data.toList = false := by
  rw [← Lib.hasPrefix_raw, decide_eq_false h, Bool.false_and]

set_option maxHeartbeats 400000 in
theorem refUnder_any (a b : ByteArray) (ha : a.size ≤ 1000000) (hb : b.size ≤ 1000000) (w : World) :
    Calls Try.prog 36 #[.string a, .string b] w fun e w' => e = .returned (.bool (underR a b)) ∧ w' = w := by
  have H1 := fun w => Lib.hid (refCheck_any a ha w)
  have H2 := fun w => Lib.hid (refCheck_any b hb w)
  have HR := fun h => Lib.hid (underR_raw a b h)
  have HL := fun h => Lib.hid (underR_long a b h)
  unfold underR
  generalize isK a = x at *
  generalize isK b = y at *
  cases x
  · simp only [nameE, Bool.false_eq_true, if_false] at H1
    clear HR HL
    go_enter Try.func36, Try.ntmps36
    go_wp2_with fail
    refine ((H1 _).out).mono ?_; rintro e w' ⟨rfl, rfl⟩
    go_wp2
    go_ret
    exact ⟨rfl, rfl⟩
  · simp only [nameE, if_true] at H1
    cases y
    · simp only [nameE, Bool.false_eq_true, if_false] at H2
      clear HR HL
      go_enter Try.func36, Try.ntmps36
      go_wp2_with fail
      refine ((H1 _).out).mono ?_; rintro e w' ⟨rfl, rfl⟩
      go_wp2_with fail
      refine ((H2 _).out).mono ?_; rintro e w' ⟨rfl, rfl⟩
      go_wp2
      go_ret
      exact ⟨rfl, rfl⟩
    · simp only [nameE, if_true] at H2
      by_cases hsz : b.size ≤ a.size
      · have hr := HR hsz
        clear HR HL
        have d1 : decide (b.size ≤ a.size) = true := decide_eq_true hsz
        have q1 : (0 : Int) ≤ (b.size : Int) := by omega
        have q2 : (b.size : Int) ≤ (a.size : Int) := by omega
        go_enter Try.func36, Try.ntmps36
        go_wp2_with fail
        refine ((H1 _).out).mono ?_; rintro e w' ⟨rfl, rfl⟩
        go_wp2_with fail
        refine ((H2 _).out).mono ?_; rintro e w' ⟨rfl, rfl⟩
        go_wp2
        go_ret
        exact ⟨by rw [← hr.out]; rfl, rfl⟩
      · have hr := HL hsz
        clear HR HL
        have d1 : decide (b.size ≤ a.size) = false := decide_eq_false hsz
        go_enter Try.func36, Try.ntmps36
        go_wp2_with fail
        refine ((H1 _).out).mono ?_; rintro e w' ⟨rfl, rfl⟩
        go_wp2_with fail
        refine ((H2 _).out).mono ?_; rintro e w' ⟨rfl, rfl⟩
        go_wp2
        go_ret
        exact ⟨by rw [hr.out]; rfl, rfl⟩

def refNextR (a b : ByteArray) : Bool := underR a b && (depthI a == depthI b + 1)

theorem refNext_any (a b : ByteArray) (ha : a.size ≤ 1000000) (hb : b.size ≤ 1000000) (w : World) :
    Calls Try.prog 38 #[.string a, .string b] w fun e w' => e = .returned (.bool (refNextR a b)) ∧ w' = w := by
  have H := fun w => Lib.hid (refUnder_any a b ha hb w)
  have H1 := fun w => Lib.hid (refDepth_any a ha w)
  have H2 := fun w => Lib.hid (refDepth_any b hb w)
  have hd : depthI b ≤ 1000000 ∧ -1 ≤ depthI b := by
    cases hk : isK b with
    | false => rw [depthI_no hk]; omega
    | true =>
      rw [depthI_yes hk]
      have := List.count_le_length (a := (0 : UInt8)) (l := b.data.toList)
      rw [← Lib.size_eq] at this
      omega
  obtain ⟨hd1, hd2⟩ := hd
  unfold refNextR
  generalize underR a b = u at *
  generalize depthI a = x at *
  generalize depthI b = y at *
  cases u
  · go_enter Try.func38, Try.ntmps38
    go_wp2_with fail
    refine ((H _).out).mono ?_; rintro e w' ⟨rfl, rfl⟩
    go_wp2
    go_ret
    exact ⟨rfl, rfl⟩
  · go_enter Try.func38, Try.ntmps38
    go_wp2_with fail
    refine ((H _).out).mono ?_; rintro e w' ⟨rfl, rfl⟩
    go_wp2_with fail
    refine ((H1 _).out).mono ?_; rintro e w' ⟨rfl, rfl⟩
    go_wp2_with fail
    refine ((H2 _).out).mono ?_; rintro e w' ⟨rfl, rfl⟩
    go_wp2
    go_ret
    exact ⟨by rw [Bool.true_and]; rfl, rfl⟩

def refMoveOk (key fr to : ByteArray) : Bool := isK to && underR key fr
def refMoveR (key fr to : ByteArray) : ByteArray := if refMoveOk key fr to = true then to ++ key.extract fr.size key.size else ⟨#[]⟩

set_option maxHeartbeats 400000 in
theorem refMove_any (key fr to : ByteArray) (h1 : key.size ≤ 100000) (h2 : fr.size ≤ 100000) (h3 : to.size ≤ 100000) (w : World) :
    Calls Try.prog 34 #[.string key, .string fr, .string to] w fun e w' => e = .returned (.tuple #[.string (refMoveR key fr to), .int .i64 (nameE (refMoveOk key fr to))]) ∧ w' = w := by
  have H1 := fun w => Lib.hid (refCheck_any to (by omega) w)
  have H2 := fun w => Lib.hid (refUnder_any key fr (by omega) (by omega) w)
  have hu : underR key fr = true → fr.size ≤ key.size := by
    intro h
    unfold underR at h
    rw [Bool.and_eq_true] at h
    by_cases hs : fr.size ≤ key.size
    · exact hs
    · rw [underR_long _ _ hs] at h; cases h.2
  unfold refMoveR refMoveOk
  generalize isK to = x at *
  generalize underR key fr = u at *
  have hroom : ¬ 9223372036854775807 < to.size + (key.size - fr.size) := by omega
  have hroom2 : to.size + (key.size - fr.size) ≤ 9223372036854775807 := by omega
  cases x
  · simp only [nameE, Bool.false_eq_true, if_false] at H1
    clear hu
    go_enter Try.func34, Try.ntmps34
    go_wp2_with fail
    refine ((H1 _).out).mono ?_; rintro e w' ⟨rfl, rfl⟩
    go_wp2
    go_ret2
    exact ⟨rfl, rfl⟩
  · simp only [nameE, if_true] at H1
    cases u
    · clear hu
      go_enter Try.func34, Try.ntmps34
      go_wp2_with fail
      refine ((H1 _).out).mono ?_; rintro e w' ⟨rfl, rfl⟩
      go_wp2_with fail
      refine ((H2 _).out).mono ?_; rintro e w' ⟨rfl, rfl⟩
      go_wp2
      go_ret2
      exact ⟨rfl, rfl⟩
    · have hsz := hu rfl
      clear hu
      have q1 : (0 : Int) ≤ (fr.size : Int) := by omega
      have q2 : (fr.size : Int) ≤ (key.size : Int) := by omega
      go_enter Try.func34, Try.ntmps34
      go_wp2_with fail
      refine ((H1 _).out).mono ?_; rintro e w' ⟨rfl, rfl⟩
      go_wp2_with fail
      refine ((H2 _).out).mono ?_; rintro e w' ⟨rfl, rfl⟩
      go_wp2
      go_ret2
      exact ⟨rfl, rfl⟩

set_option maxHeartbeats 400000 in
theorem refBehind_any (s : ByteArray) (hs : s.size ≤ 1000000) (w : World) :
    Calls Try.prog 32 #[.string s] w fun e w' => e = .returned (.string (behindR s)) ∧ w' = w := by
  have H := fun w => Lib.hid (refDepth_any s hs w)
  have HP := Lib.hid (depth_pos s)
  generalize depthI s = d at *
  cases ha : hasAbove s with
  | false =>
    have e1 : behindR s = ⟨#[255]⟩ := by
      unfold behindR
      rw [if_pos]
      unfold hasAbove at ha
      by_cases h0 : s.size = 0
      · exact .inl h0
      · rw [decide_eq_false h0] at ha; exact .inr (by simpa using ha)
    rw [e1]
    have d1 : decide (d < 1) = true := decide_eq_true (HP.out.2 ha)
    clear ha e1
    go_enter Try.func32, Try.ntmps32
    go_wp2_with fail
    refine ((H _).out).mono ?_; rintro e w' ⟨rfl, rfl⟩
    go_wp2
    go_ret
    exact ⟨rfl, rfl⟩
  | true =>
    have hk : isK s = true ∧ ¬ s.size = 0 := by
      unfold hasAbove at ha
      by_cases h0 : s.size = 0
      · rw [decide_eq_true h0] at ha; simp at ha
      · rw [decide_eq_false h0] at ha; exact ⟨by simpa using ha, h0⟩
    have e1 : behindR s = s.extract 0 (s.size - 1) ++ ⟨#[1]⟩ := by
      unfold behindR
      rw [if_neg]
      rintro (h | h)
      · exact hk.2 h
      · rw [hk.1] at h; cases h
    rw [e1]
    have d1 : decide (d < 1) = false := decide_eq_false (fun h => by have := HP.out.1 h; rw [ha] at this; cases this)
    have hpos : 0 < s.size := by have := hk.2; omega
    clear ha e1 hk
    have q1 : (0 : Int) ≤ (s.size : Int) - 1 := by omega
    have q2 : (s.size : Int) - 1 ≤ (s.size : Int) := by omega
    have hroom : ¬ 9223372036854775807 < s.size - 1 + 1 := by omega
    have hroom2 : s.size - 1 + 1 ≤ 9223372036854775807 := by omega
    go_enter Try.func32, Try.ntmps32
    go_wp2_with fail
    refine ((H _).out).mono ?_; rintro e w' ⟨rfl, rfl⟩
    go_wp2
    go_ret
    exact ⟨rfl, rfl⟩
end Go.Proofs.Ytpmmccmhmoihgaa
