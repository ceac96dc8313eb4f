/- The walk of DnkeyMoves. No condition. -/
import Derived.Test.YtpmmccmhmoihgaaKf
namespace Go.Proofs.Ytpmmccmhmoihgaa
open Go.RowKit

theorem append_list (a b : ByteArray) : (a ++ b).data.toList = a.data.toList ++ b.data.toList := by
  rw [ByteArray.data_append, Array.toList_append]

theorem move_facts (key fr to : ByteArray) (h : moveOk key fr to = true) :
    moveOk (moveR key fr to) to fr = true ∧ moveR (moveR key fr to) to fr = key ∧ underR (moveR key fr to) to = true ∧ depthI (moveR key fr to) - depthI to = depthI key - depthI fr := by
  have h' := h
  unfold moveOk at h'
  rw [Bool.and_eq_true, Bool.and_eq_true, Bool.and_eq_true] at h'
  obtain ⟨hp, ⟨hk, hf⟩, ht⟩ := h'
  unfold Lib.hasPrefix at hp
  rw [List.isPrefixOf_iff_prefix] at hp
  obtain ⟨r, hr⟩ := hp
  obtain ⟨dk, hdk⟩ := isK_depth.1 hk
  obtain ⟨df, hdf⟩ := isK_depth.1 hf
  obtain ⟨dt, hdt⟩ := isK_depth.1 ht
  have hm : (moveR key fr to).data.toList = to.data.toList ++ r := by
    unfold moveR
    rw [if_pos h, append_list]
    congr 1
    show Lib.trimPrefix _ _ = _
    unfold Lib.trimPrefix
    rw [if_pos (by unfold Lib.hasPrefix; rw [List.isPrefixOf_iff_prefix]; exact ⟨r, hr⟩), ← hr, List.drop_left]
  obtain ⟨er, her, hsum⟩ : ∃ e, Key.scan false r = some e ∧ dk = df + e := by
    have := Key.scan_append _ r false df hdf
    rw [hr] at this
    rw [show Key.scan false key.data.toList = some dk from hdk] at this
    cases hs : Key.scan false r with
    | none => rw [hs] at this; simp at this
    | some e => rw [hs] at this; simp at this; exact ⟨e, rfl, this⟩
  have hdm : Key.depth (moveR key fr to).data.toList = some (dt + er) := by
    rw [hm]
    show Key.scan false _ = _
    rw [Key.scan_append _ r false dt hdt, her]
    rfl
  have hmk : isK (moveR key fr to) = true := isK_depth.2 ⟨_, hdm⟩
  have hpm : Lib.hasPrefix (moveR key fr to).data.toList to.data.toList = true := by
    unfold Lib.hasPrefix; rw [List.isPrefixOf_iff_prefix, hm]; exact List.prefix_append _ _
  have hok : moveOk (moveR key fr to) to fr = true := by
    unfold moveOk; rw [hpm, hmk, ht, hf]; rfl
  refine ⟨hok, ?_, ?_, ?_⟩
  · apply bytes_ext
    generalize moveR key fr to = m at *
    unfold moveR
    rw [if_pos hok, append_list]
    show fr.data.toList ++ Lib.trimPrefix _ _ = _
    unfold Lib.trimPrefix
    rw [if_pos hpm, hm, List.drop_left, hr]
  · unfold underR; rw [hmk, ht, hpm]; rfl
  · rw [depthI_some hdm, depthI_some hdk, depthI_some hdt, depthI_some hdf]; omega

theorem move_size (key fr to : ByteArray) : (moveR key fr to).size ≤ key.size + to.size := by
  unfold moveR
  split
  · rw [ByteArray.size_append]
    have : (⟨(Lib.trimPrefix key.data.toList fr.data.toList).toArray⟩ : ByteArray).size ≤ key.size := by
      have hl : (Lib.trimPrefix key.data.toList fr.data.toList).length ≤ key.data.toList.length := by
        unfold Lib.trimPrefix
        split
        · rw [List.length_drop]; omega
        · exact Nat.le_refl _
      rw [Lib.size_eq, Lib.size_eq key]
      exact hl
    omega
  · show 0 ≤ _; omega
theorem move_no (key fr to : ByteArray) (h : moveOk key fr to = false) : moveR key fr to = ⟨#[]⟩ := by
  unfold moveR; rw [if_neg (by rw [h]; simp)]

set_option maxHeartbeats 1000000 in
theorem moves_any (key fr to : ByteArray) (w : World) : Calls Try.prog 10 #[.string key, .string fr, .string to] w fun e w' => e = .returned (.bool true) ∧ Below w.heap.size w w' := by
  have HS := fun w => Lib.hid (short_any key fr to w)
  by_cases hs : key.size ≤ 5000 ∧ fr.size ≤ 5000 ∧ to.size ≤ 5000
  · rw [decide_eq_true hs] at HS
    obtain ⟨ha, hb, hc⟩ := hs
    have A1 := fun w => Lib.hid (move_any key fr to (by omega) (by omega) (by omega) w)
    cases hok : moveOk key fr to with
    | false =>
      rw [move_no _ _ _ hok, hok] at A1
      simp only [Bool.false_eq_true, if_false] at A1
      clear hok ha hb hc
      go_enter Try.func10, Try.ntmps10
      go_wp2_with fail
      refine ((HS _).out).mono ?_; rintro e w' ⟨rfl, rfl⟩
      go_wp2_with fail
      refine ((A1 _).out).mono ?_; rintro e w1 ⟨rfl, h1⟩
      go_wp2_with fail
      refine (awake23_any _).mono ?_; rintro e w5 ⟨rfl, h5⟩
      go_wp2
      go_ret
      exact ⟨rfl, h1.trans (h5.mono h1.size)⟩
    | true =>
      have hsz := move_size key fr to
      obtain ⟨f1, f2, f3, f4⟩ := move_facts key fr to hok
      rw [hok] at A1
      simp only [if_true] at A1
      generalize moveR key fr to = m at *
      have A2 := fun w => Lib.hid (move_any m to fr (by omega) (by omega) (by omega) w)
      have A3 := fun w => Lib.hid (under_any m to (by omega) (by omega) w)
      have A4 := fun w => Lib.hid (depth_any m (by omega) w)
      have A5 := fun w => Lib.hid (depth_any to (by omega) w)
      have A6 := fun w => Lib.hid (depth_any key (by omega) w)
      have A7 := fun w => Lib.hid (depth_any fr (by omega) w)
      rw [f1, f2] at A2
      rw [f3] at A3
      simp only [if_true] at A2
      have b1 : ∀ x : ByteArray, x.size ≤ 1000000 → -1 ≤ depthI x ∧ depthI x ≤ 1000000 := by
        intro x hx
        cases hk : isK x with
        | false => rw [depthI_no hk]; omega
        | true =>
          rw [depthI_yes hk]
          have := List.count_le_length (a := (0 : UInt8)) (l := x.data.toList)
          rw [← Lib.size_eq] at this
          omega
      obtain ⟨b2, b3⟩ := b1 m (by omega)
      obtain ⟨b4, b5⟩ := b1 to (by omega)
      obtain ⟨b6, b7⟩ := b1 key (by omega)
      obtain ⟨b8, b9⟩ := b1 fr (by omega)
      generalize depthI m = d1 at *
      generalize depthI to = d2 at *
      generalize depthI key = d3 at *
      generalize depthI fr = d4 at *
      have hbeq : ((d1 - d2 : Int) == d3 - d4) = true := beq_iff_eq.2 f4
      clear f1 f2 f3 hok ha hb hc hsz b1
      have F4 := Lib.hid f4
      clear f4 hbeq
      go_enter Try.func10, Try.ntmps10
      go_wp2_with fail
      refine ((HS _).out).mono ?_; rintro e w' ⟨rfl, rfl⟩
      go_wp2_with fail
      refine ((A1 _).out).mono ?_; rintro e w1 ⟨rfl, h1⟩
      go_wp2_with fail
      refine ((A2 _).out).mono ?_; rintro e w2 ⟨rfl, h2⟩
      go_wp2_with fail
      refine ((A3 _).out).mono ?_; rintro e w3 ⟨rfl, h3⟩
      go_wp2_with fail
      refine ((A4 _).out).mono ?_; rintro e w4 ⟨rfl, h4⟩
      go_wp2_with fail
      refine ((A5 _).out).mono ?_; rintro e w5 ⟨rfl, h5⟩
      go_wp2_with fail
      refine ((A6 _).out).mono ?_; rintro e w6 ⟨rfl, h6⟩
      go_wp2_with fail
      refine ((A7 _).out).mono ?_; rintro e w7 ⟨rfl, h7⟩
      have hbeq : ((d1 - d2 : Int) == d3 - d4) = true := beq_iff_eq.2 F4.out
      rw [show d3 = d1 - d2 + d4 from by have := F4.out; omega]
      go_wp2_with fail
      refine (awake23_any _).mono ?_; rintro e w8 ⟨rfl, h8⟩
      go_wp2
      go_ret
      have s1 := h1.size; have s2 := h2.size; have s3 := h3.size; have s4 := h4.size; have s5 := h5.size; have s6 := h6.size; have s7 := h7.size
      exact ⟨rfl, h1.trans ((h2.mono (by omega)).trans ((h3.mono (by omega)).trans ((h4.mono (by omega)).trans ((h5.mono (by omega)).trans ((h6.mono (by omega)).trans ((h7.mono (by omega)).trans (h8.mono (by omega))))))))⟩
  · rw [decide_eq_false hs] at HS
    clear hs
    go_enter Try.func10, Try.ntmps10
    go_wp2_with fail
    refine ((HS _).out).mono ?_; rintro e w' ⟨rfl, rfl⟩
    go_wp2_with fail
    refine (awake23_any _).mono ?_; rintro e w5 ⟨rfl, h5⟩
    go_wp2
    go_ret
    exact ⟨rfl, h5⟩
end Go.Proofs.Ytpmmccmhmoihgaa
