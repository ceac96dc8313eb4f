/- The walks of DnkeyBetween and DnkeyMoves. No condition. -/
import Derived.Test.YtpmmccmhmoihgaaKf
namespace Go.Key
open Go.Op (bytesLess)
theorem less_irrefl : ∀ (a : List UInt8), bytesLess a a = false
  | [] => rfl
  | x :: a => by
    show (decide (x < x) || (x == x && bytesLess a a)) = false
    rw [less_irrefl a, decide_eq_false (UInt8.lt_irrefl x)]; simp
theorem less_asymm : ∀ (a b : List UInt8), bytesLess a b = true → bytesLess b a = false
  | [], [], h => by cases h
  | [], y :: b, _ => rfl
  | x :: a, [], h => by cases h
  | x :: a, y :: b, h => by
    have h' : (decide (x < y) || (x == y && bytesLess a b)) = true := h
    show (decide (y < x) || (y == x && bytesLess b a)) = false
    rw [Bool.or_eq_true] at h'
    rcases h' with h1 | h1
    · have h1 : x.toNat < y.toNat := of_decide_eq_true h1
      rw [decide_eq_false (fun h2 : y < x => by have h2 : y.toNat < x.toNat := h2; omega)]
      have : (y == x) = false := beq_eq_false_iff_ne.2 (fun e => by subst e; omega)
      rw [this]; rfl
    · rw [Bool.and_eq_true] at h1
      have e : x = y := eq_of_beq h1.1
      subst e
      rw [less_asymm a b h1.2, decide_eq_false (UInt8.lt_irrefl x)]; simp

end Go.Key
namespace Go.Proofs.Ytpmmccmhmoihgaa
open Go.RowKit

theorem short2m_any (a b : ByteArray) (w : World) : Calls Try.prog 23 #[.string a, .string b, .string ⟨#[]⟩] w fun e w' => e = .returned (.bool (decide (a.size ≤ 5000 ∧ b.size ≤ 5000))) ∧ w' = w := by
  refine (short_any a b ⟨#[]⟩ w).mono ?_
  rintro e w' ⟨rfl, rfl⟩
  exact ⟨by simp [show (⟨#[]⟩ : ByteArray).size = 0 from rfl], rfl⟩

theorem between_true (a b top : ByteArray) (h : underR a top = true) (hk : isK b = true) (h1 : Op.bytesLess b.toList top.toList = false) (h2 : Op.bytesLess a.toList b.toList = false) : underR b top = true := by
  unfold underR at *
  rw [Bool.and_eq_true, Bool.and_eq_true] at h
  obtain ⟨⟨_, ht⟩, hp⟩ := h
  rw [Lib.toList_data, Lib.toList_data] at h1 h2
  rw [hk, ht]
  unfold Lib.hasPrefix at *
  rw [Key.order_between _ _ _ hp h1 h2]
  rfl

theorem under_self (a top : ByteArray) (h : underR a top = true) : underR a a = true ∧ underR a ⟨#[]⟩ = true ∧ isK a = true := by
  unfold underR at *
  rw [Bool.and_eq_true, Bool.and_eq_true] at h
  rw [h.1.1]
  refine ⟨?_, ?_, rfl⟩
  · unfold Lib.hasPrefix
    rw [List.isPrefixOf_iff_prefix.2 (List.prefix_refl _)]; rfl
  · unfold Lib.hasPrefix
    rfl

set_option maxHeartbeats 1000000 in
theorem between_any (a b top : ByteArray) (w : World) : Calls Try.prog 9 #[.string a, .string b, .string top] w fun e w' => e = .returned (.bool true) ∧ Below w.heap.size w w' := by
  have HS := fun w => Lib.hid (short_any a b top w)
  by_cases hs : a.size ≤ 5000 ∧ b.size ≤ 5000 ∧ top.size ≤ 5000
  · rw [decide_eq_true hs] at HS
    obtain ⟨ha, hb, hc⟩ := hs
    have A1 := fun w => Lib.hid (check_any b (by omega) w)
    have A2 := fun w => Lib.hid (under_any a top (by omega) (by omega) w)
    have A3 := fun w => Lib.hid (under_any b top (by omega) (by omega) w)
    have A4 := fun w => Lib.hid (under_any a a (by omega) (by omega) w)
    have A5 := fun w => Lib.hid (under_any a ⟨#[]⟩ (by omega) (by decide) w)
    cases hk : isK b with
    | false =>
      rw [hk] at A1
      simp only [Bool.false_eq_true, if_false] at A1
      clear hk ha hb hc
      go_enter Try.func9, Try.ntmps9
      go_wp2_with fail
      refine ((HS _).out).mono ?_; rintro e w' ⟨rfl, rfl⟩
      go_wp2_with fail
      refine ((A1 _).out).mono ?_; rintro e w1 ⟨rfl, h1⟩
      go_wp2_with fail
      refine (awake23_any _).mono ?_; rintro e w5 ⟨rfl, h5⟩
      go_wp2
      go_ret
      exact ⟨rfl, h1.trans (h5.mono h1.size)⟩
    | true =>
      rw [hk] at A1
      simp only [if_true] at A1
      cases hu : underR a top with
      | false =>
        rw [hu] at A2
        clear hk ha hb hc hu
        go_enter Try.func9, Try.ntmps9
        go_wp2_with fail
        refine ((HS _).out).mono ?_; rintro e w' ⟨rfl, rfl⟩
        go_wp2_with fail
        refine ((A1 _).out).mono ?_; rintro e w1 ⟨rfl, h1⟩
        go_wp2_with fail
        refine ((A2 _).out).mono ?_; rintro e w2 ⟨rfl, h2⟩
        go_wp2_with fail
        refine (awake23_any _).mono ?_; rintro e w5 ⟨rfl, h5⟩
        go_wp2
        go_ret
        have s1 := h1.size; have s2 := h2.size
        exact ⟨rfl, h1.trans ((h2.mono (by omega)).trans (h5.mono (by omega)))⟩
      | true =>
        rw [hu] at A2
        obtain ⟨e1, e2, _⟩ := under_self a top hu
        rw [e1] at A4
        rw [e2] at A5
        have HB := between_true a b top hu hk
        clear hk hu e1 e2 ha hb hc
        cases l1 : Op.bytesLess top.toList b.toList with
        | true =>
          have HB := fun h => HB (Key.less_asymm _ _ l1) h
          cases l2 : Op.bytesLess b.toList a.toList with
          | true =>
            have hg : underR b top = true := HB  (Key.less_asymm _ _ l2)
            rw [hg] at A3
            clear HB hg
            go_enter Try.func9, Try.ntmps9
            go_wp2_with fail
            refine ((HS _).out).mono ?_; rintro e w' ⟨rfl, rfl⟩
            go_wp2_with fail
            refine ((A1 _).out).mono ?_; rintro e w1 ⟨rfl, h1⟩
            go_wp2_with fail
            refine ((A2 _).out).mono ?_; rintro e w2 ⟨rfl, h2⟩
            go_wp2_with fail
            refine ((A3 _).out).mono ?_; rintro e w3 ⟨rfl, h3⟩
            go_wp2_with fail
            refine ((A4 _).out).mono ?_; rintro e w4 ⟨rfl, h4⟩
            go_wp2_with fail
            refine ((A5 _).out).mono ?_; rintro e w5 ⟨rfl, h5⟩
            go_wp2_with fail
            refine (awake23_any _).mono ?_; rintro e w6 ⟨rfl, h6⟩
            go_wp2
            go_ret
            have sh1 := h1.size; have sh2 := h2.size; have sh3 := h3.size; have sh4 := h4.size; have sh5 := h5.size; have sh6 := h6.size
            exact ⟨rfl, h1.trans ((h2.mono (by omega)).trans ((h3.mono (by omega)).trans ((h4.mono (by omega)).trans ((h5.mono (by omega)).trans (h6.mono (by omega))))))⟩
          | false =>
            by_cases e2 : b = a
            · have hg : underR b top = true := HB  (by rw [e2]; exact Key.less_irrefl _)
              rw [hg] at A3
              clear HB hg
              subst e2
              go_enter Try.func9, Try.ntmps9
              go_wp2_with fail
              refine ((HS _).out).mono ?_; rintro e w' ⟨rfl, rfl⟩
              go_wp2_with fail
              refine ((A1 _).out).mono ?_; rintro e w1 ⟨rfl, h1⟩
              go_wp2_with fail
              refine ((A2 _).out).mono ?_; rintro e w2 ⟨rfl, h2⟩
              go_wp2_with fail
              refine ((A3 _).out).mono ?_; rintro e w3 ⟨rfl, h3⟩
              go_wp2_with fail
              refine ((A4 _).out).mono ?_; rintro e w4 ⟨rfl, h4⟩
              go_wp2_with fail
              refine ((A5 _).out).mono ?_; rintro e w5 ⟨rfl, h5⟩
              go_wp2_with fail
              refine (awake23_any _).mono ?_; rintro e w6 ⟨rfl, h6⟩
              go_wp2
              go_ret
              have sh1 := h1.size; have sh2 := h2.size; have sh3 := h3.size; have sh4 := h4.size; have sh5 := h5.size; have sh6 := h6.size
              exact ⟨rfl, h1.trans ((h2.mono (by omega)).trans ((h3.mono (by omega)).trans ((h4.mono (by omega)).trans ((h5.mono (by omega)).trans (h6.mono (by omega))))))⟩
            · have n2 : ¬ b.toList = a.toList := fun h => e2 (bytes_ext (by rw [Lib.toList_data, Lib.toList_data] at h; exact h))
              clear HB e2
              go_enter Try.func9, Try.ntmps9
              go_wp2_with fail
              refine ((HS _).out).mono ?_; rintro e w' ⟨rfl, rfl⟩
              go_wp2_with fail
              refine ((A1 _).out).mono ?_; rintro e w1 ⟨rfl, h1⟩
              go_wp2_with fail
              refine ((A2 _).out).mono ?_; rintro e w2 ⟨rfl, h2⟩
              go_wp2_with fail
              refine ((A4 _).out).mono ?_; rintro e w4 ⟨rfl, h4⟩
              go_wp2_with fail
              refine ((A5 _).out).mono ?_; rintro e w5 ⟨rfl, h5⟩
              go_wp2_with fail
              refine (awake23_any _).mono ?_; rintro e w6 ⟨rfl, h6⟩
              go_wp2
              go_ret
              have sh1 := h1.size; have sh2 := h2.size; have sh4 := h4.size; have sh5 := h5.size; have sh6 := h6.size
              exact ⟨rfl, h1.trans ((h2.mono (by omega)).trans ((h4.mono (by omega)).trans ((h5.mono (by omega)).trans (h6.mono (by omega)))))⟩
        | false =>
          by_cases e1 : top = b
          · subst e1
            have HB := fun h => HB (Key.less_irrefl _) h
            cases l2 : Op.bytesLess top.toList a.toList with
            | true =>
              have hg : underR top top = true := HB  (Key.less_asymm _ _ l2)
              rw [hg] at A3
              clear HB hg
              go_enter Try.func9, Try.ntmps9
              go_wp2_with fail
              refine ((HS _).out).mono ?_; rintro e w' ⟨rfl, rfl⟩
              go_wp2_with fail
              refine ((A1 _).out).mono ?_; rintro e w1 ⟨rfl, h1⟩
              go_wp2_with fail
              refine ((A2 _).out).mono ?_; rintro e w2 ⟨rfl, h2⟩
              go_wp2_with fail
              refine ((A3 _).out).mono ?_; rintro e w3 ⟨rfl, h3⟩
              go_wp2_with fail
              refine ((A4 _).out).mono ?_; rintro e w4 ⟨rfl, h4⟩
              go_wp2_with fail
              refine ((A5 _).out).mono ?_; rintro e w5 ⟨rfl, h5⟩
              go_wp2_with fail
              refine (awake23_any _).mono ?_; rintro e w6 ⟨rfl, h6⟩
              go_wp2
              go_ret
              have sh1 := h1.size; have sh2 := h2.size; have sh3 := h3.size; have sh4 := h4.size; have sh5 := h5.size; have sh6 := h6.size
              exact ⟨rfl, h1.trans ((h2.mono (by omega)).trans ((h3.mono (by omega)).trans ((h4.mono (by omega)).trans ((h5.mono (by omega)).trans (h6.mono (by omega))))))⟩
            | false =>
              by_cases e2 : top = a
              · have hg : underR top top = true := HB  (by rw [e2]; exact Key.less_irrefl _)
                rw [hg] at A3
                clear HB hg
                subst e2
                go_enter Try.func9, Try.ntmps9
                go_wp2_with fail
                refine ((HS _).out).mono ?_; rintro e w' ⟨rfl, rfl⟩
                go_wp2_with fail
                refine ((A1 _).out).mono ?_; rintro e w1 ⟨rfl, h1⟩
                go_wp2_with fail
                refine ((A2 _).out).mono ?_; rintro e w2 ⟨rfl, h2⟩
                go_wp2_with fail
                refine ((A3 _).out).mono ?_; rintro e w3 ⟨rfl, h3⟩
                go_wp2_with fail
                refine ((A4 _).out).mono ?_; rintro e w4 ⟨rfl, h4⟩
                go_wp2_with fail
                refine ((A5 _).out).mono ?_; rintro e w5 ⟨rfl, h5⟩
                go_wp2_with fail
                refine (awake23_any _).mono ?_; rintro e w6 ⟨rfl, h6⟩
                go_wp2
                go_ret
                have sh1 := h1.size; have sh2 := h2.size; have sh3 := h3.size; have sh4 := h4.size; have sh5 := h5.size; have sh6 := h6.size
                exact ⟨rfl, h1.trans ((h2.mono (by omega)).trans ((h3.mono (by omega)).trans ((h4.mono (by omega)).trans ((h5.mono (by omega)).trans (h6.mono (by omega))))))⟩
              · have n2 : ¬ top.toList = a.toList := fun h => e2 (bytes_ext (by rw [Lib.toList_data, Lib.toList_data] at h; exact h))
                clear HB e2
                go_enter Try.func9, Try.ntmps9
                go_wp2_with fail
                refine ((HS _).out).mono ?_; rintro e w' ⟨rfl, rfl⟩
                go_wp2_with fail
                refine ((A1 _).out).mono ?_; rintro e w1 ⟨rfl, h1⟩
                go_wp2_with fail
                refine ((A2 _).out).mono ?_; rintro e w2 ⟨rfl, h2⟩
                go_wp2_with fail
                refine ((A4 _).out).mono ?_; rintro e w4 ⟨rfl, h4⟩
                go_wp2_with fail
                refine ((A5 _).out).mono ?_; rintro e w5 ⟨rfl, h5⟩
                go_wp2_with fail
                refine (awake23_any _).mono ?_; rintro e w6 ⟨rfl, h6⟩
                go_wp2
                go_ret
                have sh1 := h1.size; have sh2 := h2.size; have sh4 := h4.size; have sh5 := h5.size; have sh6 := h6.size
                exact ⟨rfl, h1.trans ((h2.mono (by omega)).trans ((h4.mono (by omega)).trans ((h5.mono (by omega)).trans (h6.mono (by omega)))))⟩
          · have n1 : ¬ top.toList = b.toList := fun h => e1 (bytes_ext (by rw [Lib.toList_data, Lib.toList_data] at h; exact h))
            clear HB e1
            go_enter Try.func9, Try.ntmps9
            go_wp2_with fail
            refine ((HS _).out).mono ?_; rintro e w' ⟨rfl, rfl⟩
            go_wp2_with fail
            refine ((A1 _).out).mono ?_; rintro e w1 ⟨rfl, h1⟩
            go_wp2_with fail
            refine ((A2 _).out).mono ?_; rintro e w2 ⟨rfl, h2⟩
            go_wp2_with fail
            refine ((A4 _).out).mono ?_; rintro e w4 ⟨rfl, h4⟩
            go_wp2_with fail
            refine ((A5 _).out).mono ?_; rintro e w5 ⟨rfl, h5⟩
            go_wp2_with fail
            refine (awake23_any _).mono ?_; rintro e w6 ⟨rfl, h6⟩
            go_wp2
            go_ret
            have sh1 := h1.size; have sh2 := h2.size; have sh4 := h4.size; have sh5 := h5.size; have sh6 := h6.size
            exact ⟨rfl, h1.trans ((h2.mono (by omega)).trans ((h4.mono (by omega)).trans ((h5.mono (by omega)).trans (h6.mono (by omega)))))⟩
  · rw [decide_eq_false hs] at HS
    clear hs
    go_enter Try.func9, Try.ntmps9
    go_wp2_with fail
    refine ((HS _).out).mono ?_; rintro e w' ⟨rfl, rfl⟩
    go_wp2_with fail
    refine (awake23_any _).mono ?_; rintro e w5 ⟨rfl, h5⟩
    go_wp2
    go_ret
    exact ⟨rfl, h5⟩
end Go.Proofs.Ytpmmccmhmoihgaa
