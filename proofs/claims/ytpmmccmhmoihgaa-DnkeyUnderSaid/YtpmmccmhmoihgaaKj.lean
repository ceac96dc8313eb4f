/- The walk of DnkeyUnder. No condition. -/
import Derived.Test.YtpmmccmhmoihgaaKf
namespace Go.Proofs.Ytpmmccmhmoihgaa
open Go.RowKit

theorem short2u_any (a b : ByteArray) (w : World) : Calls Try.prog 23 #[.string a, .string b, .string ⟨#[]⟩] w fun e w' => e = .returned (.bool (decide (a.size ≤ 5000 ∧ b.size ≤ 5000))) ∧ w' = w := by
  refine (short_any a b ⟨#[]⟩ w).mono ?_
  rintro e w' ⟨rfl, rfl⟩
  exact ⟨by simp [show (⟨#[]⟩ : ByteArray).size = 0 from rfl], rfl⟩

theorem up_facts (a k : ByteArray) (d : Nat) (h : Key.depth k.data.toList = some d) (hd : 0 < d) (hu : underR a k = true) :
    hasAbove k = true ∧ nextR k (aboveR k) = true ∧ underR a (aboveR k) = true ∧ Key.depth (aboveR k).data.toList = some (d - 1) ∧ (aboveR k).size ≤ k.size := by
  have hne : k.data.toList ≠ [] := by
    intro e; rw [e] at h; simp [Key.depth, Key.scan] at h; omega
  have hk : isK k = true := isK_depth.2 ⟨d, h⟩
  have hA : hasAbove k = true := by
    unfold hasAbove
    rw [hk, decide_eq_false (fun e => hne (empty_list.1 e))]; rfl
  obtain ⟨_, _, hl⟩ := aboveR_list hA
  obtain ⟨e1, e2⟩ := Key.depth_above _ d h hne
  have hka : isK (aboveR k) = true := isK_depth.2 ⟨d - 1, by rw [hl]; exact e1⟩
  refine ⟨hA, ?_, ?_, by rw [hl]; exact e1, ?_⟩
  · unfold nextR; rw [hA]; simp
  · unfold underR at hu ⊢
    rw [Bool.and_eq_true, Bool.and_eq_true] at hu
    rw [hu.1.1, hka]
    have h1 := hu.2
    unfold Lib.hasPrefix at h1 ⊢
    rw [List.isPrefixOf_iff_prefix] at h1
    have h2 := Key.above_prefix k.data.toList
    rw [List.isPrefixOf_iff_prefix] at h2
    rw [hl, List.isPrefixOf_iff_prefix.2 (h2.trans h1)]
    rfl
  · rw [Lib.size_eq, Lib.size_eq k, hl]
    unfold Key.above
    exact List.length_take_le' ..

theorem last_zero (b : ByteArray) (hk : isK b = true) (hne : ¬ b.size = 0) : b.data.toList = b.data.toList.dropLast ++ [0] ∧ (behindR b).data.toList = b.data.toList.dropLast ++ [1] := by
  have hl : b.data.toList ≠ [] := fun e => hne (empty_list.2 e)
  obtain ⟨d, hd⟩ := isK_depth.1 hk
  have hz := Key.scan_last _ false d hd hl
  have h1 : b.data.toList.getLast hl = 0 := by
    rw [List.getLast_eq_getElem, ← hz, List.getD_eq_getElem?_getD, List.getElem?_eq_getElem]; rfl
  refine ⟨?_, ?_⟩
  · conv => lhs; rw [← List.dropLast_concat_getLast hl, h1]
  · unfold behindR
    rw [if_neg (by rintro (h | h); exact hne h; rw [hk] at h; cases h)]
    rw [ByteArray.data_append, Array.toList_append, Lib.extract_data, List.drop_zero, Nat.sub_zero, List.dropLast_eq_take, ← Lib.size_eq]

theorem under_order (a b : ByteArray) (ha : isK a = true) (hk : isK b = true) (hne : ¬ b.size = 0) : underR a b = (!(Op.bytesLess a.toList b.toList) && Op.bytesLess a.toList (behindR b).toList) := by
  obtain ⟨h1, h2⟩ := last_zero b hk hne
  rw [Lib.toList_data, Lib.toList_data, Lib.toList_data, h2]
  unfold underR
  rw [ha, hk, Bool.true_and, Bool.true_and]
  unfold Lib.hasPrefix
  rw [h1]
  simp only [List.dropLast_concat]
  exact Key.order_under _ _

theorem under_empty (a : ByteArray) (ha : isK a = true) : underR a ⟨#[]⟩ = true := by
  unfold underR; rw [ha]; rfl

set_option maxHeartbeats 4000000 in
theorem under8_any (a b : ByteArray) (w : World) : Calls Try.prog 8 #[.string a, .string b] w fun e w' => e = .returned (.bool true) ∧ Below w.heap.size w w' := by
  have HS := fun w => Lib.hid (short2u_any a b w)
  by_cases hs : a.size ≤ 5000 ∧ b.size ≤ 5000
  · rw [decide_eq_true hs] at HS
    obtain ⟨ha, hb⟩ := hs
    have A1 := fun w => Lib.hid (check_any a (by omega) w)
    have A2 := fun w => Lib.hid (check_any b (by omega) w)
    have A3 := fun w => Lib.hid (under_any a b (by omega) (by omega) w)
    have A4 := fun w => Lib.hid (behind_any b (by omega) w)
    have A5 := fun w => Lib.hid (depth_any a (by omega) w)
    cases hka : isK a with
    | false =>
      rw [hka] at A1
      simp only [Bool.false_eq_true, if_false] at A1
      clear hka ha hb
      go_enter Try.func8, Try.ntmps8
      go_wp2_with fail
      refine ((HS _).out).mono ?_; rintro e w' ⟨rfl, rfl⟩
      go_wp2_with fail
      refine ((A1 _).out).mono ?_; rintro e w1 ⟨rfl, h1⟩
      go_wp2_with fail
      refine (awake23_any _).mono ?_; rintro e w5 ⟨rfl, h5⟩
      go_wp2
      go_ret
      have sh1 := h1.size
      exact ⟨rfl, h1.trans (h5.mono (by omega))⟩
    | true =>
      rw [hka] at A1
      simp only [if_true] at A1
      cases hkb : isK b with
      | false =>
        rw [hkb] at A2
        simp only [Bool.false_eq_true, if_false] at A2
        clear hka hkb ha hb
        go_enter Try.func8, Try.ntmps8
        go_wp2_with fail
        refine ((HS _).out).mono ?_; rintro e w' ⟨rfl, rfl⟩
        go_wp2_with fail
        refine ((A1 _).out).mono ?_; rintro e w1 ⟨rfl, h1⟩
        go_wp2_with fail
        refine ((A2 _).out).mono ?_; rintro e w2 ⟨rfl, h2⟩
        go_wp2_with fail
        refine (awake23_any _).mono ?_; rintro e w5 ⟨rfl, h5⟩
        go_wp2
        go_ret
        have sh1 := h1.size; have sh2 := h2.size
        exact ⟨rfl, h1.trans ((h2.mono (by omega)).trans (h5.mono (by omega)))⟩
      | true =>
        rw [hkb] at A2
        simp only [if_true] at A2
        obtain ⟨da, hda⟩ := isK_depth.1 hka
        have hdle := Key.depth_le _ _ hda
        rw [← Lib.size_eq] at hdle
        rw [depthI_some hda] at A5
        have hself : underR a a = true := by
          unfold underR; rw [hka]; unfold Lib.hasPrefix
          rw [List.isPrefixOf_iff_prefix.2 (List.prefix_refl _)]; rfl
        have HA : Hid (a.size ≤ 5000 ∧ da ≤ 5000 ∧ Key.depth a.data.toList = some da ∧ underR a a = true) := ⟨ha, by omega, hda, hself⟩
        by_cases hbe : b.size = 0
        · have hz : b = ⟨#[]⟩ := by rw [← Lib.mk_data b, empty_list.1 hbe]
          subst hz
          rw [under_empty a hka] at A3
          rw [show behindR ⟨#[]⟩ = ⟨#[255]⟩ from rfl] at A4
          have hl0 : Op.bytesLess a.toList [] = false := by cases a.toList <;> rfl
          have hl0' : Op.bytesLess a.toList (⟨#[]⟩ : ByteArray).toList = false := by
            rw [Lib.toList_data, Lib.toList_data]; cases a.data.toList <;> rfl
          by_cases hff : ∃ r, a.data.toList = 255 :: r
          · obtain ⟨r, hr⟩ := hff
            have hl1 : Op.bytesLess a.toList (⟨#[255]⟩ : ByteArray).toList = false := by
              rw [Lib.toList_data, Lib.toList_data, hr]; cases r <;> rfl
            have hl1' : Op.bytesLess a.toList [255] = false := by rw [Lib.toList_data, hr]; cases r <;> rfl
            have hne : ¬ a.size = 0 := fun e => by rw [empty_list.1 e] at hr; cases hr
            obtain ⟨n1, n2⟩ := empty_of_size hne
            have hpos : 0 < a.size := by omega
            have hb0 : (a[0]).toNat = 255 := by
              have h9 : a.data.toList.getD 0 0 = a[0] := by
                have h' : 0 < a.data.size := hpos
                rw [List.getD_eq_getElem?_getD, Array.getElem?_toList, Array.getElem?_eq_getElem h']; rfl
              rw [← h9, hr]; rfl
            have hb1 : (((a[0]).toNat : Int) == 255) = true := by rw [hb0]; rfl
            have q1 : (0 : Int) < (a.size : Int) := by omega
            clear hka hkb ha hb hbe hr hda hself hne hb0
            go_enter Try.func8, Try.ntmps8
            go_wp2_with fail
            refine ((HS _).out).mono ?_; rintro e w' ⟨rfl, rfl⟩
            go_wp2_with fail
            refine ((A1 _).out).mono ?_; rintro e w1 ⟨rfl, h1⟩
            go_wp2_with fail
            refine ((A2 _).out).mono ?_; rintro e w2 ⟨rfl, h2⟩
            go_wp2_with fail
            refine ((A3 _).out).mono ?_; rintro e w3 ⟨rfl, h3⟩
            go_wp2_with fail
            refine ((A4 _).out).mono ?_; rintro e w4 ⟨rfl, h4⟩
            go_wp2_with fail
            refine ((A5 _).out).mono ?_; rintro e w5 ⟨rfl, h5⟩
            have sh1 := h1.size; have sh2 := h2.size; have sh3 := h3.size; have sh4 := h4.size; have sh5 := h5.size
            have hbel := h1.trans ((h2.mono (by omega)).trans ((h3.mono (by omega)).trans ((h4.mono (by omega)).trans (h5.mono (by omega)))))
            go_wp2_with fail
            go_loopw [5, 6] (fun kv iv wr => ∃ (k : ByteArray) (d : Nat), kv = .string k ∧ iv = .int .i64 d ∧ k.size ≤ 5000 ∧ d ≤ 5000 ∧ Key.depth k.data.toList = some d ∧ underR a k = true ∧ Below w'.heap.size w' wr) (fun _ iv _ => (intOf iv).toNat)
            case atStart => exact ⟨a, da, rfl, rfl, HA.out.1, HA.out.2.1, HA.out.2.2.1, HA.out.2.2.2, hbel⟩
            case round =>
              obtain ⟨k, d, rfl, rfl, hks, hds, hkd, hku, hb⟩ := hrel
              by_cases hd : 0 < d
              · obtain ⟨f1, f2, f3, f4, f5⟩ := up_facts a k d hkd hd hku
                have C1 := fun w => Lib.hid (above_any k (by omega) w)
                have C2 := fun w => Lib.hid (next_any k (aboveR k) (by omega) w)
                have C3 := fun w => Lib.hid (under_any a (aboveR k) (by have := HA.out.1; omega) (by omega) w)
                have C4 := fun w => Lib.hid (depth_any (aboveR k) (by omega) w)
                rw [f1] at C1
                rw [f2] at C2
                rw [f3] at C3
                rw [depthI_some f4] at C4
                generalize aboveR k = u at *
                obtain ⟨m, rfl⟩ : ∃ m, d = m + 1 := ⟨d - 1, by omega⟩
                simp only [Nat.add_sub_cancel] at f4 C4
                have F3 := Lib.hid f3
                have F4 := Lib.hid f4
                have hd1 : decide ((0 : Int) < ((m + 1 : Nat) : Int)) = true := decide_eq_true (by omega)
                clear f1 f2 f3 f4 hkd hku hd
                go_wp2_with fail
                refine ((C1 _).out).mono ?_; rintro e v1 ⟨rfl, g1⟩
                go_wp2_with fail
                refine ((C2 _).out).mono ?_; rintro e v2 ⟨rfl, g2⟩
                go_wp2_with fail
                refine ((C3 _).out).mono ?_; rintro e v3 ⟨rfl, g3⟩
                go_wp2_with fail
                refine ((C4 _).out).mono ?_; rintro e v4 ⟨rfl, g4⟩
                go_wp2
                go_roundw
                case rel =>
                  have t0 := hb.size; have t1 := g1.size; have t2 := g2.size; have t3 := g3.size
                  exact ⟨u, m, rfl, by go_num, by omega, by omega, F4.out, F3.out, hb.trans ((g1.mono (by omega)).trans ((g2.mono (by omega)).trans ((g3.mono (by omega)).trans (g4.mono (by omega)))))⟩
                case measure => simp [intOf]; try omega
              · obtain rfl : d = 0 := by omega
                have hk0 : k = ⟨#[]⟩ := by
                  have := Key.scan_zero _ hkd
                  rw [← Lib.mk_data k, this]
                subst hk0
                clear hkd hku hd
                go_wp2_with fail
                refine (awake23_any _).mono ?_; rintro e v1 ⟨rfl, g1⟩
                go_wp2
                go_ret
                exact ⟨rfl, hb.trans (g1.mono hb.size)⟩
          · have hl1 : Op.bytesLess a.toList (⟨#[255]⟩ : ByteArray).toList = true := by
              have := Key.order_all a.data.toList (fun x r h e => hff ⟨r, by rw [h, e]⟩)
              rw [Bool.and_eq_true] at this
              rw [Lib.toList_data, Lib.toList_data]; exact this.2
            have hl1' : Op.bytesLess a.toList [255] = true := by
              have := Key.order_all a.data.toList (fun x r h e => hff ⟨r, by rw [h, e]⟩)
              rw [Bool.and_eq_true] at this
              rw [Lib.toList_data]; exact this.2
            clear hka hkb ha hb hbe hff hda hself
            go_enter Try.func8, Try.ntmps8
            go_wp2_with fail
            refine ((HS _).out).mono ?_; rintro e w' ⟨rfl, rfl⟩
            go_wp2_with fail
            refine ((A1 _).out).mono ?_; rintro e w1 ⟨rfl, h1⟩
            go_wp2_with fail
            refine ((A2 _).out).mono ?_; rintro e w2 ⟨rfl, h2⟩
            go_wp2_with fail
            refine ((A3 _).out).mono ?_; rintro e w3 ⟨rfl, h3⟩
            go_wp2_with fail
            refine ((A4 _).out).mono ?_; rintro e w4 ⟨rfl, h4⟩
            go_wp2_with fail
            refine ((A5 _).out).mono ?_; rintro e w5 ⟨rfl, h5⟩
            have sh1 := h1.size; have sh2 := h2.size; have sh3 := h3.size; have sh4 := h4.size; have sh5 := h5.size
            have hbel := h1.trans ((h2.mono (by omega)).trans ((h3.mono (by omega)).trans ((h4.mono (by omega)).trans (h5.mono (by omega)))))
            go_wp2_with fail
            go_loopw [5, 6] (fun kv iv wr => ∃ (k : ByteArray) (d : Nat), kv = .string k ∧ iv = .int .i64 d ∧ k.size ≤ 5000 ∧ d ≤ 5000 ∧ Key.depth k.data.toList = some d ∧ underR a k = true ∧ Below w'.heap.size w' wr) (fun _ iv _ => (intOf iv).toNat)
            case atStart => exact ⟨a, da, rfl, rfl, HA.out.1, HA.out.2.1, HA.out.2.2.1, HA.out.2.2.2, hbel⟩
            case round =>
              obtain ⟨k, d, rfl, rfl, hks, hds, hkd, hku, hb⟩ := hrel
              by_cases hd : 0 < d
              · obtain ⟨f1, f2, f3, f4, f5⟩ := up_facts a k d hkd hd hku
                have C1 := fun w => Lib.hid (above_any k (by omega) w)
                have C2 := fun w => Lib.hid (next_any k (aboveR k) (by omega) w)
                have C3 := fun w => Lib.hid (under_any a (aboveR k) (by have := HA.out.1; omega) (by omega) w)
                have C4 := fun w => Lib.hid (depth_any (aboveR k) (by omega) w)
                rw [f1] at C1
                rw [f2] at C2
                rw [f3] at C3
                rw [depthI_some f4] at C4
                generalize aboveR k = u at *
                obtain ⟨m, rfl⟩ : ∃ m, d = m + 1 := ⟨d - 1, by omega⟩
                simp only [Nat.add_sub_cancel] at f4 C4
                have F3 := Lib.hid f3
                have F4 := Lib.hid f4
                have hd1 : decide ((0 : Int) < ((m + 1 : Nat) : Int)) = true := decide_eq_true (by omega)
                clear f1 f2 f3 f4 hkd hku hd
                go_wp2_with fail
                refine ((C1 _).out).mono ?_; rintro e v1 ⟨rfl, g1⟩
                go_wp2_with fail
                refine ((C2 _).out).mono ?_; rintro e v2 ⟨rfl, g2⟩
                go_wp2_with fail
                refine ((C3 _).out).mono ?_; rintro e v3 ⟨rfl, g3⟩
                go_wp2_with fail
                refine ((C4 _).out).mono ?_; rintro e v4 ⟨rfl, g4⟩
                go_wp2
                go_roundw
                case rel =>
                  have t0 := hb.size; have t1 := g1.size; have t2 := g2.size; have t3 := g3.size
                  exact ⟨u, m, rfl, by go_num, by omega, by omega, F4.out, F3.out, hb.trans ((g1.mono (by omega)).trans ((g2.mono (by omega)).trans ((g3.mono (by omega)).trans (g4.mono (by omega)))))⟩
                case measure => simp [intOf]; try omega
              · obtain rfl : d = 0 := by omega
                have hk0 : k = ⟨#[]⟩ := by
                  have := Key.scan_zero _ hkd
                  rw [← Lib.mk_data k, this]
                subst hk0
                clear hkd hku hd
                go_wp2_with fail
                refine (awake23_any _).mono ?_; rintro e v1 ⟨rfl, g1⟩
                go_wp2
                go_ret
                exact ⟨rfl, hb.trans (g1.mono hb.size)⟩
        · obtain ⟨n1, n2⟩ := empty_of_size hbe
          have hpos : 0 < b.size := by omega
          have q1 : (0 : Int) < (b.size : Int) := by omega
          by_cases hff : (b[0]).toNat = 255
          · have hb1 : (((b[0]).toNat : Int) == 255) = true := by rw [hff]; rfl
            clear hka hkb ha hb hbe hda hself hff
            go_enter Try.func8, Try.ntmps8
            go_wp2_with fail
            refine ((HS _).out).mono ?_; rintro e w' ⟨rfl, rfl⟩
            go_wp2_with fail
            refine ((A1 _).out).mono ?_; rintro e w1 ⟨rfl, h1⟩
            go_wp2_with fail
            refine ((A2 _).out).mono ?_; rintro e w2 ⟨rfl, h2⟩
            go_wp2_with fail
            refine (awake23_any _).mono ?_; rintro e w5 ⟨rfl, h5⟩
            go_wp2
            go_ret
            have sh1 := h1.size; have sh2 := h2.size
            exact ⟨rfl, h1.trans ((h2.mono (by omega)).trans (h5.mono (by omega)))⟩
          · have hb1 : (((b[0]).toNat : Int) == 255) = false := beq_eq_false_iff_ne.2 (by omega)
            have hord := under_order a b hka hkb hbe
            rw [hord] at A3
            clear hord
            clear hka hkb ha hb hbe hda hself hff
            cases l1 : Op.bytesLess a.toList b.toList with
            | true =>
              rw [l1] at A3
              simp only [Bool.not_true, Bool.false_and] at A3
              go_enter Try.func8, Try.ntmps8
              go_wp2_with fail
              refine ((HS _).out).mono ?_; rintro e w' ⟨rfl, rfl⟩
              go_wp2_with fail
              refine ((A1 _).out).mono ?_; rintro e w1 ⟨rfl, h1⟩
              go_wp2_with fail
              refine ((A2 _).out).mono ?_; rintro e w2 ⟨rfl, h2⟩
              go_wp2_with fail
              refine ((A3 _).out).mono ?_; rintro e w3 ⟨rfl, h3⟩
              go_wp2_with fail
              refine ((A5 _).out).mono ?_; rintro e w5 ⟨rfl, h5⟩
              have sh1 := h1.size; have sh2 := h2.size; have sh3 := h3.size; have sh5 := h5.size
              have hbel := h1.trans ((h2.mono (by omega)).trans ((h3.mono (by omega)).trans (h5.mono (by omega))))
              go_wp2_with fail
              go_loopw [5, 6] (fun kv iv wr => ∃ (k : ByteArray) (d : Nat), kv = .string k ∧ iv = .int .i64 d ∧ k.size ≤ 5000 ∧ d ≤ 5000 ∧ Key.depth k.data.toList = some d ∧ underR a k = true ∧ Below w'.heap.size w' wr) (fun _ iv _ => (intOf iv).toNat)
              case atStart => exact ⟨a, da, rfl, rfl, HA.out.1, HA.out.2.1, HA.out.2.2.1, HA.out.2.2.2, hbel⟩
              case round =>
                obtain ⟨k, d, rfl, rfl, hks, hds, hkd, hku, hb⟩ := hrel
                by_cases hd : 0 < d
                · obtain ⟨f1, f2, f3, f4, f5⟩ := up_facts a k d hkd hd hku
                  have C1 := fun w => Lib.hid (above_any k (by omega) w)
                  have C2 := fun w => Lib.hid (next_any k (aboveR k) (by omega) w)
                  have C3 := fun w => Lib.hid (under_any a (aboveR k) (by have := HA.out.1; omega) (by omega) w)
                  have C4 := fun w => Lib.hid (depth_any (aboveR k) (by omega) w)
                  rw [f1] at C1
                  rw [f2] at C2
                  rw [f3] at C3
                  rw [depthI_some f4] at C4
                  generalize aboveR k = u at *
                  obtain ⟨m, rfl⟩ : ∃ m, d = m + 1 := ⟨d - 1, by omega⟩
                  simp only [Nat.add_sub_cancel] at f4 C4
                  have F3 := Lib.hid f3
                  have F4 := Lib.hid f4
                  have hd1 : decide ((0 : Int) < ((m + 1 : Nat) : Int)) = true := decide_eq_true (by omega)
                  clear f1 f2 f3 f4 hkd hku hd
                  go_wp2_with fail
                  refine ((C1 _).out).mono ?_; rintro e v1 ⟨rfl, g1⟩
                  go_wp2_with fail
                  refine ((C2 _).out).mono ?_; rintro e v2 ⟨rfl, g2⟩
                  go_wp2_with fail
                  refine ((C3 _).out).mono ?_; rintro e v3 ⟨rfl, g3⟩
                  go_wp2_with fail
                  refine ((C4 _).out).mono ?_; rintro e v4 ⟨rfl, g4⟩
                  go_wp2
                  go_roundw
                  case rel =>
                    have t0 := hb.size; have t1 := g1.size; have t2 := g2.size; have t3 := g3.size
                    exact ⟨u, m, rfl, by go_num, by omega, by omega, F4.out, F3.out, hb.trans ((g1.mono (by omega)).trans ((g2.mono (by omega)).trans ((g3.mono (by omega)).trans (g4.mono (by omega)))))⟩
                  case measure => simp [intOf]; try omega
                · obtain rfl : d = 0 := by omega
                  have hk0 : k = ⟨#[]⟩ := by
                    have := Key.scan_zero _ hkd
                    rw [← Lib.mk_data k, this]
                  subst hk0
                  clear hkd hku hd
                  go_wp2_with fail
                  refine (awake23_any _).mono ?_; rintro e v1 ⟨rfl, g1⟩
                  go_wp2
                  go_ret
                  exact ⟨rfl, hb.trans (g1.mono hb.size)⟩
            | false =>
              rw [l1] at A3
              simp only [Bool.not_false, Bool.true_and] at A3
              generalize behindR b = g at *
              generalize hl2 : Op.bytesLess a.toList g.toList = l2 at *
              cases l2
              all_goals
                go_enter Try.func8, Try.ntmps8
                go_wp2_with fail
                refine ((HS _).out).mono ?_; rintro e w' ⟨rfl, rfl⟩
                go_wp2_with fail
                refine ((A1 _).out).mono ?_; rintro e w1 ⟨rfl, h1⟩
                go_wp2_with fail
                refine ((A2 _).out).mono ?_; rintro e w2 ⟨rfl, h2⟩
                go_wp2_with fail
                refine ((A3 _).out).mono ?_; rintro e w3 ⟨rfl, h3⟩
                go_wp2_with fail
                refine ((A4 _).out).mono ?_; rintro e w4 ⟨rfl, h4⟩
                go_wp2_with fail
                refine ((A5 _).out).mono ?_; rintro e w5 ⟨rfl, h5⟩
                have sh1 := h1.size; have sh2 := h2.size; have sh3 := h3.size; have sh4 := h4.size; have sh5 := h5.size
                have hbel := h1.trans ((h2.mono (by omega)).trans ((h3.mono (by omega)).trans ((h4.mono (by omega)).trans (h5.mono (by omega)))))
                go_wp2_with fail
                go_loopw [5, 6] (fun kv iv wr => ∃ (k : ByteArray) (d : Nat), kv = .string k ∧ iv = .int .i64 d ∧ k.size ≤ 5000 ∧ d ≤ 5000 ∧ Key.depth k.data.toList = some d ∧ underR a k = true ∧ Below w'.heap.size w' wr) (fun _ iv _ => (intOf iv).toNat)
                case atStart => exact ⟨a, da, rfl, rfl, HA.out.1, HA.out.2.1, HA.out.2.2.1, HA.out.2.2.2, hbel⟩
                case round =>
                  obtain ⟨k, d, rfl, rfl, hks, hds, hkd, hku, hb⟩ := hrel
                  by_cases hd : 0 < d
                  · obtain ⟨f1, f2, f3, f4, f5⟩ := up_facts a k d hkd hd hku
                    have C1 := fun w => Lib.hid (above_any k (by omega) w)
                    have C2 := fun w => Lib.hid (next_any k (aboveR k) (by omega) w)
                    have C3 := fun w => Lib.hid (under_any a (aboveR k) (by have := HA.out.1; omega) (by omega) w)
                    have C4 := fun w => Lib.hid (depth_any (aboveR k) (by omega) w)
                    rw [f1] at C1
                    rw [f2] at C2
                    rw [f3] at C3
                    rw [depthI_some f4] at C4
                    generalize aboveR k = u at *
                    obtain ⟨m, rfl⟩ : ∃ m, d = m + 1 := ⟨d - 1, by omega⟩
                    simp only [Nat.add_sub_cancel] at f4 C4
                    have F3 := Lib.hid f3
                    have F4 := Lib.hid f4
                    have hd1 : decide ((0 : Int) < ((m + 1 : Nat) : Int)) = true := decide_eq_true (by omega)
                    clear f1 f2 f3 f4 hkd hku hd
                    go_wp2_with fail
                    refine ((C1 _).out).mono ?_; rintro e v1 ⟨rfl, g1⟩
                    go_wp2_with fail
                    refine ((C2 _).out).mono ?_; rintro e v2 ⟨rfl, g2⟩
                    go_wp2_with fail
                    refine ((C3 _).out).mono ?_; rintro e v3 ⟨rfl, g3⟩
                    go_wp2_with fail
                    refine ((C4 _).out).mono ?_; rintro e v4 ⟨rfl, g4⟩
                    go_wp2
                    go_roundw
                    case rel =>
                      have t0 := hb.size; have t1 := g1.size; have t2 := g2.size; have t3 := g3.size
                      exact ⟨u, m, rfl, by go_num, by omega, by omega, F4.out, F3.out, hb.trans ((g1.mono (by omega)).trans ((g2.mono (by omega)).trans ((g3.mono (by omega)).trans (g4.mono (by omega)))))⟩
                    case measure => simp [intOf]; try omega
                  · obtain rfl : d = 0 := by omega
                    have hk0 : k = ⟨#[]⟩ := by
                      have := Key.scan_zero _ hkd
                      rw [← Lib.mk_data k, this]
                    subst hk0
                    clear hkd hku hd
                    go_wp2_with fail
                    refine (awake23_any _).mono ?_; rintro e v1 ⟨rfl, g1⟩
                    go_wp2
                    go_ret
                    exact ⟨rfl, hb.trans (g1.mono hb.size)⟩
  · rw [decide_eq_false hs] at HS
    clear hs
    go_enter Try.func8, Try.ntmps8
    go_wp2_with fail
    refine ((HS _).out).mono ?_; rintro e w' ⟨rfl, rfl⟩
    go_wp2_with fail
    refine (awake23_any _).mono ?_; rintro e w5 ⟨rfl, h5⟩
    go_wp2
    go_ret
    exact ⟨rfl, h5⟩
end Go.Proofs.Ytpmmccmhmoihgaa
