/- The walks of dn.small, dn.Word, attrs.has, attrs.sane. No condition. -/
import Derived.Test.YtljeeehimcdmbaaGreatDoorMGreatDoorAt2
namespace Go.Proofs.YtljeeehimcdmbaaGreatDoor
open Go.RowKit Go.Wd Go.Dir

theorem small_any (c : UInt8) (w : World) : Calls Tryz.prog 84 #[.int .u8 (c.toNat : Int)] w fun e w' => e = .returned (.bool (small c)) ∧ w' = w := by
  go_enter Tryz.func84, Tryz.ntmps84
  unfold small
  generalize c.toNat = k
  by_cases h1 : 97 ≤ k
  · by_cases h2 : k ≤ 122
    · go_wp2
      go_ret
      exact ⟨ret_bool (by first | (simp; done) | (simp; omega)), rfl⟩
    · go_wp2
      go_ret
      exact ⟨ret_bool (by first | (simp; done) | (simp; omega)), rfl⟩
  · go_wp2
    go_ret
    exact ⟨ret_bool (by first | (simp; done) | (simp; omega)), rfl⟩

theorem has_any (n r : Int) (w : World) : Calls Tryz.prog 75 #[.int .i64 n, .int .i64 r] w fun e w' => e = .returned (.bool (has n r)) ∧ w' = w := by
  go_enter Tryz.func75, Tryz.ntmps75
  have H := fun w => Lib.hid (known_any n w)
  by_cases h1 : n = 1
  · subst h1
    by_cases a1 : 0 ≤ r
    · go_wp2
      go_ret
      exact ⟨ret_bool (by first | (simp [has]; done) | (simp [has]; omega)), rfl⟩
    · go_wp2
      go_ret
      exact ⟨ret_bool (by first | (simp [has]; done) | (simp [has]; omega)), rfl⟩
  by_cases h2 : n = 2
  · subst h2
    by_cases a1 : 0 ≤ r
    · go_wp2
      go_ret
      exact ⟨ret_bool (by first | (simp [has]; done) | (simp [has]; omega)), rfl⟩
    · go_wp2
      go_ret
      exact ⟨ret_bool (by first | (simp [has]; done) | (simp [has]; omega)), rfl⟩
  by_cases h3 : n = 10
  · subst h3
    by_cases a1 : r = 0
    · subst a1
      go_wp2
      go_ret
      exact ⟨by simp [has], rfl⟩
    · by_cases a2 : r = 10
      · subst a2
        go_wp2
        go_ret
        exact ⟨by simp [has], rfl⟩
      · by_cases a3 : r = 11
        · subst a3
          go_wp2
          go_ret
          exact ⟨by simp [has], rfl⟩
        · go_wp2
          go_ret
          exact ⟨ret_bool (by first | (simp [has]; done) | (simp [has]; omega)), rfl⟩
  have hh : has n r = (known n && decide (r = 0 ∨ r = n)) := by unfold has; rw [if_neg (by omega), if_neg (by omega)]
  have Hh := Lib.hid hh
  clear hh
  generalize known n = k at *
  cases k
  · go_wp2_with fail
    refine (H _).out.mono ?_
    rintro e w' ⟨rfl, rfl⟩
    go_wp2
    go_ret
    exact ⟨by rw [Hh.out]; rfl, rfl⟩
  · by_cases a1 : r = 0
    · subst a1
      go_wp2_with fail
      refine (H _).out.mono ?_
      rintro e w' ⟨rfl, rfl⟩
      go_wp2
      go_ret
      exact ⟨by rw [Hh.out]; simp, rfl⟩
    · go_wp2_with fail
      refine (H _).out.mono ?_
      rintro e w' ⟨rfl, rfl⟩
      go_wp2
      go_ret
      exact ⟨ret_bool (by rw [Hh.out]; simp [a1]), rfl⟩

theorem word_nil (s : ByteArray) (h : s.size = 0) : word s = false := by
  have : s.data.toList = [] := List.length_eq_zero_iff.1 (by rw [Array.length_toList]; exact h)
  unfold word; rw [this]
theorem word_split (s : ByteArray) (h : 0 < s.size) : ∃ c r, s.data.toList = c :: r ∧ r.length + 1 = s.size := by
  have e : s.data.toList.length = s.size := by rw [Array.length_toList]; rfl
  cases hl : s.data.toList with
  | nil => rw [hl] at e; simp at e; omega
  | cons c r => exact ⟨c, r, rfl, by rw [hl] at e; simpa using e⟩
theorem word_long (s : ByteArray) (h : 16 < s.size) : word s = false := by
  obtain ⟨c, r, e, _⟩ := word_split s (by omega)
  unfold word; rw [e]
  show (decide (s.size ≤ 16) && small c && r.all wordly) = false
  rw [decide_eq_false (by omega)]; rfl
theorem word_head (s : ByteArray) (h : 0 < s.size) (hc : small (s.data.toList.getD 0 0) = false) : word s = false := by
  obtain ⟨c, r, e, _⟩ := word_split s h
  rw [e] at hc
  unfold word; rw [e]
  show (decide (s.size ≤ 16) && small c && r.all wordly) = false
  rw [show small c = false from hc]; simp
theorem word_bad (s : ByteArray) (k : Nat) (h1 : 1 ≤ k) (h2 : k < s.size) (hc : wordly (s.data.toList.getD k 0) = false) : word s = false := by
  obtain ⟨c, r, e, hl⟩ := word_split s (by omega)
  obtain ⟨k, rfl⟩ : ∃ j, k = j + 1 := ⟨k - 1, by omega⟩
  rw [e] at hc
  have hk : k < r.length := by omega
  have hc' : wordly r[k] = false := by simpa [List.getD_eq_getElem?_getD, List.getElem?_eq_getElem hk] using hc
  unfold word; rw [e]
  show (decide (s.size ≤ 16) && small c && r.all wordly) = false
  have : r.all wordly = false := by
    rw [List.all_eq_false]
    exact ⟨r[k], List.getElem_mem _, by rw [hc']; simp⟩
  rw [this]; simp
theorem word_ok (s : ByteArray) (h0 : 0 < s.size) (h1 : s.size ≤ 16) (h2 : small (s.data.toList.getD 0 0) = true) (h3 : ∀ k, 1 ≤ k → k < s.size → wordly (s.data.toList.getD k 0) = true) : word s = true := by
  obtain ⟨c, r, e, hl⟩ := word_split s h0
  rw [e] at h2 h3
  unfold word; rw [e]
  show (decide (s.size ≤ 16) && small c && r.all wordly) = true
  rw [decide_eq_true h1, show small c = true from h2]
  rw [Bool.true_and, Bool.true_and, List.all_eq_true]
  intro x hx
  obtain ⟨i, hi, rfl⟩ := List.getElem_of_mem hx
  have := h3 (i + 1) (by omega) (by omega)
  simpa [List.getD_eq_getElem?_getD, List.getElem?_eq_getElem hi] using this

theorem byte_at (s : ByteArray) (k : Nat) (h : k < s.size) : s.data.toList.getD k 0 = s[k] := by
  have h' : k < s.data.size := h
  rw [List.getD_eq_getElem?_getD, Array.getElem?_toList, Array.getElem?_eq_getElem h']; rfl

theorem word_any (s : ByteArray) (hs : s.size < 1000000) (w : World) : Calls Tryz.prog 63 #[.string s] w fun e w' => e = .returned (.bool (word s)) ∧ w' = w := by
  obtain ⟨r, hr⟩ : ∃ r, r = word s := ⟨_, rfl⟩
  rw [← hr]
  go_enter Tryz.func63, Tryz.ntmps63
  have H := fun c w => Lib.hid (small_any c w)
  by_cases h0 : s.size = 0
  · rw [word_nil s h0] at hr
    subst hr
    have e : s = ⟨#[]⟩ := by cases s with | mk d => congr 1; exact Array.size_eq_zero_iff.1 h0
    subst e
    go_wp2
    go_ret
    exact ⟨rfl, rfl⟩
  have hne : ¬ s.toList = [] := by
    rw [Lib.toList_data]; intro h
    have := congrArg List.length h
    rw [Array.length_toList] at this
    exact h0 this
  have hne2 : s.toList.isEmpty = false := by cases h : s.toList with | nil => exact absurd h hne | cons _ _ => rfl
  by_cases h16 : 16 < s.size
  · rw [word_long s h16] at hr
    subst hr
    go_wp2
    go_ret
    exact ⟨rfl, rfl⟩
  have hp : 0 < s.size := by omega
  have hb := byte_at s 0 hp
  cases hsm : small s[0] with
  | false =>
    rw [word_head s hp (by rw [hb]; exact hsm)] at hr
    subst hr
    have Hc := Lib.hid hsm
    clear hsm hb
    have H0 := H s[0]
    rw [Hc.out] at H0
    go_wp2_with fail
    refine (H0 _).out.mono ?_
    rintro e w' ⟨rfl, rfl⟩
    go_wp2
    go_ret
    exact ⟨rfl, rfl⟩
  | true =>
    have Hc := Lib.hid hsm
    have H0 := H s[0]
    rw [Hc.out] at H0
    have Hh := Lib.hid (show small (s.data.toList.getD 0 0) = true by rw [hb]; exact hsm)
    clear hsm hb
    go_wp2_with fail
    refine (H0 _).out.mono ?_
    rintro e w' ⟨rfl, rfl⟩
    have Hr := Lib.hid hr
    clear hr H0
    go_wp2
    go_loop [3] (fun i => ∃ k : Nat, i = .int .i64 k ∧ 1 ≤ k ∧ k ≤ s.size ∧ ∀ j, 1 ≤ j → j < k → wordly (s.data.toList.getD j 0) = true) (fun i => s.size - (intOf i).toNat)
    case atStart => exact ⟨1, rfl, by omega, by omega, fun j h1 h2 => by omega⟩
    case round =>
      obtain ⟨k, rfl, h1, h2, h3⟩ := hrel
      have H3 := Lib.hid h3
      clear h3
      by_cases hlt : k < s.size
      · have hbk := byte_at s k hlt
        have Hk := Lib.hid hbk
        clear hbk
        have H0 := H s[k]
        cases hsm : small s[k] with
        | true =>
          rw [hsm] at H0
          have Hs := Lib.hid hsm
          clear hsm
          go_wp2_with fail
          refine (H0 _).out.mono ?_
          rintro e w' ⟨rfl, rfl⟩
          go_wp2
          go_round
          case rel => exact ⟨k + 1, by simp, by omega, by omega, fun j h4 h5 => by
            by_cases hj : j = k
            · subst hj; rw [Hk.out]; unfold wordly; rw [Hs.out]; rfl
            · exact H3.out j h4 (by omega)⟩
          case measure => simp [intOf]; omega
        | false =>
          rw [hsm] at H0
          have Hs := Lib.hid hsm
          clear hsm
          have hw : wordly s[k] = ((decide (48 ≤ s[k].toNat) && decide (s[k].toNat ≤ 57)) || decide (s[k].toNat = 45)) := by unfold wordly; rw [Hs.out]; rfl
          have Hw := Lib.hid hw
          clear hw
          generalize hck : s[k].toNat = c at *
          by_cases c1 : c < 48
          · by_cases c2 : c = 45
            · have Ht := Lib.hid (show wordly s[k] = true by rw [Hw.out]; simp [c2])
              have c4 : ((c : Int) == 45) = true := by subst c2; rfl
              have c5 : (c : Int) < 48 := by omega
              clear Hw c2
              go_wp2_with fail
              refine (H0 _).out.mono ?_
              rintro e w' ⟨rfl, rfl⟩
              go_wp2
              go_round
              case rel => exact ⟨k + 1, by simp, by omega, by omega, fun j h4 h5 => by
                by_cases hj : j = k
                · subst hj; rw [Hk.out]; exact Ht.out
                · exact H3.out j h4 (by omega)⟩
              case measure => simp [intOf]; omega
            · have Ht := Lib.hid (show wordly s[k] = false by rw [Hw.out]; simp [c2]; omega)
              clear Hw
              go_wp2_with fail
              refine (H0 _).out.mono ?_
              rintro e w' ⟨rfl, rfl⟩
              have hf := word_bad s k h1 hlt (by rw [Hk.out]; exact Ht.out)
              rw [← Hr.out] at hf
              have Hf := Lib.hid hf
              clear hf
              go_wp2
              go_ret
              exact ⟨by rw [Hf.out]; rfl, rfl⟩
          · by_cases c3 : c ≤ 57
            · have Ht := Lib.hid (show wordly s[k] = true by rw [Hw.out]; simp; omega)
              clear Hw
              go_wp2_with fail
              refine (H0 _).out.mono ?_
              rintro e w' ⟨rfl, rfl⟩
              go_wp2
              go_round
              case rel => exact ⟨k + 1, by simp, by omega, by omega, fun j h4 h5 => by
                by_cases hj : j = k
                · subst hj; rw [Hk.out]; exact Ht.out
                · exact H3.out j h4 (by omega)⟩
              case measure => simp [intOf]; omega
            · have Ht := Lib.hid (show wordly s[k] = false by rw [Hw.out]; simp; omega)
              have c6 : ((c : Int) == 45) = false := beq_eq_false_iff_ne.2 (by omega)
              have c7 : ((c : Int) != 45) = true := by simp; omega
              clear Hw
              go_wp2_with fail
              refine (H0 _).out.mono ?_
              rintro e w' ⟨rfl, rfl⟩
              have hf := word_bad s k h1 hlt (by rw [Hk.out]; exact Ht.out)
              rw [← Hr.out] at hf
              have Hf := Lib.hid hf
              clear hf
              go_wp2
              go_ret
              exact ⟨by rw [Hf.out]; rfl, rfl⟩
      · have hk : k = s.size := by omega
        subst hk
        have ht := word_ok s hp (by omega) Hh.out H3.out
        rw [← Hr.out] at ht
        have Ht := Lib.hid ht
        clear ht
        go_wp2
        go_ret
        exact ⟨by rw [Ht.out]; rfl, rfl⟩
end Go.Proofs.YtljeeehimcdmbaaGreatDoor
