/- The walks of toponymref20.at, toponymref20.fits, toponymref18.Word. No condition. -/
import Derived.Test.YtljeeehimcdmbaaGreatDoorMGreatDoorAc5
namespace Go.Proofs.YtljeeehimcdmbaaGreatDoor
open Go.RowKit Go.Wd Go.Dir Go.Shelf

theorem at_first (l : List Attr) (nm : ByteArray) (k : Nat) (hk : k < l.length) (h : ∀ j, j < k → ¬ (l.getD j Attr.none).name = nm) (h' : (l.getD k Attr.none).name = nm) : at? l nm = some (l.getD k Attr.none) := by
  have e : (l.take k).find? (fun a => decide (a.name = nm)) = none := by
    rw [List.find?_eq_none]
    intro x hx
    obtain ⟨j, hj, rfl⟩ := List.getElem_of_mem hx
    have hj' : j < k := by simpa using (List.length_take_le k l |> Nat.lt_of_lt_of_le hj)
    have := h j hj'
    rw [List.getD_eq_getElem?_getD, List.getElem?_eq_getElem (by omega)] at this
    simpa [List.getElem_take] using this
  have e2 : l[k] = l.getD k Attr.none := by rw [List.getD_eq_getElem?_getD, List.getElem?_eq_getElem hk]; rfl
  have e3 : (l.drop k).find? (fun a => decide (a.name = nm)) = some (l.getD k Attr.none) := by
    rw [List.drop_eq_getElem_cons hk, List.find?_cons, e2, decide_eq_true h']
  have e4 : (l.take k ++ l.drop k).find? (fun a => decide (a.name = nm)) = some (l.getD k Attr.none) := by rw [List.find?_append, e, e3]; rfl
  rw [List.take_append_drop] at e4
  exact e4
theorem at_not (l : List Attr) (nm : ByteArray) (h : ∀ j, j < l.length → ¬ (l.getD j Attr.none).name = nm) : at? l nm = none := by
  unfold at?
  rw [List.find?_eq_none]
  intro x hx
  obtain ⟨j, hj, rfl⟩ := List.getElem_of_mem hx
  have := h j hj
  rw [List.getD_eq_getElem?_getD, List.getElem?_eq_getElem hj] at this
  simpa using this

/-- What at tells: a place, or minus one. -/
def AtIs (l : List Attr) (nm : ByteArray) (i : Int) : Prop := (i = -1 ∧ at? l nm = none) ∨ ∃ k : Nat, i = k ∧ k < l.length ∧ at? l nm = some (l.getD k Attr.none)

set_option maxHeartbeats 800000 in
theorem at_any (l : List Attr) (v : Value) (s : ByteArray) (w : World) (hs : Sl w v 6 l.length (attrCells l)) (hl : l.length < 1000000) :
    Calls Tryz.prog 74 #[v, .string s] w fun e w' => ∃ i : Int, e = .returned (.int .i64 i) ∧ AtIs l s i ∧ w' = w := by
  obtain ⟨q, cap, rfl⟩ : ∃ q cap, v = .slice q l.length cap := by obtain ⟨_, q, cap, h, _⟩ := hs; exact ⟨q, cap, h⟩
  go_enter Tryz.func74, Tryz.ntmps74
  go_wp2
  go_loopw [5] (fun i wr => ∃ k : Nat, k ≤ l.length ∧ i = .int .i64 k ∧ (∀ j, j < k → ¬ (l.getD j Attr.none).name = s) ∧ wr = w) (fun i _ => l.length - (intOf i).toNat)
  case atStart => exact ⟨0, Nat.zero_le _, rfl, fun j h => by omega, rfl⟩
  case round =>
    obtain ⟨k, hk, rfl, hall, rfl⟩ := hrel
    by_cases hlt : k < l.length
    · obtain ⟨b, off, cap', e, hcell, -⟩ := attr_at hs k hlt
      cases e
      have HY := fun h' => Lib.hid (at_first l s k hlt hall h')
      have Hall := Lib.hid hall
      clear hall hs
      by_cases hx : (l.getD k Attr.none).name = s
      · have HY' := HY hx
        clear HY
        rw [hx] at hcell
        have e0 : (s.toList == s.toList) = true := by simp
        clear hx
        go_wp2
        go_ret
        exact ⟨k, rfl, .inr ⟨k, rfl, hlt, HY'.out⟩, rfl⟩
      · have Hx := Lib.hid hx
        obtain ⟨x, hxe⟩ : ∃ x, x = (l.getD k Attr.none).name := ⟨_, rfl⟩
        rw [← hxe] at hcell hx
        clear hxe
        have e0 : (x.toList == s.toList) = false := by
          cases h : (x.toList == s.toList) with
          | false => rfl
          | true => exact absurd (toList_inj (beq_iff_eq.1 h)) hx
        have e1 : ¬ x.toList = s.toList := fun h => hx (toList_inj h)
        clear hx HY
        go_wp2
        go_roundw
        case rel => exact ⟨k + 1, by omega, by go_num, fun j hj => by
          by_cases e : j = k
          · subst e; exact Hx.out
          · exact Hall.out j (by omega), trivial⟩
        case measure => simp [intOf]; omega
    · have e : k = l.length := by omega
      subst e
      have Hall := Lib.hid hall
      clear hs hall
      go_wp2
      go_ret
      exact ⟨-1, rfl, .inl ⟨rfl, at_not l s Hall.out⟩, rfl⟩

set_option maxHeartbeats 800000 in
theorem fits20_any (n r : Int) (w : World) : Calls Tryz.prog 117 #[.int .i64 n, .int .i64 r] w fun e w' => e = .returned (.bool (has n r)) ∧ w' = w := by
  obtain ⟨b, hb⟩ : ∃ b, b = has n r := ⟨_, rfl⟩
  rw [← hb]
  unfold has known at hb
  go_enter Tryz.func117, Tryz.ntmps117
  by_cases h0 : n < 1
  · obtain rfl : b = false := by rw [hb, if_neg (by omega), if_neg (by omega)]; simp; omega
    clear hb
    go_wp2
    go_ret
    exact ⟨rfl, rfl⟩
  by_cases h11 : 10 < n
  · obtain rfl : b = false := by rw [hb, if_neg (by omega), if_neg (by omega)]; simp; omega
    clear hb
    go_wp2
    go_ret
    exact ⟨rfl, rfl⟩
  by_cases h1 : n = 1
  · subst h1
    rw [if_pos (by omega)] at hb
    have Hb := Lib.hid hb
    clear hb
    by_cases a1 : 0 ≤ r
    · go_wp2
      go_ret
      exact ⟨ret_bool (by rw [Hb.out]; first | (simp; done) | (simp; omega)), rfl⟩
    · go_wp2
      go_ret
      exact ⟨ret_bool (by rw [Hb.out]; first | (simp; done) | (simp; omega)), rfl⟩
  by_cases h2 : n = 2
  · subst h2
    rw [if_pos (by omega)] at hb
    have Hb := Lib.hid hb
    clear hb
    by_cases a1 : 0 ≤ r
    · go_wp2
      go_ret
      exact ⟨ret_bool (by rw [Hb.out]; first | (simp; done) | (simp; omega)), rfl⟩
    · go_wp2
      go_ret
      exact ⟨ret_bool (by rw [Hb.out]; first | (simp; done) | (simp; omega)), rfl⟩
  rw [if_neg (by omega)] at hb
  by_cases h3 : n = 10
  · subst h3
    rw [if_pos rfl] at hb
    have Hb := Lib.hid hb
    clear hb
    by_cases a1 : r = 0
    · subst a1
      go_wp2
      go_ret
      exact ⟨ret_bool (by rw [Hb.out]; simp), rfl⟩
    · by_cases a2 : r = 10
      · subst a2
        go_wp2
        go_ret
        exact ⟨ret_bool (by rw [Hb.out]; simp), rfl⟩
      · by_cases a3 : r = 11
        · subst a3
          go_wp2
          go_ret
          exact ⟨ret_bool (by rw [Hb.out]; simp), rfl⟩
        · go_wp2
          go_ret
          exact ⟨ret_bool (by rw [Hb.out]; first | (simp; done) | (simp; omega)), rfl⟩
  rw [if_neg h3, decide_eq_true (show 1 ≤ n by omega), decide_eq_true (show n ≤ 10 by omega)] at hb
  have Hb := Lib.hid hb
  clear hb
  by_cases a1 : r = 0
  · subst a1
    go_wp2
    go_ret
    exact ⟨ret_bool (by rw [Hb.out]; simp), rfl⟩
  · go_wp2
    go_ret
    exact ⟨ret_bool (by rw [Hb.out]; simp [a1]), rfl⟩
theorem u8_int (c : UInt8) : (c.toNat : Int) < 256 := by have := c.toNat_lt; omega

set_option maxHeartbeats 1600000 in
theorem word18_any (s : ByteArray) (hs : s.size < 1000000) (w : World) : Calls Tryz.prog 118 #[.string s] w fun e w' => e = .returned (.bool (word s)) ∧ w' = w := by
  obtain ⟨r, hr⟩ : ∃ r, r = word s := ⟨_, rfl⟩
  rw [← hr]
  go_enter Tryz.func118, Tryz.ntmps118
  by_cases h0 : s.size < 1
  · rw [word_nil s (by omega)] at hr
    subst hr
    go_wp2
    go_ret
    exact ⟨rfl, rfl⟩
  by_cases h16 : 16 < s.size
  · rw [word_long s h16] at hr
    subst hr
    go_wp2
    go_ret
    exact ⟨rfl, rfl⟩
  have Hr := Lib.hid hr
  clear hr
  go_wp2
  go_loopw [3] (fun i wr => ∃ k : Nat, k ≤ s.size ∧ i = .int .i64 k ∧ ((0 < k → small (s.data.toList.getD 0 0) = true) ∧ ∀ j, 1 ≤ j → j < k → wordly (s.data.toList.getD j 0) = true) ∧ wr = w) (fun i _ => s.size - (intOf i).toNat)
  case atStart => exact ⟨0, Nat.zero_le _, rfl, ⟨fun h => by omega, fun j h1 h2 => by omega⟩, rfl⟩
  case round =>
    obtain ⟨k, hk, rfl, hall, rfl⟩ := hrel
    have Hall := Lib.hid hall
    clear hall
    by_cases hlt : k < s.size
    · have hbk := byte_at s k hlt
      have Hk := Lib.hid hbk
      clear hbk
      obtain ⟨b1, hb1⟩ : ∃ b, b = small s[k] := ⟨_, rfl⟩
      obtain ⟨b2, hb2⟩ : ∃ b, b = ((decide (48 ≤ s[k].toNat) && decide (s[k].toNat ≤ 57)) || decide (s[k].toNat = 45)) := ⟨_, rfl⟩
      have hwd : wordly s[k] = (b1 || b2) := by rw [hb1, hb2]; unfold wordly; rw [Bool.or_assoc]
      have Hwd := Lib.hid hwd
      have Hb1 := Lib.hid hb1
      have hb3 : b1 = (decide (97 ≤ s[k].toNat) && decide (s[k].toNat ≤ 122)) := by rw [hb1]; rfl
      clear hwd hb1
      generalize hck : s[k].toNat = c at *
      have Hb2 := Lib.hid hb2
      have Hb3 := Lib.hid hb3
      clear hb2 hb3
      go_upto_region 6 with fail
      go_cut [4] from 20 to 29 (fun s4 wx => s4 = .bool b1 ∧ wx = wr)
      case first =>
        clear Hall Hwd Hb1 Hb2 Hr
        by_cases c1 : 97 ≤ c
        · by_cases c2 : c ≤ 122
          · obtain rfl : b1 = true := by rw [Hb3.out]; simp [c1, c2]
            clear Hb3
            go_wp2
            go_meet
            exact ⟨by simp; try omega, rfl⟩
          · obtain rfl : b1 = false := by rw [Hb3.out]; simp [c2]
            clear Hb3
            go_wp2
            go_meet
            exact ⟨by simp; try omega, rfl⟩
        · obtain rfl : b1 = false := by rw [Hb3.out]; simp [c1]
          clear Hb3
          go_wp2
          go_meet
          exact ⟨rfl, rfl⟩
      case rest =>
        obtain ⟨rfl, rfl⟩ := hcut
        go_upto_region 7 with fail
        go_cut [5] from 30 to 45 (fun s5 wx => s5 = .bool b2 ∧ wx = wc)
        case first =>
          clear Hall Hwd Hb1 Hb3 Hr
          by_cases c3 : c = 45
          · obtain rfl : b2 = true := by rw [Hb2.out]; simp [c3]
            clear Hb2
            subst c3
            go_wp2
            go_meet
            exact ⟨rfl, rfl⟩
          · by_cases c1 : 48 ≤ c
            · by_cases c2 : c ≤ 57
              · obtain rfl : b2 = true := by rw [Hb2.out]; simp [c1, c2]
                clear Hb2
                go_wp2
                go_meet
                exact ⟨rfl, rfl⟩
              · obtain rfl : b2 = false := by rw [Hb2.out]; simp [c2, c3]
                clear Hb2
                have c4 : ((c : Int) == 45) = false := by rw [beq_eq_false_iff_ne]; omega
                clear c3
                go_wp2
                go_meet
                exact ⟨by simp; try omega, rfl⟩
            · obtain rfl : b2 = false := by rw [Hb2.out]; simp [c1, c3]
              clear Hb2
              have c4 : ((c : Int) == 45) = false := by rw [beq_eq_false_iff_ne]; omega
              clear c3
              go_wp2
              go_meet
              exact ⟨by simp; try omega, rfl⟩
        case rest =>
          obtain ⟨rfl, rfl⟩ := hcut
          clear Hb2 Hb3
          cases b1 with
          | true =>
            have hw : wordly (s.data.toList.getD k 0) = true := by rw [Hk.out, Hwd.out]; rfl
            have h1 : k = 0 → small (s.data.toList.getD 0 0) = true := fun e => by subst e; rw [Hk.out]; exact Hb1.out.symm
            have Hw := Lib.hid hw
            have H1 := Lib.hid h1
            clear hw h1
            go_wp2
            go_roundw
            case rel => exact ⟨k + 1, by omega, by go_num, ⟨fun _ => by
              by_cases e : k = 0
              · exact H1.out e
              · exact Hall.out.1 (by omega), fun j h4 h5 => by
              by_cases hj : j = k
              · subst hj; exact Hw.out
              · exact Hall.out.2 j h4 (by omega)⟩, trivial⟩
            case measure => simp [intOf]; omega
          | false =>
            by_cases hk0 : k = 0
            · subst hk0
              obtain rfl : r = false := by rw [Hr.out]; exact word_head s (by omega) (by rw [Hk.out]; exact Hb1.out.symm)
              clear Hr Hall Hwd Hb1
              go_wp2
              go_ret
              exact ⟨rfl, rfl⟩
            · have k1 : ((k : Int) == 0) = false := by rw [beq_eq_false_iff_ne]; omega
              cases b2 with
              | true =>
                have hw : wordly (s.data.toList.getD k 0) = true := by rw [Hk.out, Hwd.out]; rfl
                have Hw := Lib.hid hw
                clear hw
                go_wp2
                go_roundw
                case rel => exact ⟨k + 1, by omega, by go_num, ⟨fun _ => Hall.out.1 (by omega), fun j h4 h5 => by
                  by_cases hj : j = k
                  · subst hj; exact Hw.out
                  · exact Hall.out.2 j h4 (by omega)⟩, trivial⟩
                case measure => simp [intOf]; omega
              | false =>
                obtain rfl : r = false := by rw [Hr.out]; exact word_bad s k (by omega) hlt (by rw [Hk.out, Hwd.out]; rfl)
                clear Hr Hall Hwd Hb1
                go_wp2
                go_ret
                exact ⟨rfl, rfl⟩
    · have e : k = s.size := by omega
      subst e
      obtain rfl : r = true := by rw [Hr.out]; exact word_ok s (by omega) (by omega) (Hall.out.1 (by omega)) Hall.out.2
      clear Hall Hr
      go_wp2
      go_ret
      exact ⟨rfl, rfl⟩
end Go.Proofs.YtljeeehimcdmbaaGreatDoor
