/- AclViews: parts of its proof. No condition. -/
import Derived.Test.YtljeeehimcdmbaaGreatDoorMGreatDoorAc4
import Derived.Deep.RegionHeld3
import Derived.Shelf.SlSortCmp.QuietGrown
import Derived.Laws.Cells
import Derived.Shelf.SlicesQ.Load
section
/- The walks of toponymref20.at, toponymref20.fits, toponymref18.Word. No condition. -/
namespace Go.Proofs.YtljeeehimcdmbaaGreatDoor
open Go.RowKit Go.Wd Go.Dir Go.Shelf

theorem at_first (l : List Attr) (nm : ByteArray) (k : Nat) (hk : k < l.length) (h : ∀ j, j < k → ¬ (l.getD j Attr.none).name = nm) (h' : (l.getD k Attr.none).name = nm) : at? l nm = some (l.getD k Attr.none) := by
  have e : (l.take k).find? (fun a => decide (a.name = nm)) = none := by
    rw [List.find?_eq_none]
    intro x hx
    obtain ⟨j, hj, rfl⟩ := List.getElem_of_mem hx
    have hj' : j < k := by simpa using (List.length_take_le k l |> Nat.lt_of_lt_of_le hj)
    have := h j hj'
    rw [List.getD_eq_getElem?_getD, List.getElem?_eq_getElem (by omega)] at this
    simpa [List.getElem_take] using this
  have e2 : l[k] = l.getD k Attr.none := by rw [List.getD_eq_getElem?_getD, List.getElem?_eq_getElem hk]; rfl
  have e3 : (l.drop k).find? (fun a => decide (a.name = nm)) = some (l.getD k Attr.none) := by
    rw [List.drop_eq_getElem_cons hk, List.find?_cons, e2, decide_eq_true h']
  have e4 : (l.take k ++ l.drop k).find? (fun a => decide (a.name = nm)) = some (l.getD k Attr.none) := by rw [List.find?_append, e, e3]; rfl
  rw [List.take_append_drop] at e4
  exact e4
theorem at_not (l : List Attr) (nm : ByteArray) (h : ∀ j, j < l.length → ¬ (l.getD j Attr.none).name = nm) : at? l nm = none := by
  unfold at?
  rw [List.find?_eq_none]
  intro x hx
  obtain ⟨j, hj, rfl⟩ := List.getElem_of_mem hx
  have := h j hj
  rw [List.getD_eq_getElem?_getD, List.getElem?_eq_getElem hj] at this
  simpa using this

/-- What at tells: a place, or minus one. -/
def AtIs (l : List Attr) (nm : ByteArray) (i : Int) : Prop := (i = -1 ∧ at? l nm = none) ∨ ∃ k : Nat, i = k ∧ k < l.length ∧ at? l nm = some (l.getD k Attr.none)

set_option maxHeartbeats 800000 in
theorem at_any (l : List Attr) (v : Value) (s : ByteArray) (w : World) (hs : Sl w v 6 l.length (attrCells l)) (hl : l.length < 1000000) :
    Calls Tryz.prog 74 #[v, .string s] w fun e w' => ∃ i : Int, e = .returned (.int .i64 i) ∧ AtIs l s i ∧ w' = w := by
  obtain ⟨q, cap, rfl⟩ : ∃ q cap, v = .slice q l.length cap := by obtain ⟨_, q, cap, h, _⟩ := hs; exact ⟨q, cap, h⟩
  go_enter Tryz.func74, Tryz.ntmps74
  go_wp2
  go_loopw [5] (fun i wr => ∃ k : Nat, k ≤ l.length ∧ i = .int .i64 k ∧ (∀ j, j < k → ¬ (l.getD j Attr.none).name = s) ∧ wr = w) (fun i _ => l.length - (intOf i).toNat)
  case atStart => exact ⟨0, Nat.zero_le _, rfl, fun j h => by omega, rfl⟩
  case round =>
    obtain ⟨k, hk, rfl, hall, rfl⟩ := hrel
    by_cases hlt : k < l.length
    · obtain ⟨b, off, cap', e, hcell, -⟩ := attr_at hs k hlt
      cases e
      have HY := fun h' => Lib.hid (at_first l s k hlt hall h')
      have Hall := Lib.hid hall
      clear hall hs
      by_cases hx : (l.getD k Attr.none).name = s
      · have HY' := HY hx
        clear HY
        rw [hx] at hcell
        have e0 : (s.toList == s.toList) = true := by simp
        clear hx
        go_wp2
        go_ret
        exact ⟨k, rfl, .inr ⟨k, rfl, hlt, HY'.out⟩, rfl⟩
      · have Hx := Lib.hid hx
        obtain ⟨x, hxe⟩ : ∃ x, x = (l.getD k Attr.none).name := ⟨_, rfl⟩
        rw [← hxe] at hcell hx
        clear hxe
        have e0 : (x.toList == s.toList) = false := by
          cases h : (x.toList == s.toList) with
          | false => rfl
          | true => exact absurd (toList_inj (beq_iff_eq.1 h)) hx
        have e1 : ¬ x.toList = s.toList := fun h => hx (toList_inj h)
        clear hx HY
        go_wp2
        go_roundw
        case rel => exact ⟨k + 1, by omega, by go_num, fun j hj => by
          by_cases e : j = k
          · subst e; exact Hx.out
          · exact Hall.out j (by omega), trivial⟩
        case measure => simp [intOf]; omega
    · have e : k = l.length := by omega
      subst e
      have Hall := Lib.hid hall
      clear hs hall
      go_wp2
      go_ret
      exact ⟨-1, rfl, .inl ⟨rfl, at_not l s Hall.out⟩, rfl⟩

set_option maxHeartbeats 800000 in
theorem fits20_any (n r : Int) (w : World) : Calls Tryz.prog 117 #[.int .i64 n, .int .i64 r] w fun e w' => e = .returned (.bool (has n r)) ∧ w' = w := by
  obtain ⟨b, hb⟩ : ∃ b, b = has n r := ⟨_, rfl⟩
  rw [← hb]
  unfold has known at hb
  go_enter Tryz.func117, Tryz.ntmps117
  by_cases h0 : n < 1
  · obtain rfl : b = false := by rw [hb, if_neg (by omega), if_neg (by omega)]; simp; omega
    clear hb
    go_wp2
    go_ret
    exact ⟨rfl, rfl⟩
  by_cases h11 : 10 < n
  · obtain rfl : b = false := by rw [hb, if_neg (by omega), if_neg (by omega)]; simp; omega
    clear hb
    go_wp2
    go_ret
    exact ⟨rfl, rfl⟩
  by_cases h1 : n = 1
  · subst h1
    rw [if_pos (by omega)] at hb
    have Hb := Lib.hid hb
    clear hb
    by_cases a1 : 0 ≤ r
    · go_wp2
      go_ret
      exact ⟨ret_bool (by rw [Hb.out]; first | (simp; done) | (simp; omega)), rfl⟩
    · go_wp2
      go_ret
      exact ⟨ret_bool (by rw [Hb.out]; first | (simp; done) | (simp; omega)), rfl⟩
  by_cases h2 : n = 2
  · subst h2
    rw [if_pos (by omega)] at hb
    have Hb := Lib.hid hb
    clear hb
    by_cases a1 : 0 ≤ r
    · go_wp2
      go_ret
      exact ⟨ret_bool (by rw [Hb.out]; first | (simp; done) | (simp; omega)), rfl⟩
    · go_wp2
      go_ret
      exact ⟨ret_bool (by rw [Hb.out]; first | (simp; done) | (simp; omega)), rfl⟩
  rw [if_neg (by omega)] at hb
  by_cases h3 : n = 10
  · subst h3
    rw [if_pos rfl] at hb
    have Hb := Lib.hid hb
    clear hb
    by_cases a1 : r = 0
    · subst a1
      go_wp2
      go_ret
      exact ⟨ret_bool (by rw [Hb.out]; simp), rfl⟩
    · by_cases a2 : r = 10
      · subst a2
        go_wp2
        go_ret
        exact ⟨ret_bool (by rw [Hb.out]; simp), rfl⟩
      · by_cases a3 : r = 11
        · subst a3
          go_wp2
          go_ret
          exact ⟨ret_bool (by rw [Hb.out]; simp), rfl⟩
        · go_wp2
          go_ret
          exact ⟨ret_bool (by rw [Hb.out]; first | (simp; done) | (simp; omega)), rfl⟩
  rw [if_neg h3, decide_eq_true (show 1 ≤ n by omega), decide_eq_true (show n ≤ 10 by omega)] at hb
  have Hb := Lib.hid hb
  clear hb
  by_cases a1 : r = 0
  · subst a1
    go_wp2
    go_ret
    exact ⟨ret_bool (by rw [Hb.out]; simp), rfl⟩
  · go_wp2
    go_ret
    exact ⟨ret_bool (by rw [Hb.out]; simp [a1]), rfl⟩
theorem u8_int (c : UInt8) : (c.toNat : Int) < 256 := by have := c.toNat_lt; omega

set_option maxHeartbeats 1600000 in
theorem word18_any (s : ByteArray) (hs : s.size < 1000000) (w : World) : Calls Tryz.prog 118 #[.string s] w fun e w' => e = .returned (.bool (word s)) ∧ w' = w := by
  obtain ⟨r, hr⟩ : ∃ r, r = word s := ⟨_, rfl⟩
  rw [← hr]
  go_enter Tryz.func118, Tryz.ntmps118
  by_cases h0 : s.size < 1
  · rw [word_nil s (by omega)] at hr
    subst hr
    go_wp2
    go_ret
    exact ⟨rfl, rfl⟩
  by_cases h16 : 16 < s.size
  · rw [word_long s h16] at hr
    subst hr
    go_wp2
    go_ret
    exact ⟨rfl, rfl⟩
  have Hr := Lib.hid hr
  clear hr
  go_wp2
  go_loopw [3] (fun i wr => ∃ k : Nat, k ≤ s.size ∧ i = .int .i64 k ∧ ((0 < k → small (s.data.toList.getD 0 0) = true) ∧ ∀ j, 1 ≤ j → j < k → wordly (s.data.toList.getD j 0) = true) ∧ wr = w) (fun i _ => s.size - (intOf i).toNat)
  case atStart => exact ⟨0, Nat.zero_le _, rfl, ⟨fun h => by omega, fun j h1 h2 => by omega⟩, rfl⟩
  case round =>
    obtain ⟨k, hk, rfl, hall, rfl⟩ := hrel
    have Hall := Lib.hid hall
    clear hall
    by_cases hlt : k < s.size
    · have hbk := byte_at s k hlt
      have Hk := Lib.hid hbk
      clear hbk
      obtain ⟨b1, hb1⟩ : ∃ b, b = small s[k] := ⟨_, rfl⟩
      obtain ⟨b2, hb2⟩ : ∃ b, b = ((decide (48 ≤ s[k].toNat) && decide (s[k].toNat ≤ 57)) || decide (s[k].toNat = 45)) := ⟨_, rfl⟩
      have hwd : wordly s[k] = (b1 || b2) := by rw [hb1, hb2]; unfold wordly; rw [Bool.or_assoc]
      have Hwd := Lib.hid hwd
      have Hb1 := Lib.hid hb1
      have hb3 : b1 = (decide (97 ≤ s[k].toNat) && decide (s[k].toNat ≤ 122)) := by rw [hb1]; rfl
      clear hwd hb1
      generalize hck : s[k].toNat = c at *
      have Hb2 := Lib.hid hb2
      have Hb3 := Lib.hid hb3
      clear hb2 hb3
      go_upto_region 6 with fail
      go_cut [4] from 20 to 29 (fun s4 wx => s4 = .bool b1 ∧ wx = wr)
      case first =>
        clear Hall Hwd Hb1 Hb2 Hr
        by_cases c1 : 97 ≤ c
        · by_cases c2 : c ≤ 122
          · obtain rfl : b1 = true := by rw [Hb3.out]; simp [c1, c2]
            clear Hb3
            go_wp2
            go_meet
            exact ⟨by simp; try omega, rfl⟩
          · obtain rfl : b1 = false := by rw [Hb3.out]; simp [c2]
            clear Hb3
            go_wp2
            go_meet
            exact ⟨by simp; try omega, rfl⟩
        · obtain rfl : b1 = false := by rw [Hb3.out]; simp [c1]
          clear Hb3
          go_wp2
          go_meet
          exact ⟨rfl, rfl⟩
      case rest =>
        obtain ⟨rfl, rfl⟩ := hcut
        go_upto_region 7 with fail
        go_cut [5] from 30 to 45 (fun s5 wx => s5 = .bool b2 ∧ wx = wc)
        case first =>
          clear Hall Hwd Hb1 Hb3 Hr
          by_cases c3 : c = 45
          · obtain rfl : b2 = true := by rw [Hb2.out]; simp [c3]
            clear Hb2
            subst c3
            go_wp2
            go_meet
            exact ⟨rfl, rfl⟩
          · by_cases c1 : 48 ≤ c
            · by_cases c2 : c ≤ 57
              · obtain rfl : b2 = true := by rw [Hb2.out]; simp [c1, c2]
                clear Hb2
                go_wp2
                go_meet
                exact ⟨rfl, rfl⟩
              · obtain rfl : b2 = false := by rw [Hb2.out]; simp [c2, c3]
                clear Hb2
                have c4 : ((c : Int) == 45) = false := by rw [beq_eq_false_iff_ne]; omega
                clear c3
                go_wp2
                go_meet
                exact ⟨by simp; try omega, rfl⟩
            · obtain rfl : b2 = false := by rw [Hb2.out]; simp [c1, c3]
              clear Hb2
              have c4 : ((c : Int) == 45) = false := by rw [beq_eq_false_iff_ne]; omega
              clear c3
              go_wp2
              go_meet
              exact ⟨by simp; try omega, rfl⟩
        case rest =>
          obtain ⟨rfl, rfl⟩ := hcut
          clear Hb2 Hb3
          cases b1 with
          | true =>
            have hw : wordly (s.data.toList.getD k 0) = true := by rw [Hk.out, Hwd.out]; rfl
            have h1 : k = 0 → small (s.data.toList.getD 0 0) = true := fun e => by subst e; rw [Hk.out]; exact Hb1.out.symm
            have Hw := Lib.hid hw
            have H1 := Lib.hid h1
            clear hw h1
            go_wp2
            go_roundw
            case rel => exact ⟨k + 1, by omega, by go_num, ⟨fun _ => by
              by_cases e : k = 0
              · exact H1.out e
              · exact Hall.out.1 (by omega), fun j h4 h5 => by
              by_cases hj : j = k
              · subst hj; exact Hw.out
              · exact Hall.out.2 j h4 (by omega)⟩, trivial⟩
            case measure => simp [intOf]; omega
          | false =>
            by_cases hk0 : k = 0
            · subst hk0
              obtain rfl : r = false := by rw [Hr.out]; exact word_head s (by omega) (by rw [Hk.out]; exact Hb1.out.symm)
              clear Hr Hall Hwd Hb1
              go_wp2
              go_ret
              exact ⟨rfl, rfl⟩
            · have k1 : ((k : Int) == 0) = false := by rw [beq_eq_false_iff_ne]; omega
              cases b2 with
              | true =>
                have hw : wordly (s.data.toList.getD k 0) = true := by rw [Hk.out, Hwd.out]; rfl
                have Hw := Lib.hid hw
                clear hw
                go_wp2
                go_roundw
                case rel => exact ⟨k + 1, by omega, by go_num, ⟨fun _ => Hall.out.1 (by omega), fun j h4 h5 => by
                  by_cases hj : j = k
                  · subst hj; exact Hw.out
                  · exact Hall.out.2 j h4 (by omega)⟩, trivial⟩
                case measure => simp [intOf]; omega
              | false =>
                obtain rfl : r = false := by rw [Hr.out]; exact word_bad s k (by omega) hlt (by rw [Hk.out, Hwd.out]; rfl)
                clear Hr Hall Hwd Hb1
                go_wp2
                go_ret
                exact ⟨rfl, rfl⟩
    · have e : k = s.size := by omega
      subst e
      obtain rfl : r = true := by rw [Hr.out]; exact word_ok s (by omega) (by omega) (Hall.out.1 (by omega)) Hall.out.2
      clear Hall Hr
      go_wp2
      go_ret
      exact ⟨rfl, rfl⟩
end Go.Proofs.YtljeeehimcdmbaaGreatDoor
end

section
/- The walk of toponymref20.one. No condition. -/
namespace Go.Proofs.YtljeeehimcdmbaaGreatDoor
open Go.RowKit Go.Wd Go.Dir Go.Shelf

theorem chain_end (l : List Attr) (k n : Nat) (b : Attr) (h : b.above.size = 0) : chain l (k + 1) b n = true := by
  unfold chain; rw [decide_eq_true h]; rfl
theorem chain_none (l : List Attr) (k n : Nat) (b : Attr) (h : ¬ b.above.size = 0) (h' : at? l b.above = none) : chain l (k + 1) b n = false := by
  unfold chain; rw [decide_eq_false h, h']; rfl
theorem chain_some (l : List Attr) (k n : Nat) (b c : Attr) (h : ¬ b.above.size = 0) (h' : at? l b.above = some c) : chain l (k + 1) b n = (decide (c.syn = b.syn) && decide (n ≤ l.length) && chain l k c (n + 1)) := by
  rw [chain, decide_eq_false h, h']; rfl

theorem drawn_set (b : World) (p : Addr) (u : Value) : (b.setCell p u).drawn = b.drawn := rfl
theorem drawn_set6 {n : Nat} {b : World} (h : n ≤ b.drawn) (k : Nat) (v0 v1 v2 v3 v4 v5 : Value) :
    n ≤ ((((((b.setCell ⟨k, 0, none⟩ v0).setCell ⟨k, 1, none⟩ v1).setCell ⟨k, 2, none⟩ v2).setCell ⟨k, 3, none⟩ v3).setCell ⟨k, 4, none⟩ v4).setCell ⟨k, 5, none⟩ v5).drawn := by
  rw [drawn_set, drawn_set, drawn_set, drawn_set, drawn_set, drawn_set]; exact h
theorem size_ne {s : ByteArray} (h : ¬ s.size = 0) : ¬ s = ⟨#[]⟩ := fun e => h (by rw [e]; rfl)

set_option maxHeartbeats 1600000 in
theorem one20_any (l : List Attr) (v : Value) (a : Attr) (w : World) (hs : Sl w v 6 l.length (attrCells l)) (hl : l.length < 1000000) (ha : shortA a) :
    Calls Tryz.prog 98 #[v, a.val] w fun e w' => e = .returned (.bool (oneR l a)) ∧ Bel w w' ∧ w.drawn ≤ w'.drawn := by
  have HA := fun nm w' (h : Bel w w') => Lib.hid (at_any l v nm w' (hs.bel h) hl)
  have HF := fun n r w' => Lib.hid (fits20_any n r w')
  have HW := fun w' => Lib.hid (word18_any a.name ha.1 w')
  obtain ⟨q, cap, rfl⟩ : ∃ q cap, v = .slice q l.length cap := by obtain ⟨_, q, cap, h, _⟩ := hs; exact ⟨q, cap, h⟩
  have Hs := Lib.hid hs
  clear hs
  obtain ⟨r, hr⟩ : ∃ r, r = oneR l a := ⟨_, rfl⟩
  rw [← hr]
  unfold oneR at hr
  unfold Attr.val
  have Hr := Lib.hid hr
  clear hr
  go_enter Tryz.func98, Tryz.ntmps98
  cases h1 : has a.syn a.rule with
  | false =>
    have HF1 := HF a.syn a.rule
    rw [h1] at HF1
    obtain rfl : r = false := by rw [Hr.out, h1]; rfl
    clear HF h1 Hr HW HA
    go_wp2_with (go_at_call 117; refine (HF1 _).out.mono ?_; rintro e w' ⟨rfl, rfl⟩)
    go_ret
    exact ⟨rfl, (Bel.refl w).alloc _, Nat.le_refl _⟩
  | true =>
  have HF1 := HF a.syn a.rule
  rw [h1] at HF1
  cases h2 : word a.name with
  | false =>
    rw [h2] at HW
    obtain rfl : r = false := by rw [Hr.out, h1, h2]; rfl
    clear HF h1 Hr HA h2
    go_wp2_with (first | (go_at_call 117; refine (HF1 _).out.mono ?_; rintro e w' ⟨rfl, rfl⟩) | (go_at_call 118; refine (HW _).out.mono ?_; rintro e w' ⟨rfl, rfl⟩))
    go_ret
    exact ⟨rfl, (Bel.refl w).alloc _, Nat.le_refl _⟩
  | true =>
  rw [h2] at HW
  have hr := Hr.out
  rw [h1, h2, Bool.true_and, Bool.true_and] at hr
  have Hr := Lib.hid hr
  clear hr h1 h2 HF
  go_wp2_with (first | (go_at_call 117; refine (HF1 _).out.mono ?_; rintro e w' ⟨rfl, rfl⟩) | (go_at_call 118; refine (HW _).out.mono ?_; rintro e w' ⟨rfl, rfl⟩))
  clear HF1 HW
  go_loopw [5] (fun i wr => ∃ (n : Nat) (b : Attr), n ≤ l.length + 1 ∧ i = .int .i64 n ∧ wr.heap[w.heap.size]? = some (.cells #[.string b.name, .string b.above, .int .i64 b.syn, .int .i64 b.rule, .bool b.single, .bool b.closed] 64) ∧ Bel w wr ∧ w.drawn ≤ wr.drawn ∧ r = chain l (l.length + 3 - n) b n) (fun i _ => l.length + 2 - (intOf i).toNat)
  case atStart => exact ⟨0, a, by omega, rfl, new_at w _, (Bel.refl w).alloc _, Nat.le_refl _, Hr.out⟩
  case round =>
    obtain ⟨n, b, hn, rfl, hb0, hb, hdr, hr⟩ := hrel
    have Hdr := Lib.hid hdr
    clear hdr
    clear Hr
    obtain ⟨K, hK⟩ : ∃ K, l.length + 3 - n = K + 1 := ⟨l.length + 2 - n, by omega⟩
    have HK := Lib.hid hK
    rw [hK] at hr
    clear hK
    have y0 : wr.cell? ⟨w.heap.size, 0, none⟩ = some (.string b.name) := cellk hb0 0 _ rfl
    have y1 : wr.cell? ⟨w.heap.size, 1, none⟩ = some (.string b.above) := cellk hb0 1 _ rfl
    have y2 : wr.cell? ⟨w.heap.size, 2, none⟩ = some (.int .i64 b.syn) := cellk hb0 2 _ rfl
    have f0 := fun i => freek hb0 i
    have Hb := Lib.hid hb
    have Hb0 := Lib.hid hb0
    clear hb hb0
    by_cases h0 : b.above.size = 0
    · obtain rfl : r = true := by rw [hr, chain_end l K n b h0]
      have e : b.above = ⟨#[]⟩ := by cases hba : b.above with | mk d => congr 1; exact Array.size_eq_zero_iff.1 (by rw [hba] at h0; exact h0)
      rw [e] at y1
      clear hr HA h0
      go_wp2
      go_ret
      exact ⟨rfl, Hb.out, Hdr.out⟩
    · obtain ⟨n1, n2, n3⟩ := ne_empty (size_ne h0)
      have H0 := Lib.hid h0
      clear h0
      have HAt := HA b.above wr Hb.out
      clear HA
      obtain ⟨ab, hab⟩ : ∃ ab, ab = b.above := ⟨_, rfl⟩
      rw [← hab] at n1 n2 n3 y1 HAt
      have Hab := Lib.hid hab
      clear hab
      have Hr := Lib.hid hr
      clear hr
      go_upto_region 6 with (go_at_call 74; refine HAt.out.mono ?_; rintro e w' ⟨i, rfl, hi, hw'⟩; subst hw')
      rcases hi with ⟨rfl, hnone⟩ | ⟨k, rfl, hk, hsome⟩
      · obtain rfl : r = false := by rw [Hr.out, chain_none l K n b H0.out (by rw [← Hab.out]; exact hnone)]
        clear Hr hnone HAt Hs
        go_quiet (fail)
        go_wp2
        go_ret
        exact ⟨rfl, Hb.out.drewN _, Nat.le_trans Hdr.out (Nat.le_add_right _ _)⟩
      · have hc := chain_some l K n b (l.getD k Attr.none) H0.out (by rw [← Hab.out]; exact hsome)
        obtain ⟨bb, off, cap', e, c0, c1, c2, c3, c4, c5⟩ := attr_at (Hs.out.bel Hb.out) k hk
        cases e
        have Hc := Lib.hid hc
        clear hc hsome HAt
        generalize l.getD k Attr.none = c at *
        have i0 : (0 : Int) ≤ (k : Int) := Int.natCast_nonneg _
        have i1 : (k : Int) < (l.length : Int) := by omega
        have i2 : ¬ (k : Int) < 0 := by omega
        have H2 := Lib.hid H0.out
        by_cases hy : c.syn = b.syn
        · by_cases hn' : n ≤ l.length
          · have hr := Hr.out
            rw [Hc.out, decide_eq_true hy, decide_eq_true hn', Bool.true_and, Bool.true_and] at hr
            have Hr' := Lib.hid hr
            have j1 : (n : Int) ≤ (l.length : Int) := by omega
            rw [← hy] at y2
            clear hr Hr Hc Hs hy
            go_quiet (fail)
            have d0 : (w'.drewN nq).cell? ⟨bb, off + k * 6, none⟩ = some (.string c.name) := c0
            have d1 : (w'.drewN nq).cell? ⟨bb, off + k * 6 + 1, none⟩ = some (.string c.above) := c1
            have d2 : (w'.drewN nq).cell? ⟨bb, off + k * 6 + 2, none⟩ = some (.int .i64 c.syn) := c2
            have d3 : (w'.drewN nq).cell? ⟨bb, off + k * 6 + 3, none⟩ = some (.int .i64 c.rule) := c3
            have d4 : (w'.drewN nq).cell? ⟨bb, off + k * 6 + 4, none⟩ = some (.bool c.single) := c4
            have d5 : (w'.drewN nq).cell? ⟨bb, off + k * 6 + 5, none⟩ = some (.bool c.closed) := c5
            have hB : (w'.drewN nq).heap[w.heap.size]? = some (.cells #[.string b.name, .string b.above, .int .i64 b.syn, .int .i64 b.rule, .bool b.single, .bool b.closed] 64) := Hb0.out
            have hb2 : Bel w (w'.drewN nq) := Hb.out.drewN _
            have Hd2 := Lib.hid (show w.drawn ≤ (w'.drewN nq).drawn from Nat.le_trans Hdr.out (Nat.le_add_right _ _))
            have y0 : (w'.drewN nq).cell? ⟨w.heap.size, 0, none⟩ = some (.string b.name) := cellk hB 0 _ rfl
            have y1 : (w'.drewN nq).cell? ⟨w.heap.size, 1, none⟩ = some (.string b.above) := cellk hB 1 _ rfl
            have y2 : (w'.drewN nq).cell? ⟨w.heap.size, 2, none⟩ = some (.int .i64 b.syn) := cellk hB 2 _ rfl
            have y3 : (w'.drewN nq).cell? ⟨w.heap.size, 3, none⟩ = some (.int .i64 b.rule) := cellk hB 3 _ rfl
            have y4 : (w'.drewN nq).cell? ⟨w.heap.size, 4, none⟩ = some (.bool b.single) := cellk hB 4 _ rfl
            have y5 : (w'.drewN nq).cell? ⟨w.heap.size, 5, none⟩ = some (.bool b.closed) := cellk hB 5 _ rfl
            have f0 : ∀ i, (w'.drewN nq).frozen? ⟨w.heap.size, i, none⟩ = false := fun i => freek hB i
            clear c0 c1 c2 c3 c4 c5 Hb Hb0 Hdr
            generalize w'.drewN nq = W2 at *
            have HB := Lib.hid hB
            have Hb2 := Lib.hid hb2
            clear hB hb2
            go_wp2
            go_roundw
            case rel => exact ⟨n + 1, c, by omega, by go_num, at_set6 HB.out _ _ _ _ _ _, Hb2.out.set6 (Nat.le_refl _) _ _ _ _ _ _, drawn_set6 Hd2.out _ _ _ _ _ _ _, by
              rw [Hr'.out]
              have hk' := HK.out
              congr 1
              omega⟩
            case measure => simp [intOf]; omega
          · obtain rfl : r = false := by rw [Hr.out, Hc.out, decide_eq_false hn']; simp
            have j1 : (l.length : Int) < (n : Int) := by omega
            rw [← hy] at y2
            clear Hr Hc Hs hy hn'
            go_quiet (fail)
            go_wp2
            go_ret
            exact ⟨rfl, Hb.out.drewN _, Nat.le_trans Hdr.out (Nat.le_add_right _ _)⟩
        · obtain rfl : r = false := by rw [Hr.out, Hc.out, decide_eq_false hy]; rfl
          clear Hr Hc Hs
          have j1 : (c.syn == b.syn) = false := by rw [beq_eq_false_iff_ne]; exact hy
          go_quiet (fail)
          go_wp2
          go_ret
          exact ⟨rfl, Hb.out.drewN _, Nat.le_trans Hdr.out (Nat.le_add_right _ _)⟩
end Go.Proofs.YtljeeehimcdmbaaGreatDoor
end

section
/- What toponymref20.Check says of types: checkR. No condition. -/
namespace Go.Proofs.YtljeeehimcdmbaaGreatDoor
open Go.RowKit Go.Wd Go.Dir Go.Shelf
open Go.Op (bytesLess)

def stepR (l : List Attr) (j : Nat) : Bool := oneR l (l.getD j Attr.none) && (decide (j = 0) || bytesLess (l.getD (j - 1) Attr.none).name.toList (l.getD j Attr.none).name.toList)
theorem checkR_of (l : List Attr) (h0 : l.length ≤ 24) (h : ∀ j, j < l.length → stepR l j = true) : checkR l = true := by
  unfold checkR
  rw [decide_eq_true h0, (rises_iff l).2 (rises_of l fun i hi => by
    have := h (i + 1) hi
    unfold stepR at this
    simp only [Bool.and_eq_true, Bool.or_eq_true, decide_eq_true_eq] at this
    rcases this.2 with h | h
    · omega
    · exact h)]
  rw [Bool.true_and, Bool.true_and, List.all_eq_true]
  intro x hx
  obtain ⟨i, hi, rfl⟩ := List.getElem_of_mem hx
  have := h i hi
  unfold stepR at this
  rw [List.getD_eq_getElem?_getD, List.getElem?_eq_getElem hi] at this
  simp only [Bool.and_eq_true] at this
  exact this.1
theorem checkR_no (l : List Attr) (j : Nat) (hj : j < l.length) (h : stepR l j = false) : checkR l = false := by
  cases hc : checkR l with
  | false => rfl
  | true =>
    unfold checkR at hc
    simp only [Bool.and_eq_true, decide_eq_true_eq, List.all_eq_true] at hc
    have h1 := hc.2 _ (getD_mem l j Attr.none hj)
    have hr := (rises_iff l).1 hc.1.2
    unfold stepR at h
    rw [h1, Bool.true_and] at h
    by_cases h0 : j = 0
    · rw [decide_eq_true h0] at h; cases h
    · rw [hr (j - 1) j (by omega) hj] at h
      rw [Bool.or_true] at h; cases h
theorem checkR_long (l : List Attr) (h0 : ¬ l.length ≤ 24) : checkR l = false := by unfold checkR; rw [decide_eq_false h0]; rfl

end Go.Proofs.YtljeeehimcdmbaaGreatDoor
end

section
/- The walk of toponymref20.Check. No condition. -/
namespace Go.Proofs.YtljeeehimcdmbaaGreatDoor
open Go.RowKit Go.Wd Go.Dir Go.Shelf Go.Sort
open Go.Op (bytesLess)

theorem grow_bel (w : World) (n : Nat) (os : Array Obj) : Bel w (grow (w.drewN n) os) := by
  refine ⟨rfl, rfl, rfl, ?_, fun k hk => ?_⟩
  · show w.heap.size ≤ (w.heap ++ os).size
    rw [Array.size_append]; omega
  · show (w.heap ++ os)[k]? = w.heap[k]?
    rw [Array.getElem?_append_left hk]
theorem bel_grow {a b : World} (h : Bel a b) (hd : a.drawn ≤ b.drawn) : ∃ q os, b = grow (a.drewN q) os := by
  refine ⟨b.drawn - a.drawn, b.heap.extract a.heap.size b.heap.size, ?_⟩
  have e1 : b.heap = a.heap ++ b.heap.extract a.heap.size b.heap.size := by
    have hs := h.size
    have : b.heap.extract 0 a.heap.size = a.heap := by
      apply Array.ext_getElem?
      intro i
      by_cases hi : i < a.heap.size
      · rw [Array.getElem?_extract_of_lt (by omega), ← h.block i hi, Array.getElem?_eq_getElem (by omega)]
        simp only [Nat.zero_add]
      · rw [Array.getElem?_eq_none (by simp; omega), Array.getElem?_eq_none (by omega)]
    calc b.heap = b.heap.extract 0 a.heap.size ++ b.heap.extract a.heap.size b.heap.size := by
          rw [Array.extract_append_extract]; simp [Nat.max_eq_right hs]
      _ = _ := by rw [this]
  have e2 : b.drawn = a.drawn + (b.drawn - a.drawn) := by omega
  obtain ⟨h1, h2, h3, h4, h5⟩ := b
  obtain ⟨g1, g2, g3, g4, g5⟩ := a
  have a1 := h.os
  have a2 := h.tape
  have a3 := h.output
  simp only at a1 a2 a3 e1 e2
  subst a1 a2 a3
  show World.mk h1 _ h3 _ _ = World.mk (g1 ++ _) _ (g3 + _) _ _
  rw [← e1, ← e2]
  rfl
theorem one_grown (l : List Attr) (v : Value) (a : Attr) (w : World) (hs : Sl w v 6 l.length (attrCells l)) (hl : l.length < 1000000) (ha : shortA a) (n : Nat) (os : Array Obj) :
    Calls Tryz.prog 98 #[v, a.val] (grow (w.drewN n) os) fun e w' => e = .returned (.bool (oneR l a)) ∧ ∃ p : GrownBy, w' = grow (w.drewN p.n) p.os :=
  Calls.grown_of ((one20_any l v a _ (hs.bel (grow_bel w n os)) hl ha).mono fun _ _ ⟨he, hb, hd⟩ => ⟨he, bel_grow hb hd⟩)
theorem attr_ld {w : World} {b off : Nat} {c : Attr} (c0 : w.cell? ⟨b, off, none⟩ = some (.string c.name)) (c1 : w.cell? ⟨b, off + 1, none⟩ = some (.string c.above)) (c2 : w.cell? ⟨b, off + 2, none⟩ = some (.int .i64 c.syn))
    (c3 : w.cell? ⟨b, off + 3, none⟩ = some (.int .i64 c.rule)) (c4 : w.cell? ⟨b, off + 4, none⟩ = some (.bool c.single)) (c5 : w.cell? ⟨b, off + 5, none⟩ = some (.bool c.closed)) (P : Program) (n : Nat) (os : Array Obj) :
    Sem.run P (loadCellsFrom ⟨b, off, none⟩ 0 6 #[]) (grow (w.drewN n) os) = .ok #[.string c.name, .string c.above, .int .i64 c.syn, .int .i64 c.rule, .bool c.single, .bool c.closed] (grow (w.drewN n) os) := by
  have hb : b < w.heap.size := World.block_lt_of_cell? w _ c0
  refine run_loadCellsFrom_list P _ _ [.string c.name, .string c.above, .int .i64 c.syn, .int .i64 c.rule, .bool c.single, .bool c.closed] 6 rfl ?_
  intro j v hv
  have e : (⟨b, off, none⟩ : Addr).add j = ⟨b, off + j, none⟩ := by unfold Addr.add; split <;> simp_all
  rw [e]
  match j, hv with
  | 0, hv => cases hv; exact cell_grown hb c0 n os
  | 1, hv => cases hv; exact cell_grown hb c1 n os
  | 2, hv => cases hv; exact cell_grown hb c2 n os
  | 3, hv => cases hv; exact cell_grown hb c3 n os
  | 4, hv => cases hv; exact cell_grown hb c4 n os
  | 5, hv => cases hv; exact cell_grown hb c5 n os
  | j + 6, hv => simp at hv

set_option maxRecDepth 100000 in
set_option maxHeartbeats 1000000 in
theorem check20_any (l : List Attr) (v : Value) (w : World) (hs : Sl w v 6 l.length (attrCells l)) (hl : l.length < 1000000) (ha : ∀ a ∈ l, shortA a) :
    Calls Tryz.prog 73 #[v] w fun e w' => e = .returned (.int .i64 (if checkR l then 0 else 190)) ∧ Bel w w' := by
  have hm : Tryz.prog.follows .mixedOrders = true := by kernel_rfl
  have HO := fun (a : Attr) (h : a ∈ l) w' (hb : Bel w w') n os => one_grown l v a w' (hs.bel hb) hl (ha a h) n os
  obtain ⟨q, cap, rfl⟩ : ∃ q cap, v = .slice q l.length cap := by obtain ⟨_, q, cap, h, _⟩ := hs; exact ⟨q, cap, h⟩
  have Hs := Lib.hid hs
  have HO := Lib.hid HO
  clear hs
  obtain ⟨r, hr⟩ : ∃ r : Int, r = if checkR l then 0 else 190 := ⟨_, rfl⟩
  rw [← hr]
  have Hr := Lib.hid hr
  clear hr ha
  go_enter Tryz.func73, Tryz.ntmps73
  by_cases h0 : 24 < (l.length : Int)
  case pos =>
    obtain rfl : r = 190 := by rw [Hr.out, checkR_long l (by omega)]; rfl
    clear HO Hs Hr
    generalize l.length = n at *
    go_wp2
    go_ret
    exact ⟨rfl, Bel.refl _⟩
  go_wp2
  go_loopw [3] (fun i wr => ∃ k : Nat, k ≤ l.length ∧ i = .int .i64 k ∧ (∀ j, j < k → stepR l j = true) ∧ Bel w wr) (fun i _ => l.length - (intOf i).toNat)
  case atStart => exact ⟨0, Nat.zero_le _, rfl, fun j h => by omega, Bel.refl _⟩
  case round =>
    obtain ⟨k, hk, rfl, hall, hb⟩ := hrel
    have Hall := Lib.hid hall
    clear hall
    by_cases hlt : k < l.length
    · have HN := Lib.hid fun h => checkR_no l k hlt h
      obtain ⟨bb, off, cap', e, c0, c1, c2, c3, c4, c5⟩ := attr_at (Hs.out.bel hb) k hlt
      cases e
      have H1 := HO.out (l.getD k Attr.none) (getD_mem l k Attr.none hlt) wr hb
      have hp : 0 < k → wr.cell? ⟨bb, off + (k - 1) * 6, none⟩ = some (.string (l.getD (k - 1) Attr.none).name) := fun h => by
        obtain ⟨b2, off2, cap2, e2, d0, _⟩ := attr_at (Hs.out.bel hb) (k - 1) (by omega)
        cases e2
        exact d0
      have hbb : bb < wr.heap.size := World.block_lt_of_cell? wr _ c0
      have k0 := cell_grown hbb c0
      have k1 := cell_grown (a := ⟨bb, off + k * 6 + 1, none⟩) hbb c1
      have k2 := cell_grown (a := ⟨bb, off + k * 6 + 2, none⟩) hbb c2
      have k3 := cell_grown (a := ⟨bb, off + k * 6 + 3, none⟩) hbb c3
      have k4 := cell_grown (a := ⟨bb, off + k * 6 + 4, none⟩) hbb c4
      have k5 := cell_grown (a := ⟨bb, off + k * 6 + 5, none⟩) hbb c5
      have kp := fun h => cell_grown (a := ⟨bb, off + (k - 1) * 6, none⟩) hbb (hp h)
      unfold Attr.val at H1
      obtain ⟨st, hst⟩ : ∃ st, st = stepR l k := ⟨_, rfl⟩
      rw [← hst] at HN
      have Hst := Lib.hid hst
      have Hst2 := Lib.hid (show st = true → stepR l k = true from fun h => by rw [← hst]; exact h)
      clear hst c0 c1 c2 c3 c4 c5 hp
      unfold stepR at Hst
      obtain ⟨c, hc⟩ : ∃ c, c = l.getD k Attr.none := ⟨_, rfl⟩
      rw [← hc] at k0 k1 k2 k3 k4 k5 H1 Hst
      clear hc
      have i0 : (0 : Int) ≤ (k : Int) := Int.natCast_nonneg _
      have i1 : (k : Int) < (l.length : Int) := by omega
      have Hb := Lib.hid hb
      clear hb HO Hs
      go_upto_region 6 with fail
      cases ho : oneR l c with
      | false =>
        rw [ho] at H1
        obtain rfl : st = false := by rw [Hst.out, ho]; rfl
        obtain rfl : r = 190 := by rw [Hr.out, HN.out rfl]; rfl
        clear HN Hst Hall ho Hr kp
        refine wp_region_quiet_grown (by assumption) (by kernel_rfl) ?_
        repeat (go_big_quiet_step (exact H1 _ _))
        refine wpQuiet_nil ?_
        intro _ hw'
        obtain ⟨⟨nq, osq⟩, hw''⟩ := hw'
        subst hw''
        have HG := Lib.hid (Hb.out.trans (grow_bel wr nq osq))
        clear k0 k1 k2 k3 k4 k5 H1
        generalize grow (wr.drewN nq) osq = W2 at HG ⊢
        clear nq osq Hb
        go_wp2
        go_ret
        exact ⟨rfl, HG.out⟩
      | true =>
        rw [ho] at H1
        by_cases h00 : 0 < (k : Int)
        · obtain ⟨j, rfl⟩ : ∃ j, k = j + 1 := ⟨k - 1, by omega⟩
          have kp := kp (by omega)
          rw [Nat.add_sub_cancel] at kp Hst
          have g1 : decide (0 < ((j + 1 : Nat) : Int)) = true := decide_eq_true h00
          have ej : ((j + 1 : Nat) : Int) - 1 = (j : Int) := by omega
          have j0 : (0 : Int) ≤ (j : Int) := Int.natCast_nonneg _
          have j1 : (j : Int) < (l.length : Int) := by omega
          generalize l.getD j Attr.none = p at *
          refine wp_region_quiet_grown (by assumption) (by kernel_rfl) ?_
          repeat (go_big_quiet_step (exact H1 _ _))
          refine wpQuiet_nil ?_
          intro _ hw'
          obtain ⟨⟨nq, osq⟩, hw''⟩ := hw'
          subst hw''
          have HG := Lib.hid (Hb.out.trans (grow_bel wr nq osq))
          clear k0 k1 k2 k3 k4 k5 H1 kp
          generalize grow (wr.drewN nq) osq = W2 at HG ⊢
          clear nq osq Hb
          have hst := Hst.out
          rw [ho, decide_eq_false (show ¬ j + 1 = 0 by omega), Bool.false_or, Bool.true_and] at hst
          clear Hst ho
          cases hb : bytesLess p.name.toList c.name.toList with
          | false =>
            rw [hb] at hst
            subst hst
            obtain rfl : r = 190 := by rw [Hr.out, HN.out rfl]; rfl
            clear HN Hr Hall Hst2
            go_wp2
            go_ret
            exact ⟨rfl, HG.out⟩
          | true =>
            rw [hb] at hst
            subst hst
            clear HN
            go_wp2
            go_roundw
            case rel => exact ⟨j + 1 + 1, by omega, by go_num, fun i hi => by
              by_cases e : i = j + 1
              · subst e; exact Hst2.out rfl
              · exact Hall.out i (by omega), HG.out⟩
            case measure => simp [intOf]; omega
        · obtain rfl : st = true := by rw [Hst.out, ho, decide_eq_true (show k = 0 by omega)]; rfl
          clear HN ho kp
          have g0 : decide (0 < (k : Int)) = false := decide_eq_false h00
          have g0' : decide (0 < k) = false := decide_eq_false (by omega)
          have g0'' : (0 < k) = False := eq_false (by omega)
          have i00 : (k : Int) ≤ 0 := by omega
          refine wp_region_quiet_grown (by assumption) (by kernel_rfl) ?_
          repeat (go_big_quiet_step (exact H1 _ _))
          refine wpQuiet_nil ?_
          intro _ hw'
          obtain ⟨⟨nq, osq⟩, hw''⟩ := hw'
          subst hw''
          have HG := Lib.hid (Hb.out.trans (grow_bel wr nq osq))
          clear k0 k1 k2 k3 k4 k5 H1
          generalize grow (wr.drewN nq) osq = W2 at HG ⊢
          clear nq osq Hb
          go_wp2
          go_roundw
          case rel => exact ⟨k + 1, by omega, by go_num, fun j hj => by
            by_cases e : j = k
            · subst e; exact Hst2.out rfl
            · exact Hall.out j (by omega), HG.out⟩
          case measure => simp [intOf]; omega
    · have e : k = l.length := by omega
      subst e
      obtain rfl : r = 0 := by rw [Hr.out, checkR_of l (by omega) Hall.out]; rfl
      clear Hall HO Hs Hr
      go_wp2
      go_ret
      exact ⟨rfl, hb⟩
end Go.Proofs.YtljeeehimcdmbaaGreatDoor
end
