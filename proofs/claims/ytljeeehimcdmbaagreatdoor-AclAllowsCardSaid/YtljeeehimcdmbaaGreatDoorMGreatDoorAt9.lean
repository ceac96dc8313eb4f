/- The walks of slices.Index, slices.Contains, attrs.Line, attrs.Is, acl.one. No condition. -/
import Derived.Test.YtljeeehimcdmbaaGreatDoorMGreatDoorAt8
namespace Go.Proofs.YtljeeehimcdmbaaGreatDoor
open Go.RowKit Go.Wd Go.Dir Go.Shelf

/-- A text among texts: what lies there. -/
theorem str_at {w : World} {v : Value} {l : List ByteArray} (h : Sl w v 1 l.length (strCells l)) (i : Nat) (hi : i < l.length) :
    ∃ b off cap, v = .slice (some ⟨b, off, none⟩) l.length cap ∧ w.cell? ⟨b, off + i, none⟩ = some (.string (l.getD i ⟨#[]⟩)) := by
  obtain ⟨hl, a, cap, rfl, h1, h2, hc⟩ := h
  obtain ⟨b, off, rfl, hb⟩ := hc i (by omega)
  refine ⟨b, off, cap, rfl, ?_⟩
  rw [hb]
  simp [strCells, List.getD_eq_getElem?_getD, List.getElem?_eq_getElem hi]

theorem mem_take (l : List ByteArray) (s : ByteArray) (k : Nat) (hk : k < l.length) : s ∈ l.take (k + 1) ↔ s ∈ l.take k ∨ s = l.getD k ⟨#[]⟩ := by
  rw [List.take_succ_eq_append_getElem hk, List.mem_append, List.mem_singleton, List.getD_eq_getElem?_getD, List.getElem?_eq_getElem hk]
  rfl

set_option maxHeartbeats 800000 in
theorem index_any (l : List ByteArray) (v : Value) (s : ByteArray) (w : World) (hs : Sl w v 1 l.length (strCells l)) (hl : l.length < 1000000) :
    Calls Tryz.prog 53 #[v, .string s] w fun e w' => ∃ i : Int, e = .returned (.int .i64 i) ∧ (0 ≤ i ↔ s ∈ l) ∧ Bel w w' := by
  obtain ⟨q, cap, rfl⟩ : ∃ q cap, v = .slice q l.length cap := by obtain ⟨_, q, cap, h, _⟩ := hs; exact ⟨q, cap, h⟩
  go_enter Tryz.func53, Tryz.ntmps53
  go_wp2
  go_loopw [8] (fun i wr => ∃ k : Nat, k ≤ l.length ∧ i = .int .i64 k ∧ ¬ s ∈ l.take k ∧ Bel w wr) (fun i _ => l.length - (intOf i).toNat)
  case atStart => exact ⟨0, Nat.zero_le _, rfl, by simp, Bel.refl _⟩
  case round =>
    obtain ⟨k, hk, rfl, hall, hb⟩ := hrel
    by_cases hlt : k < l.length
    · obtain ⟨b, off, cap', e, hcell⟩ := str_at (hs.bel hb) k hlt
      cases e
      have HS := Lib.hid (mem_take l s k hlt)
      have Hall := Lib.hid hall
      have Hin : Hid (l.getD k ⟨#[]⟩ ∈ l) := by
        rw [List.getD_eq_getElem?_getD, List.getElem?_eq_getElem hlt]; exact List.getElem_mem _
      have Hb := Lib.hid hb
      clear hall hs hb
      generalize l.getD k ⟨#[]⟩ = x at *
      by_cases hx : x = s
      · subst hx
        have e0 : (x.toList == x.toList) = true := by simp
        go_wp2
        go_ret
        exact ⟨k, rfl, ⟨fun _ => Hin.out, fun _ => by omega⟩, Hb.out⟩
      · have e0 : (s.toList == x.toList) = false := by
          cases h : (s.toList == x.toList) with
          | false => rfl
          | true => exact absurd (toList_inj (beq_iff_eq.1 h)).symm hx
        have e1 : ¬ s.toList = x.toList := fun h => hx (toList_inj h).symm
        have Hx := Lib.hid hx
        clear hx
        go_wp2
        go_roundw
        case rel => exact ⟨k + 1, by omega, by go_num, fun h => ((HS.out).1 h).elim Hall.out (fun e => Hx.out e.symm), Hb.out⟩
        case measure => simp [intOf]; omega
    · have e : k = l.length := by omega
      subst e
      rw [List.take_length] at hall
      have Hall := Lib.hid hall
      have Hb := Lib.hid hb
      clear hs hall hb
      go_wp2
      go_ret
      exact ⟨-1, rfl, ⟨fun h => by omega, fun h => absurd h Hall.out⟩, Hb.out⟩

theorem contains_any (l : List ByteArray) (v : Value) (s : ByteArray) (w : World) (hs : Sl w v 1 l.length (strCells l)) (hl : l.length < 1000000) :
    Calls Tryz.prog 37 #[v, .string s] w fun e w' => e = .returned (.bool (l.any fun x => decide (x = s))) ∧ Bel w w' := by
  have H := fun w' (h : Bel w w') => Lib.hid (index_any l v s w' (hs.bel h) hl)
  obtain ⟨q, cap, rfl⟩ : ∃ q cap, v = .slice q l.length cap := by obtain ⟨_, q, cap, h, _⟩ := hs; exact ⟨q, cap, h⟩
  clear hs
  have hrr : Hid (s ∈ l ↔ (l.any fun x => decide (x = s)) = true) := by show _ ↔ _; simp
  generalize (l.any fun x => decide (x = s)) = r at *
  go_enter Tryz.func37, Tryz.ntmps37
  go_wp2_with fail
  refine (H _ (Bel.refl _)).out.mono ?_
  rintro e w' ⟨i, rfl, hi, hb⟩
  have Hi := Lib.hid hi
  clear hi
  by_cases h0 : 0 ≤ i
  · have : r = true := hrr.out.1 (Hi.out.1 h0)
    subst this
    go_wp2
    go_ret
    exact ⟨rfl, hb⟩
  · have : r = false := by
      cases hr : r with
      | false => rfl
      | true => exact absurd (Hi.out.2 (hrr.out.2 hr)) h0
    subst this
    have d0 : decide (0 ≤ i) = false := decide_eq_false h0
    go_wp2
    go_ret
    exact ⟨rfl, hb⟩

theorem Line_any (l : List Attr) (v : Value) (name : ByteArray) (w : World) (hs : Sl w v 6 l.length (attrCells l)) (hl : l.length < 1000000) (ha : ∀ a ∈ l, shortA a) :
    Calls Tryz.prog 38 #[v, .string name] w fun e W' => ∃ u, e = .returned u ∧ Sl W' u 1 (line l name).length (strCells (line l name)) ∧ Bel w W' := by
  have HC := fun w' (h : Bel w w') => Lib.hid (check_any l v w' (hs.bel h) hl ha)
  have HL := fun w' (h : Bel w w') => Lib.hid (line_any l v name w' (hs.bel h) hl)
  obtain ⟨q, cap, rfl⟩ : ∃ q cap, v = .slice q l.length cap := by obtain ⟨_, q, cap, h, _⟩ := hs; exact ⟨q, cap, h⟩
  clear hs ha
  have hr : line l name = if checkA l then (up l (l.length + 1) name).map Attr.name else [] := rfl
  have Hr := Lib.hid hr
  clear hr
  unfold checkN at HC
  generalize line l name = r at *
  cases hc : checkA l with
  | false =>
    rw [hc] at HC Hr
    simp only [Bool.false_eq_true, if_false] at HC Hr
    obtain rfl : r = [] := Hr.out
    go_enter Tryz.func38, Tryz.ntmps38
    go_wp2_with fail
    refine (HC _ (Bel.refl _)).out.mono ?_
    rintro e w' ⟨rfl, hb⟩
    go_wp2
    go_ret
    exact ⟨_, rfl, Sl.nil _ _, hb⟩
  | true =>
    rw [hc] at HC Hr
    simp only [if_true] at HC Hr
    go_enter Tryz.func38, Tryz.ntmps38
    go_wp2_with fail
    refine (HC _ (Bel.refl _)).out.mono ?_
    rintro e w' ⟨rfl, hb⟩
    go_wp2_with fail
    refine (HL _ hb).out.mono ?_
    rintro e w2 ⟨u, rfl, hu, hb2⟩
    obtain ⟨q', cap', rfl⟩ : ∃ q' cap', u = .slice q' (up l (l.length + 1) name).length cap' := by obtain ⟨_, q, cap, h, _⟩ := hu; exact ⟨q, cap, h⟩
    have Hu := Lib.hid hu
    clear hu
    go_wp2
    go_ret
    refine ⟨_, rfl, ?_, hb.trans hb2⟩
    have := Hu.out
    rw [Hr.out, List.length_map]
    exact this

theorem up_len' (l : List Attr) (k : Nat) (nm : ByteArray) : (up l k nm).length ≤ k := up_len l k nm
theorem line_len (l : List Attr) (name : ByteArray) : (line l name).length ≤ l.length + 1 := by
  unfold line
  split
  · rw [List.length_map]; exact up_len _ _ _
  · simp

theorem is_any (l : List Attr) (v : Value) (name above : ByteArray) (w : World) (hs : Sl w v 6 l.length (attrCells l)) (hl : l.length < 100000) (ha : ∀ a ∈ l, shortA a) :
    Calls Tryz.prog 24 #[v, .string name, .string above] w fun e w' => e = .returned (.bool (isA l name above)) ∧ Bel w w' := by
  have HL := fun w' (h : Bel w w') => Lib.hid (Line_any l v name w' (hs.bel h) (by omega) ha)
  have hlen := line_len l name
  have HI := fun u w' h => Lib.hid (contains_any (line l name) u above w' h (by omega))
  obtain ⟨q, cap, rfl⟩ : ∃ q cap, v = .slice q l.length cap := by obtain ⟨_, q, cap, h, _⟩ := hs; exact ⟨q, cap, h⟩
  clear hs ha
  unfold isA
  generalize line l name = r at *
  go_enter Tryz.func24, Tryz.ntmps24
  go_wp2_with fail
  refine (HL _ (Bel.refl _)).out.mono ?_
  rintro e w' ⟨u, rfl, hu, hb⟩
  obtain ⟨q', cap', rfl⟩ : ∃ q' cap', u = .slice q' r.length cap' := by obtain ⟨_, q, cap, h, _⟩ := hu; exact ⟨q, cap, h⟩
  go_wp2_with fail
  refine (HI _ _ hu).out.mono ?_
  rintro e w2 ⟨rfl, hb2⟩
  go_wp2
  go_ret
  exact ⟨rfl, hb.trans hb2⟩

theorem one_any (k : Int) (w : World) : Calls Tryz.prog 21 #[.int .i64 k] w fun e w' => e = .returned (.bool (oneKind k)) ∧ w' = w := by
  go_enter Tryz.func21, Tryz.ntmps21
  unfold oneKind
  by_cases h1 : k = 1
  · subst h1; go_wp2; go_ret; exact ⟨rfl, rfl⟩
  by_cases h2 : k = 2
  · subst h2; go_wp2; go_ret; exact ⟨rfl, rfl⟩
  by_cases h4 : k = 4
  · subst h4; go_wp2; go_ret; exact ⟨rfl, rfl⟩
  by_cases h8 : k = 8
  · subst h8; go_wp2; go_ret; exact ⟨rfl, rfl⟩
  have e1 : (k == 1) = false := beq_eq_false_iff_ne.2 h1
  have e2 : (k == 2) = false := beq_eq_false_iff_ne.2 h2
  have e4 : (k == 4) = false := beq_eq_false_iff_ne.2 h4
  have e8 : (k == 8) = false := beq_eq_false_iff_ne.2 h8
  have r : decide (k = 1 ∨ k = 2 ∨ k = 4 ∨ k = 8) = false := decide_eq_false (by omega)
  rw [r]
  clear h1 h2 h4 h8
  go_wp2
  go_ret
  exact ⟨rfl, rfl⟩
end Go.Proofs.YtljeeehimcdmbaaGreatDoor
