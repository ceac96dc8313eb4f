/- AclViews: parts of its proof. No condition. -/
import Derived.Test.YtljeeehimcdmbaaGreatDoorMGreatDoorBase
import Derived.Test.YtljeeehimcdmbaaGreatDoorMGreatDoorDir
import Derived.Test.YtljeeehimcdmbaaGreatDoorMGreatDoorShelfA
section
/- The walks of attrs.find and what it calls. No condition. -/
namespace Go.Proofs.YtljeeehimcdmbaaGreatDoor
open Go.RowKit Go.Wd Go.Dir

theorem cmp_any (a : Attr) (s : ByteArray) (w : World) :
    Calls Tryz.prog 85 #[a.val, .string s] w fun e w' => e = .returned (.int .i64 (Lib.compareBytes a.name.data.toList s.data.toList)) ∧ Bel w w' := by
  unfold Attr.val
  go_enter Tryz.func85, Tryz.ntmps85
  go_wp2_with fail
  refine (Tryz.strings_Compare _ _ _).mono ?_
  rintro e w' ⟨rfl, rfl⟩
  go_wp2
  go_ret
  exact ⟨rfl, (Bel.refl _).alloc _⟩

theorem compare_less : ∀ a b : List UInt8, decide (Lib.compareBytes a b < 0) = Op.bytesLess a b
  | [], [] => by simp [Lib.compareBytes, Op.bytesLess]
  | [], _ :: _ => by simp [Lib.compareBytes, Op.bytesLess]
  | _ :: _, [] => by simp [Lib.compareBytes, Op.bytesLess]
  | x :: a, y :: b => by
    unfold Lib.compareBytes Op.bytesLess
    by_cases h1 : x < y
    · simp [h1]
    · by_cases h2 : y < x
      · have : ¬ x = y := fun e => by subst e; exact h1 h2
        simp [h1, h2, this]
      · have : x = y := by
          rw [UInt8.lt_iff_toNat_lt] at h1 h2
          exact UInt8.toNat_inj.1 (by omega)
        subst this
        simp [h1]
        have := compare_less a b
        rw [decide_eq_decide.2 Iff.rfl] at this
        simpa using this
theorem compare_eq : ∀ a b : List UInt8, (Lib.compareBytes a b == 0) = decide (a = b)
  | [], [] => by simp [Lib.compareBytes]
  | [], _ :: _ => by simp [Lib.compareBytes]
  | _ :: _, [] => by simp [Lib.compareBytes]
  | x :: a, y :: b => by
    unfold Lib.compareBytes
    by_cases h1 : x < y
    · have : ¬ x = y := fun e => by subst e; rw [UInt8.lt_iff_toNat_lt] at h1; omega
      simp [h1, this]
    · by_cases h2 : y < x
      · have : ¬ x = y := fun e => by subst e; exact h1 h2
        simp [h1, h2, this]
      · have : x = y := by
          rw [UInt8.lt_iff_toNat_lt] at h1 h2
          exact UInt8.toNat_inj.1 (by omega)
        subst this
        have := compare_eq a b
        simp [h1, this]

/-- Element i of a slice of types. -/
theorem attr_at {w : World} {v : Value} {l : List Attr} (h : Sl w v 6 l.length (attrCells l)) (i : Nat) (hi : i < l.length) :
    ∃ b off cap, v = .slice (some ⟨b, off, none⟩) l.length cap ∧ w.cell? ⟨b, off + i * 6, none⟩ = some (.string (l.getD i Attr.none).name) ∧
      w.cell? ⟨b, off + i * 6 + 1, none⟩ = some (.string (l.getD i Attr.none).above) ∧ w.cell? ⟨b, off + i * 6 + 2, none⟩ = some (.int .i64 (l.getD i Attr.none).syn) ∧
      w.cell? ⟨b, off + i * 6 + 3, none⟩ = some (.int .i64 (l.getD i Attr.none).rule) ∧ w.cell? ⟨b, off + i * 6 + 4, none⟩ = some (.bool (l.getD i Attr.none).single) ∧
      w.cell? ⟨b, off + i * 6 + 5, none⟩ = some (.bool (l.getD i Attr.none).closed) := by
  obtain ⟨hl, a, cap, rfl, h1, h2, hc⟩ := h
  obtain ⟨b, off, rfl, _⟩ := hc (i * 6) (by omega)
  have e : ∀ (l : List Attr) (i k : Nat), i < l.length → k < 6 → (attrCells l).getD (i * 6 + k) undef = (l.getD i Attr.none).cells.getD k undef := by
    intro l
    induction l with
    | nil => intro i k hi; simp at hi
    | cons x r ih =>
      intro i k hi hk
      cases i with
      | zero =>
        show (x.cells ++ attrCells r).getD _ _ = x.cells.getD k undef
        rw [List.getD_eq_getElem?_getD, List.getD_eq_getElem?_getD, List.getElem?_append_left (by simp [Attr.cells]; omega)]
        simp
      | succ i =>
        show (x.cells ++ attrCells r).getD _ _ = (r.getD i Attr.none).cells.getD k undef
        rw [List.getD_eq_getElem?_getD, List.getElem?_append_right (by simp [Attr.cells]; omega), ← List.getD_eq_getElem?_getD]
        have : (i + 1) * 6 + k - x.cells.length = i * 6 + k := by simp [Attr.cells]; omega
        rw [this]
        exact ih i k (by simpa using hi) hk
  have g : ∀ k, k < 6 → w.cell? ⟨b, off + (i * 6 + k), none⟩ = some ((l.getD i Attr.none).cells.getD k undef) := by
    intro k hk
    obtain ⟨b', off', e1, e2⟩ := hc (i * 6 + k) (by omega)
    cases e1
    rw [e2, e l i k hi hk]
  simp only [← Nat.add_assoc] at g
  exact ⟨b, off, cap, rfl, g 0 (by omega), g 1 (by omega), g 2 (by omega), g 3 (by omega), g 4 (by omega), g 5 (by omega)⟩

/-- The test of the search. -/
def below (l : List Attr) (name : ByteArray) (h : Nat) : Bool := Op.bytesLess (l.getD h Attr.none).name.toList name.toList

theorem search_any (l : List Attr) (v : Value) (name : ByteArray) (w : World) (hs : Sl w v 6 l.length (attrCells l)) (hn : l.length < 1000000) :
    Calls Tryz.prog 77 #[v, .string name, .func (.func 85) #[] #[]] w fun e w' =>
      e = .returned (.tuple #[.int .i64 (place l name), .bool (decide (place l name < l.length) && decide ((l.getD (place l name) Attr.none).name = name))]) ∧ Bel w w' := by
  go_enter Tryz.func77, Tryz.ntmps77
  have hv : ∃ a cap, v = .slice a l.length cap := by obtain ⟨_, a, cap, h, _⟩ := hs; exact ⟨a, cap, h⟩
  obtain ⟨a, cap, rfl⟩ := hv
  go_wp2
  go_loopw [9, 10] (fun i j wr => ∃ p q : Nat, i = .int .i64 p ∧ j = .int .i64 q ∧ p ≤ q ∧ q ≤ l.length ∧ place l name = bs (below l name) l.length p q ∧ Bel w wr)
    (fun i j _ => (intOf j - intOf i).toNat)
  case atStart => exact ⟨0, l.length, rfl, rfl, Nat.zero_le _, Nat.le_refl _, rfl, Bel.refl _⟩
  case round =>
    obtain ⟨p, q, rfl, rfl, h1, h2, h3, hb⟩ := hrel
    by_cases hlt : p < q
    · have hm : (p + q) / 2 < l.length := by omega
      obtain ⟨b, off, cap', e, c0, c1, c2, c3, c4, c5⟩ := attr_at (hs.bel hb) ((p + q) / 2) hm
      cases e
      have hbelow : below l name ((p + q) / 2) = Op.bytesLess (l.getD ((p + q) / 2) Attr.none).name.toList name.toList := rfl
      generalize l.getD ((p + q) / 2) Attr.none = A at c0 c1 c2 c3 c4 c5 hbelow
      rw [Lib.toList_data, Lib.toList_data, ← compare_less] at hbelow
      have d1 : decide (p < q) = true := decide_eq_true hlt
      have Hbl := Lib.hid hbelow
      clear hbelow
      have H3 := Lib.hid h3
      have Hb := Lib.hid hb
      clear h3 hb
      go_wp2_with fail
      refine (cmp_any _ _ _).mono ?_
      rintro e w' ⟨rfl, hb'⟩
      generalize Lib.compareBytes A.name.data.toList name.data.toList = c at *
      by_cases hc : c < 0
      · have d2 : decide (c < 0) = true := decide_eq_true hc
        go_wp2
        go_roundw
        case rel => exact ⟨(p + q) / 2 + 1, q, by simp, rfl, by omega, h2, by rw [H3.out]; exact bs_yes _ _ _ _ hlt h2 (by rw [Hbl.out]; exact d2), Hb.out.trans hb'⟩
        case measure => simp [intOf]; omega
      · have d2 : decide (c < 0) = false := decide_eq_false hc
        go_wp2
        go_roundw
        case rel => exact ⟨p, (p + q) / 2, rfl, by simp, by omega, by omega, by rw [H3.out]; exact bs_no _ _ _ _ hlt h2 (by rw [Hbl.out]; exact d2), Hb.out.trans hb'⟩
        case measure => simp [intOf]; omega
    · have hpq : p = q := by omega
      subst hpq
      rw [bs_end _ _ _ _ hlt] at h3
      have d1 : decide (p < p) = false := decide_eq_false hlt
      by_cases hpl : p < l.length
      · obtain ⟨b, off, cap', e, c0, c1, c2, c3, c4, c5⟩ := attr_at (hs.bel hb) p hpl
        cases e
        have hres : (decide (place l name < l.length) && decide ((l.getD (place l name) Attr.none).name = name)) = decide ((l.getD p Attr.none).name = name) := by
          rw [h3, decide_eq_true hpl, Bool.true_and]
        have Hr := Lib.hid hres
        have H3 := Lib.hid h3
        have Hb := Lib.hid hb
        clear h3 hb hres
        have d2 : decide (p < l.length) = true := decide_eq_true hpl
        generalize l.getD p Attr.none = A at *
        go_wp2_with fail
        refine (cmp_any _ _ _).mono ?_
        rintro e w' ⟨rfl, hb'⟩
        have hce := compare_eq A.name.data.toList name.data.toList
        generalize Lib.compareBytes A.name.data.toList name.data.toList = c at *
        have Hce := Lib.hid hce
        clear hce
        go_wp2
        go_ret2
        refine ⟨?_, Hb.out.trans hb'⟩
        rw [Hr.out, H3.out, Hce.out]
        rw [show decide (A.name.data.toList = name.data.toList) = decide (A.name = name) from decide_eq_decide.2 ⟨fun h => toList_inj (by rw [Lib.toList_data, Lib.toList_data]; exact h), fun h => by rw [h]⟩]
        rfl
      · have hres : (decide (place l name < l.length) && decide ((l.getD (place l name) Attr.none).name = name)) = false := by
          rw [h3, decide_eq_false hpl, Bool.false_and]
        have Hr := Lib.hid hres
        have H3 := Lib.hid h3
        have Hb := Lib.hid hb
        clear h3 hb hres
        have d2 : decide (p < l.length) = false := decide_eq_false hpl
        go_wp2
        go_ret2
        refine ⟨?_, Hb.out⟩
        rw [Hr.out, H3.out]
        rfl
end Go.Proofs.YtljeeehimcdmbaaGreatDoor
end

section
/- The walks of attrs.find, attrs.has, dn.Word, syntax.Known. No condition. -/
namespace Go.Proofs.YtljeeehimcdmbaaGreatDoor
open Go.RowKit Go.Wd Go.Dir

theorem find_any (l : List Attr) (v : Value) (name : ByteArray) (w : World) (hs : Sl w v 6 l.length (attrCells l)) (hn : l.length < 1000000) :
    Calls Tryz.prog 65 #[v, .string name] w fun e w' => e = .returned (.tuple #[(match find l name with | some a => a.val | none => Attr.none.val), .bool (find l name).isSome]) ∧ Bel w w' := by
  obtain ⟨r, hr⟩ : ∃ r, r = find l name := ⟨_, rfl⟩
  rw [← hr]
  go_enter Tryz.func65, Tryz.ntmps65
  have H := fun w' (h : Bel w w') => Lib.hid (search_any l v name w' (hs.bel h) hn)
  have hv : ∃ a cap, v = .slice a l.length cap := by obtain ⟨_, a, cap, h, _⟩ := hs; exact ⟨a, cap, h⟩
  obtain ⟨a, cap, rfl⟩ := hv
  go_wp2_with fail
  refine (H _ ((Bel.refl _).alloc _)).out.mono ?_
  rintro e w' ⟨rfl, hb'⟩
  have Hb := Lib.hid hb'
  have hob := hb'.at (new_at w _)
  have z0 := cellk hob 0 _ rfl
  have y0 := freek hob 0
  have z1 := cellk hob 1 _ rfl
  have y1 := freek hob 1
  have z2 := cellk hob 2 _ rfl
  have y2 := freek hob 2
  have z3 := cellk hob 3 _ rfl
  have y3 := freek hob 3
  have z4 := cellk hob 4 _ rfl
  have y4 := freek hob 4
  have z5 := cellk hob 5 _ rfl
  have y5 := freek hob 5
  have Hob := Lib.hid hob
  clear hob
  clear H
  by_cases hpl : place l name < l.length
  · obtain ⟨b, off, cap', e, c0, c1, c2, c3, c4, c5⟩ := attr_at (hs.bel (((Bel.refl _).alloc _).trans hb')) (place l name) hpl
    cases e
    have hfind : find l name = if (l.getD (place l name) Attr.none).name = name then some (l.getD (place l name) Attr.none) else none := by unfold find; rw [if_pos hpl]
    rw [hfind] at hr
    rw [decide_eq_true hpl, Bool.true_and]
    clear hfind hs hb'
    generalize l.getD (place l name) Attr.none = A at *
    generalize place l name = p at *
    by_cases hA : A.name = name
    · rw [if_pos hA] at hr
      subst hr
      rw [decide_eq_true hA]
      go_wp2
      have hB := (((Bel.refl _).alloc _).trans Hb.out).set6 (Nat.le_refl _) (.string name) (.string A.above) (.int .i64 A.syn) (.int .i64 A.rule) (.bool A.single) (.bool A.closed)
      have hR := at_set6 Hob.out (.string name) (.string A.above) (.int .i64 A.syn) (.int .i64 A.rule) (.bool A.single) (.bool A.closed)
      have q0 := cellk hR 0 _ rfl
      have q1 := cellk hR 1 _ rfl
      have q2 := cellk hR 2 _ rfl
      have q3 := cellk hR 3 _ rfl
      have q4 := cellk hR 4 _ rfl
      have q5 := cellk hR 5 _ rfl
      refine bodyPost_ret (by simp [results, Tryz.results65, go_sem, q0, q1, q2, q3, q4, q5]; try rfl) rfl ?_
      exact ⟨by subst hA; rfl, hB⟩
    · rw [if_neg hA] at hr
      subst hr
      rw [decide_eq_false hA]
      go_wp2
      have hB := (((Bel.refl _).alloc _).trans Hb.out).set6 (Nat.le_refl _) (.string ⟨#[]⟩) (.string ⟨#[]⟩) (.int .i64 0) (.int .i64 0) (.bool false) (.bool false)
      have hR := at_set6 Hob.out (.string ⟨#[]⟩) (.string ⟨#[]⟩) (.int .i64 0) (.int .i64 0) (.bool false) (.bool false)
      have q0 := cellk hR 0 _ rfl
      have q1 := cellk hR 1 _ rfl
      have q2 := cellk hR 2 _ rfl
      have q3 := cellk hR 3 _ rfl
      have q4 := cellk hR 4 _ rfl
      have q5 := cellk hR 5 _ rfl
      refine bodyPost_ret (by simp [results, Tryz.results65, go_sem, q0, q1, q2, q3, q4, q5]; try rfl) rfl ?_
      exact ⟨rfl, hB⟩
  · have hfind : find l name = none := by unfold find; rw [if_neg hpl]
    rw [hfind] at hr
    subst hr
    rw [decide_eq_false hpl, Bool.false_and]
    clear hfind hs hb'
    generalize place l name = p at *
    go_wp2
    have hB := (((Bel.refl _).alloc _).trans Hb.out).set6 (Nat.le_refl _) (.string ⟨#[]⟩) (.string ⟨#[]⟩) (.int .i64 0) (.int .i64 0) (.bool false) (.bool false)
    have hR := at_set6 Hob.out (.string ⟨#[]⟩) (.string ⟨#[]⟩) (.int .i64 0) (.int .i64 0) (.bool false) (.bool false)
    have q0 := cellk hR 0 _ rfl
    have q1 := cellk hR 1 _ rfl
    have q2 := cellk hR 2 _ rfl
    have q3 := cellk hR 3 _ rfl
    have q4 := cellk hR 4 _ rfl
    have q5 := cellk hR 5 _ rfl
    refine bodyPost_ret (by simp [results, Tryz.results65, go_sem, q0, q1, q2, q3, q4, q5]; try rfl) rfl ?_
    exact ⟨rfl, hB⟩

theorem known_any (n : Int) (w : World) : Calls Tryz.prog 99 #[.int .i64 n] w fun e w' => e = .returned (.bool (known n)) ∧ w' = w := by
  go_enter Tryz.func99, Tryz.ntmps99
  by_cases h1 : 1 ≤ n
  · by_cases h2 : n ≤ 10
    · go_wp2
      go_ret
      exact ⟨by simp [known, h1, h2], rfl⟩
    · go_wp2
      go_ret
      exact ⟨by simp [known, h1, h2], rfl⟩
  · go_wp2
    go_ret
    exact ⟨by simp [known]; omega, rfl⟩
end Go.Proofs.YtljeeehimcdmbaaGreatDoor
end

section
/- The walks of dn.small, dn.Word, attrs.has, attrs.sane. No condition. -/
namespace Go.Proofs.YtljeeehimcdmbaaGreatDoor
open Go.RowKit Go.Wd Go.Dir

theorem small_any (c : UInt8) (w : World) : Calls Tryz.prog 84 #[.int .u8 (c.toNat : Int)] w fun e w' => e = .returned (.bool (small c)) ∧ w' = w := by
  go_enter Tryz.func84, Tryz.ntmps84
  unfold small
  generalize c.toNat = k
  by_cases h1 : 97 ≤ k
  · by_cases h2 : k ≤ 122
    · go_wp2
      go_ret
      exact ⟨ret_bool (by first | (simp; done) | (simp; omega)), rfl⟩
    · go_wp2
      go_ret
      exact ⟨ret_bool (by first | (simp; done) | (simp; omega)), rfl⟩
  · go_wp2
    go_ret
    exact ⟨ret_bool (by first | (simp; done) | (simp; omega)), rfl⟩

theorem has_any (n r : Int) (w : World) : Calls Tryz.prog 75 #[.int .i64 n, .int .i64 r] w fun e w' => e = .returned (.bool (has n r)) ∧ w' = w := by
  go_enter Tryz.func75, Tryz.ntmps75
  have H := fun w => Lib.hid (known_any n w)
  by_cases h1 : n = 1
  · subst h1
    by_cases a1 : 0 ≤ r
    · go_wp2
      go_ret
      exact ⟨ret_bool (by first | (simp [has]; done) | (simp [has]; omega)), rfl⟩
    · go_wp2
      go_ret
      exact ⟨ret_bool (by first | (simp [has]; done) | (simp [has]; omega)), rfl⟩
  by_cases h2 : n = 2
  · subst h2
    by_cases a1 : 0 ≤ r
    · go_wp2
      go_ret
      exact ⟨ret_bool (by first | (simp [has]; done) | (simp [has]; omega)), rfl⟩
    · go_wp2
      go_ret
      exact ⟨ret_bool (by first | (simp [has]; done) | (simp [has]; omega)), rfl⟩
  by_cases h3 : n = 10
  · subst h3
    by_cases a1 : r = 0
    · subst a1
      go_wp2
      go_ret
      exact ⟨by simp [has], rfl⟩
    · by_cases a2 : r = 10
      · subst a2
        go_wp2
        go_ret
        exact ⟨by simp [has], rfl⟩
      · by_cases a3 : r = 11
        · subst a3
          go_wp2
          go_ret
          exact ⟨by simp [has], rfl⟩
        · go_wp2
          go_ret
          exact ⟨ret_bool (by first | (simp [has]; done) | (simp [has]; omega)), rfl⟩
  have hh : has n r = (known n && decide (r = 0 ∨ r = n)) := by unfold has; rw [if_neg (by omega), if_neg (by omega)]
  have Hh := Lib.hid hh
  clear hh
  generalize known n = k at *
  cases k
  · go_wp2_with fail
    refine (H _).out.mono ?_
    rintro e w' ⟨rfl, rfl⟩
    go_wp2
    go_ret
    exact ⟨by rw [Hh.out]; rfl, rfl⟩
  · by_cases a1 : r = 0
    · subst a1
      go_wp2_with fail
      refine (H _).out.mono ?_
      rintro e w' ⟨rfl, rfl⟩
      go_wp2
      go_ret
      exact ⟨by rw [Hh.out]; simp, rfl⟩
    · go_wp2_with fail
      refine (H _).out.mono ?_
      rintro e w' ⟨rfl, rfl⟩
      go_wp2
      go_ret
      exact ⟨ret_bool (by rw [Hh.out]; simp [a1]), rfl⟩

theorem word_nil (s : ByteArray) (h : s.size = 0) : word s = false := by
  have : s.data.toList = [] := List.length_eq_zero_iff.1 (by rw [Array.length_toList]; exact h)
  unfold word; rw [this]
theorem word_split (s : ByteArray) (h : 0 < s.size) : ∃ c r, s.data.toList = c :: r ∧ r.length + 1 = s.size := by
  have e : s.data.toList.length = s.size := by rw [Array.length_toList]; rfl
  cases hl : s.data.toList with
  | nil => rw [hl] at e; simp at e; omega
  | cons c r => exact ⟨c, r, rfl, by rw [hl] at e; simpa using e⟩
theorem word_long (s : ByteArray) (h : 16 < s.size) : word s = false := by
  obtain ⟨c, r, e, _⟩ := word_split s (by omega)
  unfold word; rw [e]
  show (decide (s.size ≤ 16) && small c && r.all wordly) = false
  rw [decide_eq_false (by omega)]; rfl
theorem word_head (s : ByteArray) (h : 0 < s.size) (hc : small (s.data.toList.getD 0 0) = false) : word s = false := by
  obtain ⟨c, r, e, _⟩ := word_split s h
  rw [e] at hc
  unfold word; rw [e]
  show (decide (s.size ≤ 16) && small c && r.all wordly) = false
  rw [show small c = false from hc]; simp
theorem word_bad (s : ByteArray) (k : Nat) (h1 : 1 ≤ k) (h2 : k < s.size) (hc : wordly (s.data.toList.getD k 0) = false) : word s = false := by
  obtain ⟨c, r, e, hl⟩ := word_split s (by omega)
  obtain ⟨k, rfl⟩ : ∃ j, k = j + 1 := ⟨k - 1, by omega⟩
  rw [e] at hc
  have hk : k < r.length := by omega
  have hc' : wordly r[k] = false := by simpa [List.getD_eq_getElem?_getD, List.getElem?_eq_getElem hk] using hc
  unfold word; rw [e]
  show (decide (s.size ≤ 16) && small c && r.all wordly) = false
  have : r.all wordly = false := by
    rw [List.all_eq_false]
    exact ⟨r[k], List.getElem_mem _, by rw [hc']; simp⟩
  rw [this]; simp
theorem word_ok (s : ByteArray) (h0 : 0 < s.size) (h1 : s.size ≤ 16) (h2 : small (s.data.toList.getD 0 0) = true) (h3 : ∀ k, 1 ≤ k → k < s.size → wordly (s.data.toList.getD k 0) = true) : word s = true := by
  obtain ⟨c, r, e, hl⟩ := word_split s h0
  rw [e] at h2 h3
  unfold word; rw [e]
  show (decide (s.size ≤ 16) && small c && r.all wordly) = true
  rw [decide_eq_true h1, show small c = true from h2]
  rw [Bool.true_and, Bool.true_and, List.all_eq_true]
  intro x hx
  obtain ⟨i, hi, rfl⟩ := List.getElem_of_mem hx
  have := h3 (i + 1) (by omega) (by omega)
  simpa [List.getD_eq_getElem?_getD, List.getElem?_eq_getElem hi] using this

theorem byte_at (s : ByteArray) (k : Nat) (h : k < s.size) : s.data.toList.getD k 0 = s[k] := by
  have h' : k < s.data.size := h
  rw [List.getD_eq_getElem?_getD, Array.getElem?_toList, Array.getElem?_eq_getElem h']; rfl

theorem word_any (s : ByteArray) (hs : s.size < 1000000) (w : World) : Calls Tryz.prog 63 #[.string s] w fun e w' => e = .returned (.bool (word s)) ∧ w' = w := by
  obtain ⟨r, hr⟩ : ∃ r, r = word s := ⟨_, rfl⟩
  rw [← hr]
  go_enter Tryz.func63, Tryz.ntmps63
  have H := fun c w => Lib.hid (small_any c w)
  by_cases h0 : s.size = 0
  · rw [word_nil s h0] at hr
    subst hr
    have e : s = ⟨#[]⟩ := by cases s with | mk d => congr 1; exact Array.size_eq_zero_iff.1 h0
    subst e
    go_wp2
    go_ret
    exact ⟨rfl, rfl⟩
  have hne : ¬ s.toList = [] := by
    rw [Lib.toList_data]; intro h
    have := congrArg List.length h
    rw [Array.length_toList] at this
    exact h0 this
  have hne2 : s.toList.isEmpty = false := by cases h : s.toList with | nil => exact absurd h hne | cons _ _ => rfl
  by_cases h16 : 16 < s.size
  · rw [word_long s h16] at hr
    subst hr
    go_wp2
    go_ret
    exact ⟨rfl, rfl⟩
  have hp : 0 < s.size := by omega
  have hb := byte_at s 0 hp
  cases hsm : small s[0] with
  | false =>
    rw [word_head s hp (by rw [hb]; exact hsm)] at hr
    subst hr
    have Hc := Lib.hid hsm
    clear hsm hb
    have H0 := H s[0]
    rw [Hc.out] at H0
    go_wp2_with fail
    refine (H0 _).out.mono ?_
    rintro e w' ⟨rfl, rfl⟩
    go_wp2
    go_ret
    exact ⟨rfl, rfl⟩
  | true =>
    have Hc := Lib.hid hsm
    have H0 := H s[0]
    rw [Hc.out] at H0
    have Hh := Lib.hid (show small (s.data.toList.getD 0 0) = true by rw [hb]; exact hsm)
    clear hsm hb
    go_wp2_with fail
    refine (H0 _).out.mono ?_
    rintro e w' ⟨rfl, rfl⟩
    have Hr := Lib.hid hr
    clear hr H0
    go_wp2
    go_loop [3] (fun i => ∃ k : Nat, i = .int .i64 k ∧ 1 ≤ k ∧ k ≤ s.size ∧ ∀ j, 1 ≤ j → j < k → wordly (s.data.toList.getD j 0) = true) (fun i => s.size - (intOf i).toNat)
    case atStart => exact ⟨1, rfl, by omega, by omega, fun j h1 h2 => by omega⟩
    case round =>
      obtain ⟨k, rfl, h1, h2, h3⟩ := hrel
      have H3 := Lib.hid h3
      clear h3
      by_cases hlt : k < s.size
      · have hbk := byte_at s k hlt
        have Hk := Lib.hid hbk
        clear hbk
        have H0 := H s[k]
        cases hsm : small s[k] with
        | true =>
          rw [hsm] at H0
          have Hs := Lib.hid hsm
          clear hsm
          go_wp2_with fail
          refine (H0 _).out.mono ?_
          rintro e w' ⟨rfl, rfl⟩
          go_wp2
          go_round
          case rel => exact ⟨k + 1, by simp, by omega, by omega, fun j h4 h5 => by
            by_cases hj : j = k
            · subst hj; rw [Hk.out]; unfold wordly; rw [Hs.out]; rfl
            · exact H3.out j h4 (by omega)⟩
          case measure => simp [intOf]; omega
        | false =>
          rw [hsm] at H0
          have Hs := Lib.hid hsm
          clear hsm
          have hw : wordly s[k] = ((decide (48 ≤ s[k].toNat) && decide (s[k].toNat ≤ 57)) || decide (s[k].toNat = 45)) := by unfold wordly; rw [Hs.out]; rfl
          have Hw := Lib.hid hw
          clear hw
          generalize hck : s[k].toNat = c at *
          by_cases c1 : c < 48
          · by_cases c2 : c = 45
            · have Ht := Lib.hid (show wordly s[k] = true by rw [Hw.out]; simp [c2])
              have c4 : ((c : Int) == 45) = true := by subst c2; rfl
              have c5 : (c : Int) < 48 := by omega
              clear Hw c2
              go_wp2_with fail
              refine (H0 _).out.mono ?_
              rintro e w' ⟨rfl, rfl⟩
              go_wp2
              go_round
              case rel => exact ⟨k + 1, by simp, by omega, by omega, fun j h4 h5 => by
                by_cases hj : j = k
                · subst hj; rw [Hk.out]; exact Ht.out
                · exact H3.out j h4 (by omega)⟩
              case measure => simp [intOf]; omega
            · have Ht := Lib.hid (show wordly s[k] = false by rw [Hw.out]; simp [c2]; omega)
              clear Hw
              go_wp2_with fail
              refine (H0 _).out.mono ?_
              rintro e w' ⟨rfl, rfl⟩
              have hf := word_bad s k h1 hlt (by rw [Hk.out]; exact Ht.out)
              rw [← Hr.out] at hf
              have Hf := Lib.hid hf
              clear hf
              go_wp2
              go_ret
              exact ⟨by rw [Hf.out]; rfl, rfl⟩
          · by_cases c3 : c ≤ 57
            · have Ht := Lib.hid (show wordly s[k] = true by rw [Hw.out]; simp; omega)
              clear Hw
              go_wp2_with fail
              refine (H0 _).out.mono ?_
              rintro e w' ⟨rfl, rfl⟩
              go_wp2
              go_round
              case rel => exact ⟨k + 1, by simp, by omega, by omega, fun j h4 h5 => by
                by_cases hj : j = k
                · subst hj; rw [Hk.out]; exact Ht.out
                · exact H3.out j h4 (by omega)⟩
              case measure => simp [intOf]; omega
            · have Ht := Lib.hid (show wordly s[k] = false by rw [Hw.out]; simp; omega)
              have c6 : ((c : Int) == 45) = false := beq_eq_false_iff_ne.2 (by omega)
              have c7 : ((c : Int) != 45) = true := by simp; omega
              clear Hw
              go_wp2_with fail
              refine (H0 _).out.mono ?_
              rintro e w' ⟨rfl, rfl⟩
              have hf := word_bad s k h1 hlt (by rw [Hk.out]; exact Ht.out)
              rw [← Hr.out] at hf
              have Hf := Lib.hid hf
              clear hf
              go_wp2
              go_ret
              exact ⟨by rw [Hf.out]; rfl, rfl⟩
      · have hk : k = s.size := by omega
        subst hk
        have ht := word_ok s hp (by omega) Hh.out H3.out
        rw [← Hr.out] at ht
        have Ht := Lib.hid ht
        clear ht
        go_wp2
        go_ret
        exact ⟨by rw [Ht.out]; rfl, rfl⟩
end Go.Proofs.YtljeeehimcdmbaaGreatDoor
end

section
/- The walk of attrs.sane. No condition. -/
namespace Go.Proofs.YtljeeehimcdmbaaGreatDoor
open Go.RowKit Go.Wd Go.Dir

def shortA (a : Attr) : Prop := a.name.size < 1000000 ∧ a.above.size < 1000000

theorem sane_any (l : List Attr) (v : Value) (a : Attr) (w : World) (hs : Sl w v 6 l.length (attrCells l)) (hn : l.length < 1000000) (ha : shortA a) :
    Calls Tryz.prog 57 #[v, a.val] w fun e w' => e = .returned (.bool (sane l a)) ∧ Bel w w' := by
  obtain ⟨r, hr⟩ : ∃ r, r = sane l a := ⟨_, rfl⟩
  rw [← hr]
  unfold sane at hr
  have Hr := Lib.hid hr
  have HF := fun w' (h : Bel w w') => Lib.hid (find_any l v a.above w' (hs.bel h) hn)
  have HW := fun w' => Lib.hid (word_any a.name ha.1 w')
  have HH := fun w' => Lib.hid (has_any a.syn a.rule w')
  clear hr
  have hv : ∃ q cap, v = .slice q l.length cap := by obtain ⟨_, q, cap, h, _⟩ := hs; exact ⟨q, cap, h⟩
  obtain ⟨q, cap, rfl⟩ := hv
  have Hs := Lib.hid hs
  have Ha := Lib.hid ha
  clear hs ha
  unfold Attr.val
  obtain ⟨name, above, syn, rule, single, closed⟩ := a
  simp only at *
  generalize word name = bw at *
  generalize has syn rule = bh at *
  go_enter Tryz.func57, Tryz.ntmps57
  cases bw
  · go_wp2_with fail
    refine (HW _).out.mono ?_
    rintro e w' ⟨rfl, rfl⟩
    go_wp2
    go_ret
    exact ⟨by rw [Hr.out]; rfl, (Bel.refl _).alloc _⟩
  cases bh
  · go_wp2_with fail
    refine (HW _).out.mono ?_
    rintro e w' ⟨rfl, rfl⟩
    go_wp2_with fail
    refine (HH _).out.mono ?_
    rintro e w' ⟨rfl, rfl⟩
    go_wp2
    go_ret
    exact ⟨by rw [Hr.out]; rfl, (Bel.refl _).alloc _⟩
  by_cases h0 : above.size = 0
  · have e : above = ⟨#[]⟩ := by cases above with | mk d => congr 1; exact Array.size_eq_zero_iff.1 h0
    subst e
    go_wp2_with fail
    refine (HW _).out.mono ?_
    rintro e w' ⟨rfl, rfl⟩
    go_wp2_with fail
    refine (HH _).out.mono ?_
    rintro e w' ⟨rfl, rfl⟩
    go_wp2
    go_ret
    exact ⟨by rw [Hr.out]; rfl, (Bel.refl _).alloc _⟩
  have hne : ¬ above.toList = [] := by
    rw [Lib.toList_data]; intro h
    have := congrArg List.length h
    rw [Array.length_toList] at this
    exact h0 this
  have hne2 : above.toList.isEmpty = false := by cases h : above.toList with | nil => exact absurd h hne | cons _ _ => rfl
  generalize find l above = f at *
  cases f with
  | none =>
    go_wp2_with fail
    refine (HW _).out.mono ?_
    rintro e w' ⟨rfl, rfl⟩
    go_wp2_with fail
    refine (HH _).out.mono ?_
    rintro e w' ⟨rfl, rfl⟩
    go_wp2_with fail
    refine (HF _ ((Bel.refl _).alloc _)).out.mono ?_
    rintro e w' ⟨rfl, hb⟩
    have Hb := Lib.hid hb
    clear hb
    dsimp only [Attr.val, Attr.none, Option.isSome]
    go_wp2
    go_ret
    exact ⟨by rw [Hr.out]; simp [h0], (((Bel.refl _).alloc _).trans Hb.out).alloc _⟩
  | some b =>
    by_cases hsy : b.syn = syn
    · have e1 : (b.syn == syn) = true := by simp [hsy]
      go_wp2_with fail
      refine (HW _).out.mono ?_
      rintro e w' ⟨rfl, rfl⟩
      go_wp2_with fail
      refine (HH _).out.mono ?_
      rintro e w' ⟨rfl, rfl⟩
      go_wp2_with fail
      refine (HF _ ((Bel.refl _).alloc _)).out.mono ?_
      rintro e w' ⟨rfl, hb⟩
      have hob := hb.at (new_at w _)
      have z2 := cellk hob 2 _ rfl
      have x2 := fun o => cellk (old_at hob o) 2 _ rfl
      have Hb := Lib.hid hb
      have Hob := Lib.hid hob
      clear hb hob
      dsimp only [Attr.val, Option.isSome]
      go_wp2

      go_ret
      exact ⟨by rw [Hr.out]; simp [h0, hsy], (((Bel.refl _).alloc _).trans Hb.out).alloc _⟩
    · have e1 : (b.syn == syn) = false := by simp [hsy]
      go_wp2_with fail
      refine (HW _).out.mono ?_
      rintro e w' ⟨rfl, rfl⟩
      go_wp2_with fail
      refine (HH _).out.mono ?_
      rintro e w' ⟨rfl, rfl⟩
      go_wp2_with fail
      refine (HF _ ((Bel.refl _).alloc _)).out.mono ?_
      rintro e w' ⟨rfl, hb⟩
      have hob := hb.at (new_at w _)
      have z2 := cellk hob 2 _ rfl
      have x2 := fun o => cellk (old_at hob o) 2 _ rfl
      have Hb := Lib.hid hb
      have Hob := Lib.hid hob
      clear hb hob
      dsimp only [Attr.val, Option.isSome]
      go_wp2

      go_ret
      exact ⟨by rw [Hr.out]; simp [h0, hsy], (((Bel.refl _).alloc _).trans Hb.out).alloc _⟩
end Go.Proofs.YtljeeehimcdmbaaGreatDoor
end
