/- The walks of attrs.find and what it calls. No condition. -/
import Derived.Test.YtljeeehimcdmbaaGreatDoorMGreatDoorBase
import Derived.Test.YtljeeehimcdmbaaGreatDoorMGreatDoorDirLaw
import Derived.Test.YtljeeehimcdmbaaGreatDoorMGreatDoorShelfA
namespace Go.Proofs.YtljeeehimcdmbaaGreatDoor
open Go.RowKit Go.Wd Go.Dir

theorem cmp_any (a : Attr) (s : ByteArray) (w : World) :
    Calls Tryz.prog 85 #[a.val, .string s] w fun e w' => e = .returned (.int .i64 (Lib.compareBytes a.name.data.toList s.data.toList)) ∧ Bel w w' := by
  unfold Attr.val
  go_enter Tryz.func85, Tryz.ntmps85
  go_wp2_with fail
  refine (Tryz.strings_Compare _ _ _).mono ?_
  rintro e w' ⟨rfl, rfl⟩
  go_wp2
  go_ret
  exact ⟨rfl, (Bel.refl _).alloc _⟩

theorem compare_less : ∀ a b : List UInt8, decide (Lib.compareBytes a b < 0) = Op.bytesLess a b
  | [], [] => by simp [Lib.compareBytes, Op.bytesLess]
  | [], _ :: _ => by simp [Lib.compareBytes, Op.bytesLess]
  | _ :: _, [] => by simp [Lib.compareBytes, Op.bytesLess]
  | x :: a, y :: b => by
    unfold Lib.compareBytes Op.bytesLess
    by_cases h1 : x < y
    · simp [h1]
    · by_cases h2 : y < x
      · have : ¬ x = y := fun e => by subst e; exact h1 h2
        simp [h1, h2, this]
      · have : x = y := by
          rw [UInt8.lt_iff_toNat_lt] at h1 h2
          exact UInt8.toNat_inj.1 (by omega)
        subst this
        simp [h1]
        have := compare_less a b
        rw [decide_eq_decide.2 Iff.rfl] at this
        simpa using this
theorem compare_eq : ∀ a b : List UInt8, (Lib.compareBytes a b == 0) = decide (a = b)
  | [], [] => by simp [Lib.compareBytes]
  | [], _ :: _ => by simp [Lib.compareBytes]
  | _ :: _, [] => by simp [Lib.compareBytes]
  | x :: a, y :: b => by
    unfold Lib.compareBytes
    by_cases h1 : x < y
    · have : ¬ x = y := fun e => by subst e; rw [UInt8.lt_iff_toNat_lt] at h1; omega
      simp [h1, this]
    · by_cases h2 : y < x
      · have : ¬ x = y := fun e => by subst e; exact h1 h2
        simp [h1, h2, this]
      · have : x = y := by
          rw [UInt8.lt_iff_toNat_lt] at h1 h2
          exact UInt8.toNat_inj.1 (by omega)
        subst this
        have := compare_eq a b
        simp [h1, this]

/-- Element i of a slice of types. -/
theorem attr_at {w : World} {v : Value} {l : List Attr} (h : Sl w v 6 l.length (attrCells l)) (i : Nat) (hi : i < l.length) :
    ∃ b off cap, v = .slice (some ⟨b, off, none⟩) l.length cap ∧ w.cell? ⟨b, off + i * 6, none⟩ = some (.string (l.getD i Attr.none).name) ∧
      w.cell? ⟨b, off + i * 6 + 1, none⟩ = some (.string (l.getD i Attr.none).above) ∧ w.cell? ⟨b, off + i * 6 + 2, none⟩ = some (.int .i64 (l.getD i Attr.none).syn) ∧
      w.cell? ⟨b, off + i * 6 + 3, none⟩ = some (.int .i64 (l.getD i Attr.none).rule) ∧ w.cell? ⟨b, off + i * 6 + 4, none⟩ = some (.bool (l.getD i Attr.none).single) ∧
      w.cell? ⟨b, off + i * 6 + 5, none⟩ = some (.bool (l.getD i Attr.none).closed) := by
  obtain ⟨hl, a, cap, rfl, h1, h2, hc⟩ := h
  obtain ⟨b, off, rfl, _⟩ := hc (i * 6) (by omega)
  have e : ∀ (l : List Attr) (i k : Nat), i < l.length → k < 6 → (attrCells l).getD (i * 6 + k) undef = (l.getD i Attr.none).cells.getD k undef := by
    intro l
    induction l with
    | nil => intro i k hi; simp at hi
    | cons x r ih =>
      intro i k hi hk
      cases i with
      | zero =>
        show (x.cells ++ attrCells r).getD _ _ = x.cells.getD k undef
        rw [List.getD_eq_getElem?_getD, List.getD_eq_getElem?_getD, List.getElem?_append_left (by simp [Attr.cells]; omega)]
        simp
      | succ i =>
        show (x.cells ++ attrCells r).getD _ _ = (r.getD i Attr.none).cells.getD k undef
        rw [List.getD_eq_getElem?_getD, List.getElem?_append_right (by simp [Attr.cells]; omega), ← List.getD_eq_getElem?_getD]
        have : (i + 1) * 6 + k - x.cells.length = i * 6 + k := by simp [Attr.cells]; omega
        rw [this]
        exact ih i k (by simpa using hi) hk
  have g : ∀ k, k < 6 → w.cell? ⟨b, off + (i * 6 + k), none⟩ = some ((l.getD i Attr.none).cells.getD k undef) := by
    intro k hk
    obtain ⟨b', off', e1, e2⟩ := hc (i * 6 + k) (by omega)
    cases e1
    rw [e2, e l i k hi hk]
  simp only [← Nat.add_assoc] at g
  exact ⟨b, off, cap, rfl, g 0 (by omega), g 1 (by omega), g 2 (by omega), g 3 (by omega), g 4 (by omega), g 5 (by omega)⟩

/-- The test of the search. -/
def below (l : List Attr) (name : ByteArray) (h : Nat) : Bool := Op.bytesLess (l.getD h Attr.none).name.toList name.toList

theorem search_any (l : List Attr) (v : Value) (name : ByteArray) (w : World) (hs : Sl w v 6 l.length (attrCells l)) (hn : l.length < 1000000) :
    Calls Tryz.prog 77 #[v, .string name, .func (.func 85) #[] #[]] w fun e w' =>
      e = .returned (.tuple #[.int .i64 (place l name), .bool (decide (place l name < l.length) && decide ((l.getD (place l name) Attr.none).name = name))]) ∧ Bel w w' := by
  go_enter Tryz.func77, Tryz.ntmps77
  have hv : ∃ a cap, v = .slice a l.length cap := by obtain ⟨_, a, cap, h, _⟩ := hs; exact ⟨a, cap, h⟩
  obtain ⟨a, cap, rfl⟩ := hv
  go_wp2
  go_loopw [9, 10] (fun i j wr => ∃ p q : Nat, i = .int .i64 p ∧ j = .int .i64 q ∧ p ≤ q ∧ q ≤ l.length ∧ place l name = bs (below l name) l.length p q ∧ Bel w wr)
    (fun i j _ => (intOf j - intOf i).toNat)
  case atStart => exact ⟨0, l.length, rfl, rfl, Nat.zero_le _, Nat.le_refl _, rfl, Bel.refl _⟩
  case round =>
    obtain ⟨p, q, rfl, rfl, h1, h2, h3, hb⟩ := hrel
    by_cases hlt : p < q
    · have hm : (p + q) / 2 < l.length := by omega
      obtain ⟨b, off, cap', e, c0, c1, c2, c3, c4, c5⟩ := attr_at (hs.bel hb) ((p + q) / 2) hm
      cases e
      have hbelow : below l name ((p + q) / 2) = Op.bytesLess (l.getD ((p + q) / 2) Attr.none).name.toList name.toList := rfl
      generalize l.getD ((p + q) / 2) Attr.none = A at c0 c1 c2 c3 c4 c5 hbelow
      rw [Lib.toList_data, Lib.toList_data, ← compare_less] at hbelow
      have d1 : decide (p < q) = true := decide_eq_true hlt
      have Hbl := Lib.hid hbelow
      clear hbelow
      have H3 := Lib.hid h3
      have Hb := Lib.hid hb
      clear h3 hb
      go_wp2_with fail
      refine (cmp_any _ _ _).mono ?_
      rintro e w' ⟨rfl, hb'⟩
      generalize Lib.compareBytes A.name.data.toList name.data.toList = c at *
      by_cases hc : c < 0
      · have d2 : decide (c < 0) = true := decide_eq_true hc
        go_wp2
        go_roundw
        case rel => exact ⟨(p + q) / 2 + 1, q, by simp, rfl, by omega, h2, by rw [H3.out]; exact bs_yes _ _ _ _ hlt h2 (by rw [Hbl.out]; exact d2), Hb.out.trans hb'⟩
        case measure => simp [intOf]; omega
      · have d2 : decide (c < 0) = false := decide_eq_false hc
        go_wp2
        go_roundw
        case rel => exact ⟨p, (p + q) / 2, rfl, by simp, by omega, by omega, by rw [H3.out]; exact bs_no _ _ _ _ hlt h2 (by rw [Hbl.out]; exact d2), Hb.out.trans hb'⟩
        case measure => simp [intOf]; omega
    · have hpq : p = q := by omega
      subst hpq
      rw [bs_end _ _ _ _ hlt] at h3
      have d1 : decide (p < p) = false := decide_eq_false hlt
      by_cases hpl : p < l.length
      · obtain ⟨b, off, cap', e, c0, c1, c2, c3, c4, c5⟩ := attr_at (hs.bel hb) p hpl
        cases e
        have hres : (decide (place l name < l.length) && decide ((l.getD (place l name) Attr.none).name = name)) = decide ((l.getD p Attr.none).name = name) := by
          rw [h3, decide_eq_true hpl, Bool.true_and]
        have Hr := Lib.hid hres
        have H3 := Lib.hid h3
        have Hb := Lib.hid hb
        clear h3 hb hres
        have d2 : decide (p < l.length) = true := decide_eq_true hpl
        generalize l.getD p Attr.none = A at *
        go_wp2_with fail
        refine (cmp_any _ _ _).mono ?_
        rintro e w' ⟨rfl, hb'⟩
        have hce := compare_eq A.name.data.toList name.data.toList
        generalize Lib.compareBytes A.name.data.toList name.data.toList = c at *
        have Hce := Lib.hid hce
        clear hce
        go_wp2
        go_ret2
        refine ⟨?_, Hb.out.trans hb'⟩
        rw [Hr.out, H3.out, Hce.out]
        rw [show decide (A.name.data.toList = name.data.toList) = decide (A.name = name) from decide_eq_decide.2 ⟨fun h => toList_inj (by rw [Lib.toList_data, Lib.toList_data]; exact h), fun h => by rw [h]⟩]
        rfl
      · have hres : (decide (place l name < l.length) && decide ((l.getD (place l name) Attr.none).name = name)) = false := by
          rw [h3, decide_eq_false hpl, Bool.false_and]
        have Hr := Lib.hid hres
        have H3 := Lib.hid h3
        have Hb := Lib.hid hb
        clear h3 hb hres
        have d2 : decide (p < l.length) = false := decide_eq_false hpl
        go_wp2
        go_ret2
        refine ⟨?_, Hb.out⟩
        rw [Hr.out, H3.out]
        rfl
end Go.Proofs.YtljeeehimcdmbaaGreatDoor
