/- More plain facts of keys: parts, order, moving. No condition. -/
import Derived.Test.YtpmmccmhmoihgaaKa
import GoSem.Op.String
namespace Go.Key
open Go.Op (bytesLess)

theorem scan_append : ∀ (a r : List UInt8) (s : Bool) (d : Nat), scan s a = some d → scan s (a ++ r) = (scan false r).map (d + ·)
  | [], r, s, d, h => by cases s <;> simp [scan] at h; subst h; simp
  | c :: a, r, s, d, h => by
    rw [scan_cons] at h
    rw [List.cons_append, scan_cons]
    by_cases hc : c = 0
    · rw [if_pos hc] at h ⊢
      cases s
      · simp at h
      · simp only [if_true] at h ⊢
        cases ha : scan false a with
        | none => rw [ha] at h; simp at h
        | some e =>
          rw [ha] at h
          simp at h
          rw [scan_append a r false e ha, Option.map_map]
          congr 1
          funext y
          simp; omega
    · rw [if_neg hc] at h ⊢
      exact scan_append a r true d h

theorem scan_last : ∀ (l : List UInt8) (s : Bool) (d : Nat), scan s l = some d → l ≠ [] → l.getD (l.length - 1) 0 = 0
  | [], _, _, _, h => absurd rfl h
  | [c], s, d, h, _ => by
    rw [scan_cons] at h
    by_cases hc : c = 0
    · simp [hc]
    · rw [if_neg hc] at h; simp [scan] at h
  | c :: x :: r, s, d, h, _ => by
    have e : (c :: x :: r).getD ((c :: x :: r).length - 1) 0 = (x :: r).getD ((x :: r).length - 1) 0 := by simp [List.getD_eq_getElem?_getD]
    rw [e]
    rw [scan_cons] at h
    by_cases hc : c = 0
    · rw [if_pos hc] at h
      cases s
      · simp at h
      · cases hr : scan false (x :: r) with
        | none => rw [hr] at h; simp at h
        | some e => exact scan_last (x :: r) false e hr (by simp)
    · rw [if_neg hc] at h
      exact scan_last (x :: r) true d h (by simp)

theorem scan_cut : ∀ (l : List UInt8) (s : Bool) (d m : Nat), scan s l = some d → 0 < m → m ≤ l.length → l.getD (m - 1) 0 = 0 →
    ∃ c c', scan s (l.take m) = some c ∧ scan false (l.drop m) = some c' ∧ d = c + c'
  | [], _, _, m, _, h0, hm, _ => by simp at hm; omega
  | x :: r, s, d, m, h, h0, hm, hz => by
    obtain ⟨m, rfl⟩ : ∃ k, m = k + 1 := ⟨m - 1, by omega⟩
    rw [scan_cons] at h
    rw [List.take_succ_cons, List.drop_succ_cons, scan_cons]
    by_cases h1 : m = 0
    · subst h1
      have hx : x = 0 := by simpa using hz
      rw [if_pos hx] at h ⊢
      cases s
      · simp at h
      · simp only [if_true] at h ⊢
        cases hr : scan false r with
        | none => rw [hr] at h; simp at h
        | some e =>
          rw [hr] at h; simp at h
          exact ⟨1, e, by simp [scan], by simpa using hr, by omega⟩
    · have hz' : r.getD (m - 1) 0 = 0 := by
        obtain ⟨k, rfl⟩ : ∃ k, m = k + 1 := ⟨m - 1, by omega⟩
        simpa [List.getD_eq_getElem?_getD] using hz
      by_cases hx : x = 0
      · rw [if_pos hx] at h ⊢
        cases s
        · simp at h
        · simp only [if_true] at h ⊢
          cases hr : scan false r with
          | none => rw [hr] at h; simp at h
          | some e =>
            rw [hr] at h; simp at h
            obtain ⟨c, c', h1, h2, h3⟩ := scan_cut r false e m hr (by omega) (by simpa using hm) hz'
            exact ⟨c + 1, c', by rw [h1]; rfl, h2, by omega⟩
      · rw [if_neg hx] at h ⊢
        exact scan_cut r true d m h (by omega) (by simpa using hm) hz'

theorem aboveAt_eq (l : List UInt8) (m : Nat) : ∀ n, m ≤ n → (m = 0 ∨ l.getD (m - 1) 0 = 0) → (∀ i, m ≤ i → i < n → l.getD i 0 ≠ 0) → aboveAt l n = m
  | 0, h, _, _ => by simp [aboveAt]; omega
  | n + 1, h, hz, hn => by
    unfold aboveAt
    by_cases e : m = n + 1
    · subst e
      rcases hz with h0 | h0
      · omega
      · rw [if_pos (by simpa using h0)]
    · rw [if_neg (hn n (by omega) (by omega))]
      exact aboveAt_eq l m n (by omega) hz (fun i h1 h2 => hn i h1 (by omega))
theorem aboveAt_zero (l : List UInt8) : ∀ n, aboveAt l n = 0 ∨ l.getD (aboveAt l n - 1) 0 = 0
  | 0 => .inl rfl
  | n + 1 => by
    unfold aboveAt
    split
    · next h => exact .inr (by simpa using h)
    · exact aboveAt_zero l n
theorem aboveAt_none (l : List UInt8) : ∀ n i, aboveAt l n ≤ i → i < n → l.getD i 0 ≠ 0
  | 0, _, _, h => by omega
  | n + 1, i, h, hi => by
    unfold aboveAt at h
    split at h
    · omega
    · next hz =>
      by_cases e : i = n
      · subst e; exact hz
      · exact aboveAt_none l n i h (by omega)

/-- A key that has something has a key above it, one part less deep. -/
theorem depth_above (l : List UInt8) (d : Nat) (h : depth l = some d) (hne : l ≠ []) : depth (above l) = some (d - 1) ∧ 0 < d := by
  have hlen : 0 < l.length := List.length_pos_iff.2 hne
  have hd : d ≠ 0 := fun e => hne (scan_zero l (by rw [← e]; exact h))
  have hle := aboveAt_le l (l.length - 1)
  have hnone := aboveAt_none l (l.length - 1)
  unfold above
  generalize hm : aboveAt l (l.length - 1) = m at *
  have key : ∃ c', scan false (l.drop m) = some c' ∧ scan false (l.take m) = some (d - c') ∧ c' ≤ d := by
    rcases aboveAt_zero l (l.length - 1) with h0 | h0
    · rw [hm] at h0; subst h0
      exact ⟨d, by rw [List.drop_zero]; exact h, by simp [scan], Nat.le_refl _⟩
    · rw [hm] at h0
      by_cases hm0 : m = 0
      · subst hm0; exact ⟨d, by rw [List.drop_zero]; exact h, by simp [scan], Nat.le_refl _⟩
      · obtain ⟨c, c', h1, h2, h3⟩ := scan_cut l false d m h (by omega) (by omega) h0
        exact ⟨c', h2, by rw [h1]; congr 1; omega, by omega⟩
  obtain ⟨c', h1, h2, h3⟩ := key
  have hc1 : c' = 1 := by
    have hcnt := scan_count _ _ _ h1
    have hne' : l.drop m ≠ [] := by intro e; have := congrArg List.length e; simp at this; omega
    have hpos : c' ≠ 0 := fun e => hne' (scan_zero _ (by rw [← e]; exact h1))
    have hcut : l.drop m = (l.drop m).dropLast ++ [(l.drop m).getLast hne'] := (List.dropLast_concat_getLast hne').symm
    have hz : (l.drop m).dropLast.count 0 = 0 := by
      rw [List.count_eq_zero]
      intro hmem
      obtain ⟨i, hi, he⟩ := List.getElem_of_mem hmem
      simp at hi
      have := hnone (m + i) (by omega) (by omega)
      apply this
      rw [List.getD_eq_getElem?_getD, List.getElem?_eq_getElem (by omega)]
      simp at he
      simpa using he
    rw [hcut, List.count_append, hz] at hcnt
    have : [(l.drop m).getLast hne'].count 0 ≤ 1 := by
      have := List.count_le_length (a := (0 : UInt8)) (l := [(l.drop m).getLast hne'])
      simpa using this
    omega
  subst hc1
  exact ⟨h2, by omega⟩

theorem above_prefix (l : List UInt8) : (above l).isPrefixOf l = true := by
  rw [List.isPrefixOf_iff_prefix]; exact List.take_prefix _ _

/-- Just what stands one part above. -/
theorem above_unique (b r : List UInt8) (d : Nat) (hb : depth b = some d) (h : depth (b ++ r) = some (d + 1)) : above (b ++ r) = b := by
  have hr : scan false r = some 1 := by
    have := scan_append b r false d hb
    rw [show scan false (b ++ r) = some (d + 1) from h] at this
    cases hs : scan false r with
    | none => rw [hs] at this; simp at this
    | some e => rw [hs] at this; simp at this; congr 1; omega
  have hrne : r ≠ [] := by intro e; subst e; simp [scan] at hr
  have hrl : 0 < r.length := List.length_pos_iff.2 hrne
  have hat : aboveAt (b ++ r) ((b ++ r).length - 1) = b.length := by
    refine aboveAt_eq _ _ _ (by simp; omega) ?_ ?_
    · by_cases e : b = []
      · left; rw [e]; rfl
      · right
        have hbl : 0 < b.length := List.length_pos_iff.2 e
        have := scan_last b false d hb e
        rw [List.getD_eq_getElem?_getD] at this ⊢
        rw [List.getElem?_append_left (by omega)]
        exact this
    · intro i h1 h2 hz
      rw [List.length_append] at h2
      rw [List.getD_eq_getElem?_getD, List.getElem?_append_right h1, ← List.getD_eq_getElem?_getD] at hz
      have hh : i - b.length + 1 < r.length := by omega
      obtain ⟨c, c', e1, e2, e3⟩ := scan_cut r false 1 (i - b.length + 1) hr (by omega) (by omega) (by simpa using hz)
      have n1 : c ≠ 0 := fun e => by
        have := scan_zero _ (by rw [← e]; exact e1)
        have := congrArg List.length this
        rw [List.length_take, List.length_nil] at this; omega
      have n2 : c' ≠ 0 := fun e => by
        have := scan_zero _ (by rw [← e]; exact e2)
        have := congrArg List.length this
        rw [List.length_drop, List.length_nil] at this; omega
      omega
  unfold above
  rw [hat, List.take_left']
  rfl

theorem order_under : ∀ (b a : List UInt8), (b ++ [0]).isPrefixOf a = (!bytesLess a (b ++ [0]) && bytesLess a (b ++ [1]))
  | [], [] => rfl
  | [], x :: a => by
    simp only [List.nil_append, List.isPrefixOf, Bool.and_true]
    have h0 : bytesLess a [] = false := by cases a <;> rfl
    show (0 == x) = (!(decide (x < 0) || (x == 0 && bytesLess a [])) && (decide (x < 1) || (x == 1 && bytesLess a [])))
    rw [h0]
    simp only [Bool.and_false, Bool.or_false]
    have : decide (x < 0) = false := decide_eq_false (by intro h; exact absurd h (UInt8.not_lt_zero))
    rw [this]
    by_cases hx : x = 0
    · subst hx; rfl
    · have h1 : (0 == x) = false := beq_eq_false_iff_ne.2 (fun e => hx e.symm)
      have h2 : decide (x < 1) = false := decide_eq_false (by
        intro h
        apply hx
        have : x.toNat < 1 := h
        exact UInt8.toNat_inj.1 (by simpa using this))
      rw [h1, h2]; rfl
  | c :: b, [] => rfl
  | c :: b, x :: a => by
    have ih := order_under b a
    show (c == x && (b ++ [0]).isPrefixOf a) = (!(decide (x < c) || (x == c && bytesLess a (b ++ [0]))) && (decide (x < c) || (x == c && bytesLess a (b ++ [1]))))
    rw [ih]
    by_cases hx : x = c
    · subst hx
      have : decide (x < x) = false := decide_eq_false (by intro h; exact UInt8.lt_irrefl x h)
      rw [this]
      simp
    · have h1 : (c == x) = false := beq_eq_false_iff_ne.2 (fun e => hx e.symm)
      have h2 : (x == c) = false := beq_eq_false_iff_ne.2 hx
      rw [h1, h2]
      cases decide (x < c) <;> rfl

theorem order_all (a : List UInt8) (h : ∀ x r, a = x :: r → x ≠ 255) : (!bytesLess a [] && bytesLess a [255]) = true := by
  cases a with
  | nil => rfl
  | cons x r =>
    have h0 : bytesLess (x :: r) [] = false := rfl
    rw [h0]
    show (decide (x < 255) || (x == 255 && bytesLess r [])) = true
    have : x < 255 := by
      have h1 := h x r rfl
      have h2 : x.toNat ≤ 255 := by have := x.toNat_lt; omega
      have h3 : x.toNat ≠ 255 := fun e => h1 (UInt8.toNat_inj.1 e)
      exact (by omega : x.toNat < 255)
    rw [decide_eq_true this]; rfl

theorem order_between : ∀ (t a b : List UInt8), t.isPrefixOf a = true → bytesLess b t = false → bytesLess a b = false → t.isPrefixOf b = true
  | [], _, _, _, _, _ => rfl
  | c :: t, [], _, h, _, _ => by cases h
  | c :: t, x :: a, [], _, h, _ => by cases h
  | c :: t, x :: a, y :: b, h1, h2, h3 => by
    have h1' : (c == x && t.isPrefixOf a) = true := h1
    have h2' : (decide (y < c) || (y == c && bytesLess b t)) = false := h2
    have h3' : (decide (x < y) || (x == y && bytesLess a b)) = false := h3
    rw [Bool.and_eq_true] at h1'
    have hx : c = x := by simpa using h1'.1
    subst hx
    rw [Bool.or_eq_false_iff] at h2' h3'
    have hy : ¬ y < c := of_decide_eq_false h2'.1
    have hy2 : ¬ c < y := of_decide_eq_false h3'.1
    have e : y = c := by
      apply UInt8.toNat_inj.1
      have a1 : ¬ y.toNat < c.toNat := hy
      have a2 : ¬ c.toNat < y.toNat := hy2
      omega
    subst e
    have h4 := h2'.2
    have h5 := h3'.2
    simp at h4 h5
    show (y == y && t.isPrefixOf b) = true
    rw [order_between t a b h1'.2 h4 h5]
    simp

end Go.Key
