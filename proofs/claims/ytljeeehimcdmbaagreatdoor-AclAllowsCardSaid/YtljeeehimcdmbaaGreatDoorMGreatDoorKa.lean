/- Keys of names as lists of bytes: plain facts, no program. No condition. -/
import Derived.Lib.Bytealg
import Derived.Lib.LastIndexByte
namespace Go.Key

/-- How many parts bytes have; none: they are no key. s: has a part begun? -/
def scan : Bool → List UInt8 → Option Nat
  | s, [] => if s then none else some 0
  | s, c :: r => if c = 0 then (if s then (scan false r).map (· + 1) else none) else scan true r

theorem scan_cons (s : Bool) (c : UInt8) (r : List UInt8) : scan s (c :: r) = if c = 0 then (if s then (scan false r).map (· + 1) else none) else scan true r := by cases s <;> rfl

def depth (l : List UInt8) : Option Nat := scan false l

theorem index_none : ∀ (l : List UInt8), Lib.indexByte l 0 = -1 → ∀ s, scan s l = if s || !l.isEmpty then none else some 0
  | [], _, s => by cases s <;> rfl
  | c :: r, h, s => by
    unfold Lib.indexByte at h
    by_cases hc : c = 0
    · subst hc; simp at h
    · have hb : (c == 0) = false := beq_eq_false_iff_ne.2 hc
      rw [hb] at h
      simp only [Bool.false_eq_true, if_false] at h
      have hr : Lib.indexByte r 0 = -1 := by
        split at h
        · next e => exact of_decide_eq_true e
        · have := Lib.indexByte_ge r 0; omega
      rw [scan_cons, if_neg hc, index_none r hr true]
      simp

theorem index_some : ∀ (l : List UInt8) (i : Nat), Lib.indexByte l 0 = i → i < l.length ∧ ∀ s, (s = true ∨ 0 < i) → scan s l = (scan false (l.drop (i + 1))).map (· + 1)
  | [], i, h => by unfold Lib.indexByte at h; omega
  | c :: r, i, h => by
    unfold Lib.indexByte at h
    by_cases hc : c = 0
    · subst hc
      simp only [beq_self_eq_true, if_true] at h
      obtain rfl : i = 0 := by omega
      refine ⟨by simp, fun s hs => ?_⟩
      rcases hs with rfl | hs
      · simp [scan]
      · omega
    · have hb : (c == 0) = false := beq_eq_false_iff_ne.2 hc
      rw [hb] at h
      simp only [Bool.false_eq_true, if_false] at h
      split at h
      · omega
      · have hge := Lib.indexByte_ge r 0
        next hne =>
        have hne' : Lib.indexByte r 0 ≠ -1 := by intro e; rw [e] at hne; simp at hne
        obtain ⟨j, hj⟩ : ∃ j : Nat, Lib.indexByte r 0 = j := ⟨(Lib.indexByte r 0).toNat, by omega⟩
        obtain ⟨h1, h2⟩ := index_some r j hj
        obtain rfl : i = j + 1 := by omega
        refine ⟨by simp; omega, fun s _ => ?_⟩
        rw [scan_cons, if_neg hc, h2 true (.inl rfl)]
        simp

theorem index_zero (l : List UInt8) (h : Lib.indexByte l 0 = 0) : scan false l = none := by
  cases l with
  | nil => unfold Lib.indexByte at h; omega
  | cons c r =>
    unfold Lib.indexByte at h
    by_cases hc : c = 0
    · subst hc; simp [scan]
    · have hb : (c == 0) = false := beq_eq_false_iff_ne.2 hc
      rw [hb] at h
      simp only [Bool.false_eq_true, if_false] at h
      split at h
      · omega
      · have := Lib.indexByte_ge r 0
        next hne =>
        have hne' : Lib.indexByte r 0 ≠ -1 := by intro e; rw [e] at hne; simp at hne
        omega

theorem scan_le : ∀ (l : List UInt8) (s : Bool) (d : Nat), scan s l = some d → d ≤ l.length
  | [], s, d, h => by cases s <;> simp [scan] at h; omega
  | c :: r, s, d, h => by
    rw [scan_cons] at h
    by_cases hc : c = 0
    · rw [if_pos hc] at h
      cases s
      · simp at h
      · cases hr : scan false r with
        | none => rw [hr] at h; simp at h
        | some e =>
          rw [hr] at h; simp at h
          have := scan_le r false e hr
          simp; omega
    · rw [if_neg hc] at h
      have := scan_le r true d h
      simp; omega
theorem depth_le (l : List UInt8) (d : Nat) (h : depth l = some d) : d ≤ l.length := scan_le l false d h

def isKey (l : List UInt8) : Bool := (depth l).isSome

/-- Where the part above ends, among the first n bytes. -/
def aboveAt (l : List UInt8) : Nat → Nat
  | 0 => 0
  | n + 1 => if l.getD n 0 = 0 then n + 1 else aboveAt l n
theorem aboveAt_le (l : List UInt8) : ∀ n, aboveAt l n ≤ n
  | 0 => Nat.le_refl _
  | n + 1 => by
    unfold aboveAt
    split
    · exact Nat.le_refl _
    · exact Nat.le_trans (aboveAt_le l n) (Nat.le_succ n)

theorem lastIdx_at (s : ByteArray) (l : List UInt8) : ∀ n, n ≤ s.size → (∀ i, i < n → s.data.toList.getD i 0 = l.getD i 0) → Lib.lastIdx s 0 n + 1 = aboveAt l n
  | 0, _, _ => rfl
  | n + 1, h, he => by
    have e : (s.data[n]! : UInt8) = l.getD n 0 := by
      rw [← he n (by omega)]
      have hn : n < s.data.size := h
      rw [List.getD_eq_getElem?_getD, Array.getElem?_toList, Array.getElem!_eq_getD, Array.getD_eq_getD_getElem?]; rfl
    unfold Lib.lastIdx aboveAt
    rw [e]
    by_cases hc : l.getD n 0 = 0
    · rw [if_pos hc, hc]; simp
    · have : ¬ ((l.getD n 0).toNat : Int) = 0 := by
        intro h0
        apply hc
        exact UInt8.toNat_inj.1 (by simpa using h0)
      rw [if_neg this, if_neg hc]
      exact lastIdx_at s l n (by omega) (fun i hi => he i (by omega))

def above (l : List UInt8) : List UInt8 := l.take (aboveAt l (l.length - 1))
def behind (l : List UInt8) : List UInt8 := if l.isEmpty || !isKey l then [255] else l.dropLast ++ [1]
def under (a b : List UInt8) : Bool := isKey a && isKey b && b.isPrefixOf a
def next (a b : List UInt8) : Bool := !a.isEmpty && isKey a && (above a == b)


/-- Has a part begun ahead of place k? -/
def begun (l : List UInt8) (k : Nat) : Bool := decide (0 < k) && (l.getD (k - 1) 0 != 0)
/-- What has been seen ahead of place k is well. -/
def seen (l : List UInt8) (k : Nat) : Prop := ∃ c, scan false l = (scan (begun l k) (l.drop k)).map (· + c)

theorem seen_start (l : List UInt8) : seen l 0 := ⟨0, by simp [begun]⟩
theorem drop_cons (l : List UInt8) (k : Nat) (h : k < l.length) : l.drop k = l.getD k 0 :: l.drop (k + 1) := by
  rw [List.drop_eq_getElem_cons h, List.getD_eq_getElem?_getD, List.getElem?_eq_getElem h]; rfl
theorem seen_step (l : List UInt8) (k : Nat) (h : k < l.length) (hb : l.getD k 0 = 0 → begun l k = true) (hs : seen l k) : seen l (k + 1) := by
  obtain ⟨c, hc⟩ := hs
  rw [drop_cons l k h, scan_cons] at hc
  by_cases h0 : l.getD k 0 = 0
  · rw [if_pos h0, if_pos (hb h0)] at hc
    refine ⟨1 + c, ?_⟩
    have e : begun l (k + 1) = false := by unfold begun; simp; exact h0
    rw [e, hc, Option.map_map]
    congr 1
    funext y
    simp; omega
  · rw [if_neg h0] at hc
    refine ⟨c, ?_⟩
    have e : begun l (k + 1) = true := by unfold begun; simp; exact h0
    rw [e, hc]
theorem seen_bad (l : List UInt8) (k : Nat) (h : k < l.length) (h0 : l.getD k 0 = 0) (hb : begun l k = false) (hs : seen l k) : isKey l = false := by
  obtain ⟨c, hc⟩ := hs
  rw [drop_cons l k h, scan_cons, if_pos h0, hb] at hc
  simp at hc
  unfold isKey depth
  rw [hc]; rfl
theorem seen_end (l : List UInt8) (hs : seen l l.length) : isKey l = !(begun l l.length) := by
  obtain ⟨c, hc⟩ := hs
  rw [List.drop_length] at hc
  unfold isKey depth
  rw [hc]
  cases begun l l.length <;> rfl

/-- How many parts a key has: as many as it has zero bytes. -/
theorem scan_count : ∀ (l : List UInt8) (s : Bool) (d : Nat), scan s l = some d → d = l.count 0
  | [], s, d, h => by cases s <;> simp [scan] at h; subst h; rfl
  | c :: r, s, d, h => by
    rw [scan_cons] at h
    by_cases hc : c = 0
    · rw [if_pos hc] at h
      subst hc
      cases s
      · simp at h
      · cases hr : scan false r with
        | none => rw [hr] at h; simp at h
        | some e =>
          rw [hr] at h; simp at h
          have := scan_count r false e hr
          simp; omega
    · rw [if_neg hc] at h
      have := scan_count r true d h
      rw [List.count_cons, this]
      simp [hc]
theorem count_snoc (l : List UInt8) (k : Nat) (h : k < l.length) : (l.take (k + 1)).count 0 = (l.take k).count 0 + if l.getD k 0 = 0 then 1 else 0 := by
  rw [List.take_succ_eq_append_getElem h, List.count_append, List.getD_eq_getElem?_getD, List.getElem?_eq_getElem h]
  simp [List.count_cons]


theorem scan_zero : ∀ (l : List UInt8), scan false l = some 0 → l = []
  | [], _ => rfl
  | c :: r, h => by
    rw [scan_cons] at h
    by_cases hc : c = 0
    · rw [if_pos hc] at h; simp at h
    · rw [if_neg hc] at h
      exact absurd (scan_true_pos r 0 h) (by omega)
where
  scan_true_pos : ∀ (l : List UInt8) (d : Nat), scan true l = some d → 0 < d
    | [], d, h => by simp [scan] at h
    | c :: r, d, h => by
      rw [scan_cons] at h
      by_cases hc : c = 0
      · rw [if_pos hc] at h
        cases hr : scan false r with
        | none => rw [hr] at h; simp at h
        | some e => rw [hr] at h; simp at h; omega
      · rw [if_neg hc] at h
        exact scan_true_pos r d h

end Go.Key
