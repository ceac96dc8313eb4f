/- AclViews: parts of its proof. No condition. -/
import Derived.Lib.Strings
import GoSem.Op.String
import Derived.Laws.Bits
section
/- What attribute types, grants and keys say: plain functions, no program. No condition. -/
namespace Go.Dir
open Go
open Go.Op (bytesLess)

/-- A binary search: the first place from i to j of which p is not so, if p falls once. -/
def bs (p : Nat → Bool) : Nat → Nat → Nat → Nat
  | 0, i, _ => i
  | k + 1, i, j => if i < j then (if p ((i + j) / 2) then bs p k ((i + j) / 2 + 1) j else bs p k i ((i + j) / 2)) else i

theorem bs_more (p : Nat → Bool) : ∀ k k' i j, j - i ≤ k → j - i ≤ k' → bs p k i j = bs p k' i j
  | 0, k', i, j, h, h' => by
    cases k' with
    | zero => rfl
    | succ k' => unfold bs; rw [if_neg (by omega)]
  | k + 1, 0, i, j, h, h' => by unfold bs; rw [if_neg (by omega)]
  | k + 1, k' + 1, i, j, h, h' => by
    unfold bs
    by_cases hij : i < j
    · rw [if_pos hij, if_pos hij]
      by_cases hp : p ((i + j) / 2) = true
      · rw [if_pos hp, if_pos hp]; exact bs_more p k k' _ _ (by omega) (by omega)
      · rw [if_neg hp, if_neg hp]; exact bs_more p k k' _ _ (by omega) (by omega)
    · rw [if_neg hij, if_neg hij]
/-- One round of the search, its rest given enough rounds. -/
theorem bs_yes (p : Nat → Bool) (n i j : Nat) (h : i < j) (hn : j ≤ n) (hp : p ((i + j) / 2) = true) : bs p n i j = bs p n ((i + j) / 2 + 1) j := by
  rw [bs_more p n (j - i + 1) i j (by omega) (by omega)]
  rw [bs, if_pos h, if_pos hp]
  exact bs_more p _ _ _ _ (by omega) (by omega)
theorem bs_no (p : Nat → Bool) (n i j : Nat) (h : i < j) (hn : j ≤ n) (hp : p ((i + j) / 2) = false) : bs p n i j = bs p n i ((i + j) / 2) := by
  rw [bs_more p n (j - i + 1) i j (by omega) (by omega)]
  rw [bs, if_pos h, if_neg (by rw [hp]; simp)]
  exact bs_more p _ _ _ _ (by omega) (by omega)
theorem bs_end (p : Nat → Bool) (n i j : Nat) (h : ¬ i < j) : bs p n i j = i := by
  cases n with
  | zero => rfl
  | succ n => rw [bs, if_neg h]
theorem bs_le (p : Nat → Bool) : ∀ n i j, i ≤ j → i ≤ bs p n i j ∧ bs p n i j ≤ j
  | 0, i, j, h => ⟨Nat.le_refl _, h⟩
  | n + 1, i, j, h => by
    unfold bs
    by_cases hij : i < j
    · rw [if_pos hij]
      by_cases hp : p ((i + j) / 2) = true
      · rw [if_pos hp]; have := bs_le p n ((i + j) / 2 + 1) j (by omega); omega
      · rw [if_neg hp]; have := bs_le p n i ((i + j) / 2) (by omega); omega
    · rw [if_neg hij]; omega

/-- An attribute type. -/
structure Attr where
  name : ByteArray
  above : ByteArray
  syn : Int
  rule : Int
  single : Bool
  closed : Bool
deriving DecidableEq, Inhabited

def Attr.cells (a : Attr) : List Value := [.string a.name, .string a.above, .int .i64 a.syn, .int .i64 a.rule, .bool a.single, .bool a.closed]
def Attr.val (a : Attr) : Value := .agg #[.string a.name, .string a.above, .int .i64 a.syn, .int .i64 a.rule, .bool a.single, .bool a.closed]
def Attr.none : Attr := ⟨⟨#[]⟩, ⟨#[]⟩, 0, 0, false, false⟩
def attrCells (l : List Attr) : List Value := l.flatMap Attr.cells

/-- Where a name stands, or would stand, among types. -/
def place (l : List Attr) (name : ByteArray) : Nat := bs (fun h => bytesLess (l.getD h Attr.none).name.toList name.toList) l.length 0 l.length
def find (l : List Attr) (name : ByteArray) : Option Attr :=
  if place l name < l.length then (if (l.getD (place l name) Attr.none).name = name then some (l.getD (place l name) Attr.none) else Option.none) else Option.none

/-- A type, and those above it, so many at most. -/
def up (l : List Attr) : Nat → ByteArray → List Attr
  | 0, _ => []
  | k + 1, name => match find l name with
    | Option.none => []
    | some a => a :: up l k a.above

def small (c : UInt8) : Bool := decide (97 ≤ c.toNat) && decide (c.toNat ≤ 122)
def wordly (c : UInt8) : Bool := small c || (decide (48 ≤ c.toNat) && decide (c.toNat ≤ 57)) || decide (c.toNat = 45)
def word (s : ByteArray) : Bool := match s.data.toList with
  | [] => false
  | c :: r => decide (s.size ≤ 16) && small c && r.all wordly
def known (n : Int) : Bool := decide (1 ≤ n) && decide (n ≤ 10)
def has (n rule : Int) : Bool :=
  if n = 1 ∨ n = 2 then decide (0 ≤ rule ∧ rule ≤ 2)
  else if n = 10 then decide (rule = 0 ∨ rule = 10 ∨ rule = 11)
  else known n && decide (rule = 0 ∨ rule = n)
def sane (l : List Attr) (a : Attr) : Bool :=
  word a.name && has a.syn a.rule && (decide (a.above.size = 0) || match find l a.above with
    | Option.none => false
    | some b => decide (b.syn = a.syn))
def rising (l : List ByteArray) : Bool := (List.range (l.length - 1)).all fun i => bytesLess (l.getD i ⟨#[]⟩).toList (l.getD (i + 1) ⟨#[]⟩).toList
def checkA (l : List Attr) : Bool :=
  decide (l.length ≤ 24) && rising (l.map Attr.name) && l.all fun a => sane l a && decide ((up l (l.length + 1) a.name).length ≤ l.length)
def line (l : List Attr) (name : ByteArray) : List ByteArray := if checkA l then (up l (l.length + 1) name).map Attr.name else []
def isA (l : List Attr) (name above : ByteArray) : Bool := (line l name).any fun x => decide (x = above)

/-- A grant. -/
structure Grant where
  who : ByteArray
  below : ByteArray
  attr : ByteArray
  all : Bool
  self : Bool
  kinds : Int
  deny : Bool
deriving DecidableEq, Inhabited
def Grant.cells (g : Grant) : List Value := [.string g.who, .string g.below, .string g.attr, .bool g.all, .bool g.self, .int .i64 g.kinds, .bool g.deny]
def Grant.none : Grant := ⟨⟨#[]⟩, ⟨#[]⟩, ⟨#[]⟩, false, false, 0, false⟩
def grantCells (l : List Grant) : List Value := l.flatMap Grant.cells

def oneKind (k : Int) : Bool := decide (k = 1 ∨ k = 2 ∨ k = 4 ∨ k = 8)

end Go.Dir
end

section
/- What attribute types say, by the program and by the document: plain facts, no program. No condition. -/
namespace Go.Dir
open Go
open Go.Op (bytesLess)

theorem bl_irrefl : ∀ l : List UInt8, bytesLess l l = false
  | [] => rfl
  | c :: r => by simp [bytesLess, bl_irrefl r]
theorem bl_trans : ∀ a b c : List UInt8, bytesLess a b = true → bytesLess b c = true → bytesLess a c = true
  | [], [], _, h, _ => by simp [bytesLess] at h
  | [], _ :: _, [], _, h => by simp [bytesLess] at h
  | [], _ :: _, _ :: _, _, _ => by simp [bytesLess]
  | _ :: _, [], _, h, _ => by simp [bytesLess] at h
  | _ :: _, _ :: _, [], _, h => by simp [bytesLess] at h
  | x :: a, y :: b, z :: c, h, k => by
    simp only [bytesLess, Bool.or_eq_true, Bool.and_eq_true, decide_eq_true_eq, beq_iff_eq, UInt8.lt_iff_toNat_lt] at h k ⊢
    rcases h with h | ⟨h1, h2⟩
    · rcases k with k | ⟨k1, k2⟩
      · exact .inl (by omega)
      · subst k1; exact .inl h
    · subst h1
      rcases k with k | ⟨k1, k2⟩
      · exact .inl k
      · exact .inr ⟨k1, bl_trans a b c h2 k2⟩
theorem bl_total : ∀ a b : List UInt8, bytesLess a b = false → bytesLess b a = false → a = b
  | [], [], _, _ => rfl
  | [], _ :: _, h, _ => by simp [bytesLess] at h
  | _ :: _, [], _, h => by simp [bytesLess] at h
  | x :: a, y :: b, h, k => by
    simp only [bytesLess, Bool.or_eq_false_iff, Bool.and_eq_false_iff, decide_eq_false_iff_not, beq_eq_false_iff_ne, UInt8.lt_iff_toNat_lt] at h k
    have hxy : x = y := UInt8.toNat_inj.1 (by omega)
    subst hxy
    rcases h.2 with h2 | h2
    · exact absurd rfl h2
    · rcases k.2 with k2 | k2
      · exact absurd rfl k2
      · rw [bl_total a b h2 k2]

/-- Below a place that a search has left, all are below; from it on none is. -/
theorem bs_spec (p : Nat → Bool) (hp : ∀ i j, i ≤ j → p j = true → p i = true) : ∀ n i j, j - i ≤ n → i ≤ j → (∀ k, k < i → p k = true) → (∀ k, j ≤ k → p k = false) →
    (∀ k, k < bs p n i j → p k = true) ∧ (∀ k, bs p n i j ≤ k → p k = false)
  | 0, i, j, h, hij, h1, h2 => by
    obtain rfl : i = j := by omega
    exact ⟨h1, h2⟩
  | n + 1, i, j, h, hij, h1, h2 => by
    unfold bs
    by_cases hlt : i < j
    · rw [if_pos hlt]
      by_cases hm : p ((i + j) / 2) = true
      · rw [if_pos hm]
        exact bs_spec p hp n _ _ (by omega) (by omega) (fun k hk => hp k _ (by omega) hm) h2
      · rw [if_neg hm]
        exact bs_spec p hp n _ _ (by omega) (by omega) h1 (fun k hk => by
          cases hpk : p k with
          | false => rfl
          | true => exact absurd (hp _ k hk hpk) hm)
    · rw [if_neg hlt]
      obtain rfl : i = j := by omega
      exact ⟨h1, h2⟩

/-- Names rise. -/
def Rises (l : List Attr) : Prop := ∀ i j, i < j → j < l.length → bytesLess (l.getD i Attr.none).name.toList (l.getD j Attr.none).name.toList = true

theorem rises_of (l : List Attr) (h : ∀ i, i + 1 < l.length → bytesLess (l.getD i Attr.none).name.toList (l.getD (i + 1) Attr.none).name.toList = true) : Rises l := by
  intro i j hij
  induction j with
  | zero => omega
  | succ j ih =>
    intro hj
    rcases (by omega : i = j ∨ i < j) with rfl | h'
    · exact h i hj
    · exact bl_trans _ _ _ (ih h' (by omega)) (h j hj)

theorem toList_inj {a b : ByteArray} (h : a.toList = b.toList) : a = b := by
  have : ∀ x : ByteArray, x.toList = x.data.toList := Lib.toList_data
  rw [this, this] at h
  cases a; cases b
  congr 1
  exact Array.toList_inj.1 h

theorem find_some (l : List Attr) (nm : ByteArray) (a : Attr) (h : find l nm = some a) : a ∈ l ∧ a.name = nm := by
  unfold find at h
  split at h
  · next hlt =>
    split at h
    · next he =>
      cases h
      refine ⟨?_, he⟩
      rw [List.getD_eq_getElem?_getD, List.getElem?_eq_getElem hlt]
      exact List.getElem_mem _
    · cases h
  · cases h

/-- Among types whose names rise each is found by its name. -/
theorem find_at (l : List Attr) (hr : Rises l) (i : Nat) (hi : i < l.length) : find l (l.getD i Attr.none).name = some (l.getD i Attr.none) := by
  let q : Nat → Bool := fun k => decide (k < l.length) && bytesLess (l.getD k Attr.none).name.toList (l.getD i Attr.none).name.toList
  have hq : ∀ k, q k = decide (k < i) := by
    intro k
    show (decide (k < l.length) && bytesLess (l.getD k Attr.none).name.toList (l.getD i Attr.none).name.toList) = decide (k < i)
    by_cases hk : k < i
    · rw [decide_eq_true hk, decide_eq_true (by omega : k < l.length), hr k i hk hi]; rfl
    · rw [decide_eq_false hk]
      by_cases hkl : k < l.length
      · have : bytesLess (l.getD k Attr.none).name.toList (l.getD i Attr.none).name.toList = false := by
          rcases (by omega : k = i ∨ i < k) with rfl | h'
          · exact bl_irrefl _
          · cases hb : bytesLess (l.getD k Attr.none).name.toList (l.getD i Attr.none).name.toList with
            | false => rfl
            | true => have := bl_trans _ _ _ (hr i k h' hkl) hb; rw [bl_irrefl] at this; cases this
        rw [this, Bool.and_false]
      · rw [decide_eq_false hkl]; rfl
  have hbs : ∀ n a b, b ≤ l.length → bs (fun h => bytesLess (l.getD h Attr.none).name.toList (l.getD i Attr.none).name.toList) n a b = bs q n a b := by
    intro n
    induction n with
    | zero => intros; rfl
    | succ n ih =>
      intro a b hb
      unfold bs
      by_cases hab : a < b
      · rw [if_pos hab, if_pos hab]
        have : q ((a + b) / 2) = bytesLess (l.getD ((a + b) / 2) Attr.none).name.toList (l.getD i Attr.none).name.toList := by
          show (decide ((a + b) / 2 < l.length) && _) = _
          rw [decide_eq_true (by omega)]; rfl
        rw [this, ih _ _ hb, ih _ _ (by omega)]
      · rw [if_neg hab, if_neg hab]
  have hs := bs_spec q (fun a b hab hb => by rw [hq] at hb ⊢; simp at hb ⊢; omega) l.length 0 l.length (by omega) (by omega) (fun k hk => by omega) (fun k hk => by rw [hq]; simp; omega)
  have hpl : place l (l.getD i Attr.none).name = i := by
    unfold place
    rw [hbs _ _ _ (Nat.le_refl _)]
    have h1 : ¬ i < bs q l.length 0 l.length := fun h => by have := hs.1 i h; rw [hq] at this; simp at this
    have h2 : ¬ bs q l.length 0 l.length < i := fun h => by have := hs.2 _ (Nat.le_refl _); rw [hq] at this; simp at this; omega
    omega
  unfold find
  rw [hpl, if_pos hi, if_pos rfl]

def at? (l : List Attr) (nm : ByteArray) : Option Attr := l.find? fun a => a.name = nm

theorem find_eq (l : List Attr) (hr : Rises l) (nm : ByteArray) : find l nm = at? l nm := by
  cases h : at? l nm with
  | some a =>
    have hm := List.mem_of_find?_eq_some h
    have hn : a.name = nm := by simpa using List.find?_some h
    obtain ⟨i, hi, he⟩ := List.getElem_of_mem hm
    have e : l.getD i Attr.none = a := by rw [List.getD_eq_getElem?_getD, List.getElem?_eq_getElem hi]; exact he
    have := find_at l hr i hi
    rw [e, hn] at this
    exact this
  | none =>
    cases h' : find l nm with
    | none => rfl
    | some b =>
      obtain ⟨hm, hn⟩ := find_some l nm b h'
      have := List.find?_eq_none.1 h b hm
      simp [hn] at this

theorem up_mem (l : List Attr) : ∀ k nm a, a ∈ up l k nm → a ∈ l
  | 0, nm, a, h => by simp [up] at h
  | k + 1, nm, a, h => by
    unfold up at h
    cases hf : find l nm with
    | none => rw [hf] at h; simp at h
    | some b =>
      rw [hf] at h
      rcases List.mem_cons.1 h with rfl | h'
      · exact (find_some l nm _ hf).1
      · exact up_mem l k _ a h'
theorem up_len (l : List Attr) : ∀ k nm, (up l k nm).length ≤ k
  | 0, nm => by simp [up]
  | k + 1, nm => by
    unfold up
    cases find l nm with
    | none => simp
    | some b => simp; exact up_len l k b.above
/-- A line that is shorter than it might be is whole. -/
theorem up_more (l : List Attr) : ∀ k nm, (up l k nm).length < k → ∀ m, k ≤ m → up l m nm = up l k nm
  | 0, nm, h, m, hm => by omega
  | k + 1, nm, h, m, hm => by
    obtain ⟨m, rfl⟩ : ∃ m', m = m' + 1 := ⟨m - 1, by omega⟩
    unfold up at h ⊢
    cases hf : find l nm with
    | none => rfl
    | some b =>
      rw [hf] at h
      simp at h
      show b :: up l m b.above = b :: up l k b.above
      rw [up_more l k b.above h m (by omega)]

theorem nodup_len {α : Type} [DecidableEq α] : ∀ (xs l : List α), xs.Nodup → (∀ x ∈ xs, x ∈ l) → xs.length ≤ l.length
  | [], l, _, _ => by simp
  | x :: xs, l, h, hs => by
    have h1 := List.nodup_cons.1 h
    have hx : x ∈ l := hs x (by simp)
    have := nodup_len xs (l.erase x) h1.2 (fun y hy => (List.mem_erase_of_ne (fun e => by subst e; exact h1.1 hy)).2 (hs y (by simp [hy])))
    rw [List.length_erase_of_mem hx] at this
    have := List.length_pos_of_mem hx
    simp; omega

/-- In a whole line all that stand behind one have shorter lines. -/
theorem up_short (l : List Attr) : ∀ k nm, (up l k nm).length < k → ∀ b ∈ up l k nm, (up l k b.above).length < (up l k nm).length
  | 0, nm, h, b, hb => by omega
  | k + 1, nm, h, b, hb => by
    cases hf : find l nm with
    | none => unfold up at hb; rw [hf] at hb; simp at hb
    | some a =>
      have e : up l (k + 1) nm = a :: up l k a.above := by rw [up, hf]
      rw [e] at h hb ⊢
      simp at h
      rcases List.mem_cons.1 hb with rfl | hb'
      · rw [up_more l k b.above h (k + 1) (by omega)]; simp
      · have := up_short l k a.above h b hb'
        have h' : (up l k b.above).length < k := by omega
        rw [up_more l k b.above h' (k + 1) (by omega)]
        simp; omega
theorem up_nodup (l : List Attr) : ∀ k nm, (up l k nm).length < k → (up l k nm).Nodup
  | 0, nm, h => by omega
  | k + 1, nm, h => by
    cases hf : find l nm with
    | none => rw [up, hf]; exact List.nodup_nil
    | some a =>
      have e : up l (k + 1) nm = a :: up l k a.above := by rw [up, hf]
      rw [e] at h ⊢
      simp at h
      refine List.nodup_cons.2 ⟨fun hm => ?_, up_nodup l k a.above h⟩
      have := up_short l k a.above h a hm
      omega
/-- A whole line is no longer than there are types. -/
theorem up_all (l : List Attr) (k : Nat) (nm : ByteArray) (h : (up l k nm).length < k) : (up l k nm).length ≤ l.length :=
  nodup_len _ _ (up_nodup l k nm h) (fun x hx => up_mem l k nm x hx)

/-- The document's look at a type and those above it. -/
def chain (l : List Attr) : Nat → Attr → Nat → Bool
  | 0, _, _ => false
  | k + 1, a, n => decide (a.above.size = 0) || match at? l a.above with
    | Option.none => false
    | some b => decide (b.syn = a.syn) && decide (n ≤ l.length) && chain l k b (n + 1)
def oneR (l : List Attr) (a : Attr) : Bool := has a.syn a.rule && word a.name && chain l (l.length + 3) a 0
def checkR (l : List Attr) : Bool := decide (l.length ≤ 24) && rising (l.map Attr.name) && l.all (oneR l)

theorem up_take (l : List Attr) : ∀ k K nm, k ≤ K → up l k nm = (up l K nm).take k
  | 0, K, nm, _ => by simp [up]
  | k + 1, K, nm, h => by
    obtain ⟨K, rfl⟩ : ∃ K', K = K' + 1 := ⟨K - 1, by omega⟩
    unfold up
    cases find l nm with
    | none => rfl
    | some b =>
      show b :: up l k b.above = (b :: up l K b.above).take (k + 1)
      rw [List.take_succ_cons, up_take l k K b.above (by omega)]

theorem getD_map_name (l : List Attr) (i : Nat) (h : i < l.length) : (l.map Attr.name).getD i ⟨#[]⟩ = (l.getD i Attr.none).name := by
  rw [List.getD_eq_getElem?_getD, List.getD_eq_getElem?_getD, List.getElem?_map, List.getElem?_eq_getElem h]; rfl

theorem rises_iff (l : List Attr) : rising (l.map Attr.name) = true ↔ Rises l := by
  unfold rising
  rw [List.all_eq_true]
  constructor
  · intro h
    refine rises_of l fun i hi => ?_
    have := h i (by simp; omega)
    rwa [getD_map_name l i (by omega), getD_map_name l (i + 1) hi] at this
  · intro h i hi
    simp at hi
    rw [getD_map_name l i (by omega), getD_map_name l (i + 1) (by omega)]
    exact h i (i + 1) (by omega) (by omega)

theorem mem_find (l : List Attr) (hr : Rises l) (a : Attr) (h : a ∈ l) : find l a.name = some a := by
  obtain ⟨i, hi, he⟩ := List.getElem_of_mem h
  have e : l.getD i Attr.none = a := by rw [List.getD_eq_getElem?_getD, List.getElem?_eq_getElem hi]; exact he
  have := find_at l hr i hi
  rwa [e] at this

theorem sane_step (l : List Attr) (a : Attr) (h : sane l a = true) : word a.name = true ∧ has a.syn a.rule = true ∧ (a.above.size = 0 ∨ ∃ c, find l a.above = some c ∧ c.syn = a.syn) := by
  unfold sane at h
  simp only [Bool.and_eq_true, Bool.or_eq_true, decide_eq_true_eq] at h
  refine ⟨h.1.1, h.1.2, ?_⟩
  rcases h.2 with h2 | h2
  · exact .inl h2
  · right
    cases hf : find l a.above with
    | none => rw [hf] at h2; cases h2
    | some c => rw [hf] at h2; exact ⟨c, rfl, of_decide_eq_true h2⟩
theorem sane_of (l : List Attr) (a : Attr) (h1 : word a.name = true) (h2 : has a.syn a.rule = true) (h3 : a.above.size = 0 ∨ ∃ c, find l a.above = some c ∧ c.syn = a.syn) : sane l a = true := by
  unfold sane
  rw [h1, h2]
  rcases h3 with h | ⟨c, hc, hs⟩
  · simp [h]
  · rw [hc]; simp [hs]

theorem word_ne (s : ByteArray) (h : word s = true) : s.size ≠ 0 := by
  intro h0
  have : s.data.toList = [] := by
    have : s.data.toList.length = 0 := by rw [Array.length_toList]; exact h0
    exact List.length_eq_zero_iff.1 this
  unfold word at h
  rw [this] at h
  cases h

theorem up_above (l : List Attr) (hr : Rises l) (a : Attr) (h : a ∈ l) (k : Nat) : up l (k + 1) a.name = a :: up l k a.above := by rw [up, mem_find l hr a h]

theorem chain_of (l : List Attr) (hr : Rises l) (hs : ∀ a ∈ l, sane l a = true ∧ (up l (l.length + 1) a.name).length ≤ l.length) :
    ∀ k b m, b ∈ l → (up l (l.length + 1) b.above).length < k → m + (up l (l.length + 1) b.above).length ≤ l.length + 1 → chain l k b m = true
  | 0, b, m, _, h, _ => by omega
  | k + 1, b, m, hb, h, hm => by
    have short : ∀ x ∈ l, up l (l.length + 1) x.above = up l l.length x.above := fun x hx => by
      have := (hs x hx).2
      rw [up_above l hr x hx] at this
      simp at this
      exact up_more l _ _ (by omega) _ (by omega)
    unfold chain
    rcases (sane_step l b (hs b hb).1).2.2 with h0 | ⟨c, hc, hsy⟩
    · rw [decide_eq_true h0]; rfl
    · have hcm := (find_some l _ _ hc).1
      have e : up l (l.length + 1) b.above = c :: up l (l.length + 1) c.above := by rw [up, hc]; show c :: up l l.length c.above = _; rw [short c hcm]
      rw [e] at h hm
      simp at h hm
      rw [← find_eq l hr, hc]
      simp only [Bool.or_eq_true, Bool.and_eq_true, decide_eq_true_eq]
      exact .inr ⟨⟨hsy, by omega⟩, chain_of l hr hs k c (m + 1) hcm h (by omega)⟩

theorem chain_ends (l : List Attr) (hr : Rises l) (hw : ∀ a ∈ l, word a.name = true) : ∀ k b m, chain l k b m = true → (up l k b.above).length < k
  | 0, b, m, h => by simp [chain] at h
  | k + 1, b, m, h => by
    unfold chain at h
    simp only [Bool.or_eq_true, decide_eq_true_eq] at h
    rcases h with h | h
    · have : find l b.above = Option.none := by
        cases hf : find l b.above with
        | none => rfl
        | some c =>
          obtain ⟨hm, hn⟩ := find_some l _ _ hf
          have := word_ne _ (hw c hm)
          rw [hn] at this
          exact absurd h this
      rw [up, this]; simp
    · rw [← find_eq l hr] at h
      cases hf : find l b.above with
      | none => rw [hf] at h; cases h
      | some c =>
        rw [hf] at h
        simp only [Bool.and_eq_true] at h
        have := chain_ends l hr hw k c (m + 1) h.2
        rw [up, hf]
        simp; exact this

theorem check_eq (l : List Attr) : checkA l = checkR l := by
  unfold checkA checkR
  cases h24 : decide (l.length ≤ 24) with
  | false => rfl
  | true =>
  cases hri : rising (l.map Attr.name) with
  | false => rfl
  | true =>
  have hr := (rises_iff l).1 hri
  simp only [Bool.true_and]
  rw [Bool.eq_iff_iff, List.all_eq_true, List.all_eq_true]
  constructor
  · intro h
    have hs : ∀ a ∈ l, sane l a = true ∧ (up l (l.length + 1) a.name).length ≤ l.length := fun a ha => by
      have := h a ha
      simp only [Bool.and_eq_true, decide_eq_true_eq] at this
      exact this
    intro a ha
    have hl := (hs a ha).2
    rw [up_above l hr a ha] at hl
    simp at hl
    have e : up l (l.length + 1) a.above = up l l.length a.above := up_more l _ _ (by omega) _ (by omega)
    obtain ⟨h1, h2, _⟩ := sane_step l a (hs a ha).1
    unfold oneR
    rw [h1, h2, chain_of l hr hs (l.length + 3) a 0 ha (by rw [e]; omega) (by rw [e]; omega)]
    rfl
  · intro h
    have ho : ∀ a ∈ l, has a.syn a.rule = true ∧ word a.name = true ∧ chain l (l.length + 3) a 0 = true := fun a ha => by
      have := h a ha
      unfold oneR at this
      simp only [Bool.and_eq_true] at this
      exact ⟨this.1.1, this.1.2, this.2⟩
    intro a ha
    obtain ⟨h1, h2, h3⟩ := ho a ha
    simp only [Bool.and_eq_true, decide_eq_true_eq]
    refine ⟨sane_of l a h2 h1 ?_, ?_⟩
    · unfold chain at h3
      simp only [Bool.or_eq_true, decide_eq_true_eq] at h3
      rcases h3 with h3 | h3
      · exact .inl h3
      · right
        rw [← find_eq l hr] at h3
        cases hf : find l a.above with
        | none => rw [hf] at h3; cases h3
        | some c =>
          rw [hf] at h3
          simp only [Bool.and_eq_true, decide_eq_true_eq] at h3
          exact ⟨c, rfl, h3.1.1⟩
    · have h4 := chain_ends l hr (fun a ha => (ho a ha).2.1) _ _ _ h3
      have h5 : (up l (l.length + 4) a.name).length < l.length + 4 := by rw [up_above l hr a ha]; simp; exact h4
      have h6 := up_all l _ _ h5
      rw [up_take l (l.length + 1) (l.length + 4) a.name (by omega), List.length_take]
      omega

/-- The document's line, by so many steps at most. -/
def upR (l : List Attr) : Nat → ByteArray → List Attr
  | 0, _ => []
  | k + 1, nm => match at? l nm with
    | Option.none => []
    | some a => a :: upR l k a.above
theorem upR_eq (l : List Attr) (hr : Rises l) : ∀ k nm, upR l k nm = up l k nm
  | 0, _ => rfl
  | k + 1, nm => by
    unfold upR up
    rw [find_eq l hr]
    cases at? l nm with
    | none => rfl
    | some a => show a :: upR l k a.above = a :: up l k a.above; rw [upR_eq l hr k]
/-- Where types may be each line ends. -/
theorem line_short (l : List Attr) (h : checkA l = true) (nm : ByteArray) : (up l (l.length + 1) nm).length ≤ l.length := by
  unfold checkA at h
  simp only [Bool.and_eq_true, List.all_eq_true, decide_eq_true_eq] at h
  cases hf : find l nm with
  | none => rw [up, hf]; simp
  | some a =>
    obtain ⟨hm, hn⟩ := find_some l nm a hf
    have := (h.2 a hm).2
    rwa [hn] at this
end Go.Dir
end
