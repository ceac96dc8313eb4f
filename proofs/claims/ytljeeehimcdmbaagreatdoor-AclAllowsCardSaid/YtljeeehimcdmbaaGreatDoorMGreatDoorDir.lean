/- What attribute types, grants and keys say: plain functions, no program. No condition. -/
import Derived.Lib.Strings
import GoSem.Op.String
import Derived.Laws.Bits
namespace Go.Dir
open Go
open Go.Op (bytesLess)

/-- A binary search: the first place from i to j of which p is not so, if p falls once. -/
def bs (p : Nat → Bool) : Nat → Nat → Nat → Nat
  | 0, i, _ => i
  | k + 1, i, j => if i < j then (if p ((i + j) / 2) then bs p k ((i + j) / 2 + 1) j else bs p k i ((i + j) / 2)) else i

theorem bs_more (p : Nat → Bool) : ∀ k k' i j, j - i ≤ k → j - i ≤ k' → bs p k i j = bs p k' i j
  | 0, k', i, j, h, h' => by
    cases k' with
    | zero => rfl
    | succ k' => unfold bs; rw [if_neg (by omega)]
  | k + 1, 0, i, j, h, h' => by unfold bs; rw [if_neg (by omega)]
  | k + 1, k' + 1, i, j, h, h' => by
    unfold bs
    by_cases hij : i < j
    · rw [if_pos hij, if_pos hij]
      by_cases hp : p ((i + j) / 2) = true
      · rw [if_pos hp, if_pos hp]; exact bs_more p k k' _ _ (by omega) (by omega)
      · rw [if_neg hp, if_neg hp]; exact bs_more p k k' _ _ (by omega) (by omega)
    · rw [if_neg hij, if_neg hij]
/-- One round of the search, its rest given enough rounds. -/
theorem bs_yes (p : Nat → Bool) (n i j : Nat) (h : i < j) (hn : j ≤ n) (hp : p ((i + j) / 2) = true) : bs p n i j = bs p n ((i + j) / 2 + 1) j := by
  rw [bs_more p n (j - i + 1) i j (by omega) (by omega)]
  rw [bs, if_pos h, if_pos hp]
  exact bs_more p _ _ _ _ (by omega) (by omega)
theorem bs_no (p : Nat → Bool) (n i j : Nat) (h : i < j) (hn : j ≤ n) (hp : p ((i + j) / 2) = false) : bs p n i j = bs p n i ((i + j) / 2) := by
  rw [bs_more p n (j - i + 1) i j (by omega) (by omega)]
  rw [bs, if_pos h, if_neg (by rw [hp]; simp)]
  exact bs_more p _ _ _ _ (by omega) (by omega)
theorem bs_end (p : Nat → Bool) (n i j : Nat) (h : ¬ i < j) : bs p n i j = i := by
  cases n with
  | zero => rfl
  | succ n => rw [bs, if_neg h]
theorem bs_le (p : Nat → Bool) : ∀ n i j, i ≤ j → i ≤ bs p n i j ∧ bs p n i j ≤ j
  | 0, i, j, h => ⟨Nat.le_refl _, h⟩
  | n + 1, i, j, h => by
    unfold bs
    by_cases hij : i < j
    · rw [if_pos hij]
      by_cases hp : p ((i + j) / 2) = true
      · rw [if_pos hp]; have := bs_le p n ((i + j) / 2 + 1) j (by omega); omega
      · rw [if_neg hp]; have := bs_le p n i ((i + j) / 2) (by omega); omega
    · rw [if_neg hij]; omega

/-- An attribute type. -/
structure Attr where
  name : ByteArray
  above : ByteArray
  syn : Int
  rule : Int
  single : Bool
  closed : Bool
deriving DecidableEq, Inhabited

def Attr.cells (a : Attr) : List Value := [.string a.name, .string a.above, .int .i64 a.syn, .int .i64 a.rule, .bool a.single, .bool a.closed]
def Attr.val (a : Attr) : Value := .agg #[.string a.name, .string a.above, .int .i64 a.syn, .int .i64 a.rule, .bool a.single, .bool a.closed]
def Attr.none : Attr := ⟨⟨#[]⟩, ⟨#[]⟩, 0, 0, false, false⟩
def attrCells (l : List Attr) : List Value := l.flatMap Attr.cells

/-- Where a name stands, or would stand, among types. -/
def place (l : List Attr) (name : ByteArray) : Nat := bs (fun h => bytesLess (l.getD h Attr.none).name.toList name.toList) l.length 0 l.length
def find (l : List Attr) (name : ByteArray) : Option Attr :=
  if place l name < l.length then (if (l.getD (place l name) Attr.none).name = name then some (l.getD (place l name) Attr.none) else Option.none) else Option.none

/-- A type, and those above it, so many at most. -/
def up (l : List Attr) : Nat → ByteArray → List Attr
  | 0, _ => []
  | k + 1, name => match find l name with
    | Option.none => []
    | some a => a :: up l k a.above

def small (c : UInt8) : Bool := decide (97 ≤ c.toNat) && decide (c.toNat ≤ 122)
def wordly (c : UInt8) : Bool := small c || (decide (48 ≤ c.toNat) && decide (c.toNat ≤ 57)) || decide (c.toNat = 45)
def word (s : ByteArray) : Bool := match s.data.toList with
  | [] => false
  | c :: r => decide (s.size ≤ 16) && small c && r.all wordly
def known (n : Int) : Bool := decide (1 ≤ n) && decide (n ≤ 10)
def has (n rule : Int) : Bool :=
  if n = 1 ∨ n = 2 then decide (0 ≤ rule ∧ rule ≤ 2)
  else if n = 10 then decide (rule = 0 ∨ rule = 10 ∨ rule = 11)
  else known n && decide (rule = 0 ∨ rule = n)
def sane (l : List Attr) (a : Attr) : Bool :=
  word a.name && has a.syn a.rule && (decide (a.above.size = 0) || match find l a.above with
    | Option.none => false
    | some b => decide (b.syn = a.syn))
def rising (l : List ByteArray) : Bool := (List.range (l.length - 1)).all fun i => bytesLess (l.getD i ⟨#[]⟩).toList (l.getD (i + 1) ⟨#[]⟩).toList
def checkA (l : List Attr) : Bool :=
  decide (l.length ≤ 24) && rising (l.map Attr.name) && l.all fun a => sane l a && decide ((up l (l.length + 1) a.name).length ≤ l.length)
def line (l : List Attr) (name : ByteArray) : List ByteArray := if checkA l then (up l (l.length + 1) name).map Attr.name else []
def isA (l : List Attr) (name above : ByteArray) : Bool := (line l name).any fun x => decide (x = above)

/-- A grant. -/
structure Grant where
  who : ByteArray
  below : ByteArray
  attr : ByteArray
  all : Bool
  self : Bool
  kinds : Int
  deny : Bool
deriving DecidableEq, Inhabited
def Grant.cells (g : Grant) : List Value := [.string g.who, .string g.below, .string g.attr, .bool g.all, .bool g.self, .int .i64 g.kinds, .bool g.deny]
def Grant.none : Grant := ⟨⟨#[]⟩, ⟨#[]⟩, ⟨#[]⟩, false, false, 0, false⟩
def grantCells (l : List Grant) : List Value := l.flatMap Grant.cells

def oneKind (k : Int) : Bool := decide (k = 1 ∨ k = 2 ∨ k = 4 ∨ k = 8)

end Go.Dir
