/- Words that all walks of this seat share: what a call leaves of the world, how slices read. No condition. -/
import Derived.WalkKit
import Derived.WalkSpells
import Derived.WalkLawsBesides
import Derived.Lib.Hide
import Derived.Lib.Strings
import Derived.Deep.QuietTactic
import Derived.BigQuiet
import Derived.Handy
namespace Go.Wd
open Go Go.RowKit

/-- Behind a call all that was there is as it was. -/
def Bel (w w' : World) : Prop := Below w.heap.size w w'

theorem ret_bool {a b : Bool} (h : a = true ↔ b = true) : Ending.returned (.bool a) = Ending.returned (.bool b) := by rw [Bool.eq_iff_iff.2 h]

theorem Bel.refl (w : World) : Bel w w := Below.refl _ _
theorem Bel.trans {a b c : World} (h : Bel a b) (k : Bel b c) : Bel a c := Below.trans h (Below.mono k h.size)
theorem Bel.alloc {a b : World} (h : Bel a b) (o : Obj) : Bel a (b.alloc o) := Below.alloc h h.size o
theorem Bel.drew {a b : World} (h : Bel a b) : Bel a b.drew := Below.drew h
theorem Bel.drewN {a b : World} (h : Bel a b) (n : Nat) : Bel a (b.drewN n) := ⟨h.os, h.tape, h.output, h.size, h.block⟩
theorem Bel.set {a b : World} (h : Bel a b) {p : Addr} (hp : a.heap.size ≤ p.block) (u : Value) : Bel a (b.setCell p u) := Below.setCell h hp u
theorem Bel.le {a b : World} (h : Bel a b) : a.heap.size ≤ b.heap.size := h.size
theorem Bel.cell {a b : World} (h : Bel a b) {p : Addr} {v : Value} (hc : a.cell? p = some v) : b.cell? p = some v :=
  (Below.cell (p := p) h (World.block_lt_of_cell? a p hc)).trans hc
theorem Bel.at {a b : World} (h : Bel a b) {k : Nat} {o : Obj} (hc : a.heap[k]? = some o) : b.heap[k]? = some o :=
  (h.block k (Array.getElem?_eq_some_iff.1 hc).1).trans hc
theorem Bel.grown {a b c : World} (h : Bel a b) {row : Option Nat} (hg : b.grownBy c row) (hr : ∀ k, row = some k → a.heap.size ≤ k) : Bel a c :=
  Below.grown h hg h.size hr

theorem Bel.set6 {a b : World} (h : Bel a b) {k : Nat} (hk : a.heap.size ≤ k) (v0 v1 v2 v3 v4 v5 : Value) :
    Bel a ((((((b.setCell ⟨k, 0, none⟩ v0).setCell ⟨k, 1, none⟩ v1).setCell ⟨k, 2, none⟩ v2).setCell ⟨k, 3, none⟩ v3).setCell ⟨k, 4, none⟩ v4).setCell ⟨k, 5, none⟩ v5) :=
  (((((h.set (p := ⟨k, 0, none⟩) hk v0).set (p := ⟨k, 1, none⟩) hk v1).set (p := ⟨k, 2, none⟩) hk v2).set (p := ⟨k, 3, none⟩) hk v3).set (p := ⟨k, 4, none⟩) hk v4).set (p := ⟨k, 5, none⟩) hk v5
/-- Six cells, all written anew. -/
theorem at_set6 {b : World} {k : Nat} {a0 a1 a2 a3 a4 a5 : Value} {t : TypeId} (h : b.heap[k]? = some (.cells #[a0, a1, a2, a3, a4, a5] t)) (v0 v1 v2 v3 v4 v5 : Value) :
    ((((((b.setCell ⟨k, 0, none⟩ v0).setCell ⟨k, 1, none⟩ v1).setCell ⟨k, 2, none⟩ v2).setCell ⟨k, 3, none⟩ v3).setCell ⟨k, 4, none⟩ v4).setCell ⟨k, 5, none⟩ v5).heap[k]? = some (.cells #[v0, v1, v2, v3, v4, v5] t) := by
  simp [World.setCell, Array.getElem?_modify, h]
theorem cell_at {w : World} {k : Nat} {v : Value} {t : TypeId} (h : w.heap[k]? = some (.cells #[v] t)) : w.cell? ⟨k, 0, none⟩ = some v := by simp [World.cell?, h]
theorem free_at {w : World} {k : Nat} {v : Value} {t : TypeId} (h : w.heap[k]? = some (.cells #[v] t)) : w.frozen? ⟨k, 0, none⟩ = false := by simp [World.frozen?, h]
theorem cellk {w : World} {b : Nat} {cs : Array Value} {t : TypeId} (h : w.heap[b]? = some (.cells cs t)) (i : Nat) (v : Value) (hv : cs[i]? = some v) : w.cell? ⟨b, i, none⟩ = some v := by simp [World.cell?, h, hv]
theorem freek {w : World} {b : Nat} {cs : Array Value} {t : TypeId} (h : w.heap[b]? = some (.cells cs t)) (i : Nat) : w.frozen? ⟨b, i, none⟩ = false := by simp [World.frozen?, h]
theorem set_at {w : World} {k : Nat} {v : Value} {t : TypeId} (h : w.heap[k]? = some (.cells #[v] t)) (u : Value) : (w.setCell ⟨k, 0, none⟩ u).heap[k]? = some (.cells #[u] t) := by
  simp [World.setCell, Array.getElem?_modify, h]
theorem set_other {w : World} {k j : Nat} {o : Obj} (h : w.heap[k]? = some o) (hne : k ≠ j) (off : Nat) (u : Value) : (w.setCell ⟨j, off, none⟩ u).heap[k]? = some o :=
  (Below.heap_setCell w ⟨j, off, none⟩ u k hne).trans h
theorem new_at (w : World) (o : Obj) : (w.alloc o).heap[w.heap.size]? = some o := heap_alloc_new w o
theorem old_at {w : World} {k : Nat} {o : Obj} (h : w.heap[k]? = some o) (x : Obj) : (w.alloc x).heap[k]? = some o :=
  (Below.heap_alloc _ _ _ (Array.getElem?_eq_some_iff.1 h).1).trans h

/-- The slice v has n elements of m cells each, and these hold cs. -/
def Sl (w : World) (v : Value) (m n : Nat) (cs : List Value) : Prop :=
  cs.length = n * m ∧ ∃ a cap, v = .slice a n cap ∧ n ≤ cap ∧ cap ≤ maxLen ∧ ∀ i, i < n * m → ∃ b off, a = some ⟨b, off, none⟩ ∧ w.cell? ⟨b, off + i, none⟩ = some (cs.getD i undef)

theorem Sl.bel {w w' : World} {v : Value} {m n : Nat} {cs : List Value} (h : Sl w v m n cs) (hb : Bel w w') : Sl w' v m n cs := by
  obtain ⟨hl, a, cap, hv, h1, h2, hc⟩ := h
  refine ⟨hl, a, cap, hv, h1, h2, fun i hi => ?_⟩
  obtain ⟨b, off, ha, hcell⟩ := hc i hi
  exact ⟨b, off, ha, hb.cell hcell⟩
theorem Sl.nil (w : World) (m : Nat) : Sl w (.slice none 0 0) m 0 [] := ⟨by simp, none, 0, rfl, Nat.le_refl _, Nat.zero_le _, fun i hi => by simp at hi⟩
theorem Sl.own {w : World} {B e m : Nat} {v : Value} {n : Nat} {xs : List Value} (h : w.ownsRow B e m v n xs) : Sl w v m n xs := by
  refine ⟨h.1, ?_⟩
  have hh := h
  rcases h.2 with ⟨rfl, rfl⟩ | ⟨g, cap, cur, rfl, _, hg, h1, h2, _⟩
  · exact ⟨none, 0, rfl, Nat.le_refl _, Nat.zero_le _, fun i hi => by simp at hi⟩
  · refine ⟨_, cap, rfl, h1, h2, fun i hi => ⟨g, 0, rfl, ?_⟩⟩
    have := hh.cells (g := g) rfl i (xs.getD i undef) (by rw [List.getD_eq_getElem?_getD, List.getElem?_eq_getElem (by rw [h.1]; exact hi)]; rfl)
    have e : (⟨g, 0, none⟩ : Addr).add i = ⟨g, 0 + i, none⟩ := by unfold Addr.add; split <;> simp_all
    rw [e] at this
    exact this

/-- The block that a slice lies in. -/
def inBlock (v : Value) (b : Nat) : Prop := ∃ off n cap, v = .slice (some ⟨b, off, none⟩) n cap

theorem Sl.kept {w W : World} {v : Value} {m n : Nat} {cs : List Value} (h : Sl w v m n cs) (hk : ∀ b, inBlock v b → 0 < n * m → b < w.heap.size → W.heap[b]? = w.heap[b]?) : Sl W v m n cs := by
  obtain ⟨hl, a, cap, hv, h1, h2, hc⟩ := h
  refine ⟨hl, a, cap, hv, h1, h2, fun i hi => ?_⟩
  obtain ⟨b, off, ha, hcell⟩ := hc i hi
  refine ⟨b, off, ha, ?_⟩
  rw [← hcell]
  exact World.cell?_of_block (hk b ⟨off, n, cap, by rw [hv, ha]⟩ (by omega) (World.block_lt_of_cell? w ⟨b, off + i, none⟩ hcell))

theorem Bel.grow {a b : World} (h : Bel a b) (row : Option Nat) : a.grownBy b row := ⟨h.os, h.tape, h.output, h.size, fun k hk _ => h.block k hk⟩

/-- A slice that holds something lies in a block that there is. -/
theorem Sl.block {w : World} {v : Value} {m n : Nat} {cs : List Value} (h : Sl w v m n cs) (b : Nat) (hb : inBlock v b) (h0 : 0 < n * m) : b < w.heap.size := by
  obtain ⟨hl, a, cap, hv, h1, h2, hc⟩ := h
  obtain ⟨b', off, ha, hcell⟩ := hc 0 h0
  obtain ⟨o, n', c', he⟩ := hb
  rw [hv, ha] at he
  cases he
  exact World.block_lt_of_cell? w _ hcell
end Go.Wd
