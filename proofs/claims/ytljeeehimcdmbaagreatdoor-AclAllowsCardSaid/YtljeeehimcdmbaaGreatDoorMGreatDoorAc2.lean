/- The walks of slices.Backward over grants and of its iterator. No condition. -/
import Derived.Test.YtljeeehimcdmbaaGreatDoorMGreatDoorAc1
namespace Go.Proofs.YtljeeehimcdmbaaGreatDoor
open Go.RowKit Go.Wd Go.Dir Go.Shelf
attribute [local go_sem] Oper.semAt_some

def gval (g : Grant) : Value := .agg #[.string g.who, .string g.below, .string g.attr, .bool g.all, .bool g.self, .int .i64 g.kinds, .bool g.deny]

/-- Element i of a slice of grants. -/
theorem grant_at {w : World} {v : Value} {l : List Grant} (h : Sl w v 7 l.length (grantCells l)) (i : Nat) (hi : i < l.length) :
    ∃ b off cap, v = .slice (some ⟨b, off, none⟩) l.length cap ∧ w.cell? ⟨b, off + i * 7, none⟩ = some (.string (l.getD i Grant.none).who) ∧
      w.cell? ⟨b, off + i * 7 + 1, none⟩ = some (.string (l.getD i Grant.none).below) ∧ w.cell? ⟨b, off + i * 7 + 2, none⟩ = some (.string (l.getD i Grant.none).attr) ∧
      w.cell? ⟨b, off + i * 7 + 3, none⟩ = some (.bool (l.getD i Grant.none).all) ∧ w.cell? ⟨b, off + i * 7 + 4, none⟩ = some (.bool (l.getD i Grant.none).self) ∧
      w.cell? ⟨b, off + i * 7 + 5, none⟩ = some (.int .i64 (l.getD i Grant.none).kinds) ∧ w.cell? ⟨b, off + i * 7 + 6, none⟩ = some (.bool (l.getD i Grant.none).deny) := by
  obtain ⟨hl, a, cap, rfl, h1, h2, hc⟩ := h
  obtain ⟨b, off, rfl, _⟩ := hc (i * 7) (by omega)
  have e : ∀ (l : List Grant) (i k : Nat), i < l.length → k < 7 → (grantCells l).getD (i * 7 + k) undef = (l.getD i Grant.none).cells.getD k undef := by
    intro l
    induction l with
    | nil => intro i k hi; simp at hi
    | cons x r ih =>
      intro i k hi hk
      cases i with
      | zero =>
        show (x.cells ++ grantCells r).getD _ _ = x.cells.getD k undef
        rw [List.getD_eq_getElem?_getD, List.getD_eq_getElem?_getD, List.getElem?_append_left (by simp [Grant.cells]; omega)]
        simp
      | succ i =>
        show (x.cells ++ grantCells r).getD _ _ = (r.getD i Grant.none).cells.getD k undef
        rw [List.getD_eq_getElem?_getD, List.getElem?_append_right (by simp [Grant.cells]; omega), ← List.getD_eq_getElem?_getD]
        have : (i + 1) * 7 + k - x.cells.length = i * 7 + k := by simp [Grant.cells]; omega
        rw [this]
        exact ih i k (by simpa using hi) hk
  have g : ∀ k, k < 7 → w.cell? ⟨b, off + (i * 7 + k), none⟩ = some ((l.getD i Grant.none).cells.getD k undef) := by
    intro k hk
    obtain ⟨b', off', e1, e2⟩ := hc (i * 7 + k) (by omega)
    cases e1
    rw [e2, e l i k hi hk]
  simp only [← Nat.add_assoc] at g
  exact ⟨b, off, cap, rfl, g 0 (by omega), g 1 (by omega), g 2 (by omega), g 3 (by omega), g 4 (by omega), g 5 (by omega), g 6 (by omega)⟩

theorem backward_any (q : Option Addr) (m cap : Nat) (w : World) : Calls Tryz.prog 25 #[.slice q m cap] w fun e w' =>
    e = .returned (.func (.func 39) #[] #[.pointer (some ⟨w.heap.size, 0, none⟩)]) ∧ w' = w.alloc (.cells #[.slice q m cap] 26) := by
  go_enter Tryz.func25, Tryz.ntmps25
  go_wp2
  go_ret
  exact ⟨rfl, rfl⟩

/-- A grant whose key is no longer than keys may be here. -/
structure SG where
  g : Grant
  h : g.below.size ≤ 1000000
def SG.none : SG := ⟨Grant.none, by decide⟩
def sgs (l : List SG) : List Grant := l.map SG.g
theorem sgs_len (l : List SG) : (sgs l).length = l.length := List.length_map _
theorem sgs_at (l : List SG) (i : Nat) (hi : i < l.length) : (sgs l).getD i Grant.none = (l.getD i SG.none).g := by
  unfold sgs
  rw [List.getD_eq_getElem?_getD, List.getD_eq_getElem?_getD, List.getElem?_map, List.getElem?_eq_getElem hi]; rfl

/-- Grants, the last first, with their places: those at places below k. -/
def bk (l : List SG) : Nat → List (Nat × SG)
  | 0 => []
  | k + 1 => (k, l.getD k SG.none) :: bk l k

set_option maxRecDepth 100000 in
set_option maxHeartbeats 1000000 in
theorem backward_seq (n kl : Nat) (hn : 1 ≤ n) (l : List SG) (v : Value) (hl : l.length < 1000000) (w : World)
    (h1 : w.heap[kl]? = some (.cells #[v] 26)) (hs : Sl w v 7 l.length (grantCells (sgs l))) :
    SeqStopsK Fence.wide n Tryz.prog 39 #[.pointer (some ⟨kl, 0, none⟩)] (fun x : Nat × SG => #[.int .i64 x.1, gval x.2.g]) (fun A B => Below w.heap.size A B) (fun xs => xs = bk l l.length) (fun pre => pre <+: bk l l.length) (l.length + 1) w := by
  intro lo J Jx W hW hJ hJx hY h0
  have lkl : kl < w.heap.size := (Array.getElem?_eq_some_iff.1 h1).1
  have hW1 := (hW.block kl lkl).trans h1
  have hsW : Sl W v 7 l.length (grantCells (sgs l)) := hs.bel hW
  obtain ⟨q, cap, rfl⟩ : ∃ q cap, v = .slice q l.length cap := by obtain ⟨_, q, cap, h, _⟩ := hs; exact ⟨q, cap, h⟩
  have c1 := cell_at hW1
  refine callsIn_of_wp Tryz.func39 rfl trivial ?_ rfl
  simp only [Tryz.ntmps39, List.size_toArray, List.length_cons, List.length_nil, Nat.reduceAdd, Nat.reduceSub, Array.replicate_succ, Array.replicate_zero, List.push_toArray, List.append_toArray, List.nil_append, List.cons_append]
  gi_wp2
  gi_loopw [3] (fun i wr => ∃ (k : Nat) (pre : List (Nat × SG)), i = .int .i64 ((k : Int) - 1) ∧ k ≤ l.length ∧ Below w.heap.size W wr ∧ J pre wr ∧ pre ++ bk l k = bk l l.length ∧ pre.length + k = l.length)
    (fun i wr => (intOf i + 1).toNat)
  case atStart => exact ⟨l.length, [], by go_num, Nat.le_refl _, Below.refl _ _, h0, rfl, by simp⟩
  case round =>
    obtain ⟨k, pre, rfl, hk, hbel, hJs, hbk, hpl⟩ := hrel
    have hbl := (hbel.block kl lkl).trans hW1
    have c1 := cell_at hbl
    cases k with
    | zero =>
      have Hbk := Lib.hid hbk
      have hlt : ((0 : Nat) : Int) - 1 < 0 := by omega
      clear hbk hbl hsW hW1 h1 hs hbel
      gi_wp2
      go_end0
      refine ⟨⟨_, rfl⟩, .inl ⟨pre, ?_, hJs⟩⟩
      have := Hbk.out
      simpa [bk] using this
    | succ j =>
      have hsr : Sl wr (.slice q l.length cap) 7 l.length (grantCells (sgs l)) := hsW.kept fun b hb hp hlt' => by
        have := hs.block b hb hp
        exact hbel.block b this
      obtain ⟨b, off, cap', e, g0, g1, g2, g3, g4, g5, g6⟩ := grant_at (by rw [sgs_len]; exact hsr) j (by rw [sgs_len]; omega)
      rw [sgs_len] at e
      cases e
      rw [sgs_at l j (by omega)] at g0 g1 g2 g3 g4 g5 g6
      have Hbk := Lib.hid hbk
      have e1 : ((j + 1 : Nat) : Int) - 1 = (j : Int) := by omega
      rw [e1]
      have Hpl : Hid (pre.length < l.length + 1) := Lib.hid (by omega)
      have Hbel := Lib.hid hbel
      obtain ⟨g, hg⟩ : ∃ g, g = l.getD j SG.none := ⟨_, rfl⟩
      rw [← hg] at g0 g1 g2 g3 g4 g5 g6
      have Hg := Lib.hid hg
      have hjl : j < l.length := by omega
      clear hbk hbl hsr hsW hW1 h1 hs hbel e1 hg
      obtain ⟨fn, tmps, assign, body, hy, hR⟩ := hY pre (j, g) wr hJs Hpl.out
      dsimp only [gval] at hy
      gi_wp2
      refine hR.mono ?_
      rintro e W3 (⟨rfl, hJ3, hk3⟩ | ⟨rfl, hJx3⟩)
      · gi_wp2
        go_roundw
        case rel => exact ⟨j, pre ++ [(j, g)], by first | rfl | go_num, by omega, Below.trans Hbel.out hk3, hJ3, by rw [← Hbk.out, bk, ← Hg.out]; simp, by simp; omega⟩
        case measure => simp [intOf]
      · gi_wp2
        refine bodyPost_ret (results_none rfl _ _ _) rfl ?_
        exact ⟨⟨_, rfl⟩, .inr ⟨pre ++ [(j, g)], ⟨bk l j, by rw [← Hbk.out, bk, ← Hg.out]; simp⟩, hJx3⟩⟩
end Go.Proofs.YtljeeehimcdmbaaGreatDoor
