/- What the last grant changes; appending to a slice in a drawn region. No condition. -/
import Derived.Test.YtljeeehimcdmbaaGreatDoorMGreatDoorAc5
import Derived.Deep.RegionHeld3
import Derived.Laws.OwnMore
namespace Go.Proofs.YtljeeehimcdmbaaGreatDoor
open Go.RowKit Go.Wd Go.Dir Go.Shelf

theorem sgs_of : ∀ gs : List Grant, (∀ g ∈ gs, g.below.size ≤ 1000000) → ∃ sl, sgs sl = gs
  | [], _ => ⟨[], rfl⟩
  | g :: gs, h => by
    obtain ⟨sl, e⟩ := sgs_of gs (fun x hx => h x (List.mem_cons_of_mem _ hx))
    exact ⟨⟨g, h g List.mem_cons_self⟩ :: sl, by show g :: sgs sl = _; rw [e]⟩

theorem bk_app (sl : List SG) (x : SG) : ∀ k, k ≤ sl.length → bk (sl ++ [x]) k = bk sl k
  | 0, _ => rfl
  | k + 1, h => by
    show (k, (sl ++ [x]).getD k SG.none) :: bk (sl ++ [x]) k = (k, sl.getD k SG.none) :: bk sl k
    rw [bk_app sl x k (by omega), List.getD_eq_getElem?_getD, List.getElem?_append_left (by omega), ← List.getD_eq_getElem?_getD]
theorem bk_last (sl : List SG) (x : SG) : bk (sl ++ [x]) (sl ++ [x]).length = (sl.length, x) :: bk sl sl.length := by
  rw [List.length_append, List.length_singleton]
  show (sl.length, (sl ++ [x]).getD sl.length SG.none) :: bk (sl ++ [x]) sl.length = _
  rw [bk_app sl x _ (Nat.le_refl _), List.getD_eq_getElem?_getD, List.getElem?_append_right (Nat.le_refl _), Nat.sub_self]
  rfl

theorem last_law (l : List Attr) (sl : List SG) (x : SG) (who key attr : ByteArray) (kind : Int) :
    allowedA l (sl ++ [x]) who key attr kind = if fits31 l who key attr kind x.g then !x.g.deny else allowedA l sl who key attr kind := by
  rw [fits31_eq]
  unfold allowedA
  rw [bk_last, List.find?_cons]
  cases oneKind kind
  · rfl
  · simp only [Bool.true_and]
    cases fitsG l who key attr kind x.g <;> rfl
theorem none_law (l : List Attr) (who key attr : ByteArray) (kind : Int) : allowedA l [] who key attr kind = false := by
  unfold allowedA
  cases oneKind kind <;> rfl

theorem grant_one : ∀ gs : List Grant, ∀ u ∈ grantCells gs, u.oneCell' = true
  | [], u, h => by cases h
  | g :: gs, u, h => by
    rcases List.mem_append.1 (show u ∈ g.cells ++ grantCells gs from h) with h | h
    · simp only [Grant.cells, List.mem_cons, List.mem_nil_iff, or_false] at h
      rcases h with rfl | rfl | rfl | rfl | rfl | rfl | rfl <;> rfl
    · exact grant_one gs u h
theorem grantCells_app (a b : List Grant) : grantCells (a ++ b) = grantCells a ++ grantCells b := by unfold grantCells; rw [List.flatMap_append]

theorem info52 : (Tryz.prog.info? 52).map (fun i => (i.zero, i.size, i.bytes)) = some (some (.agg #[.string ⟨#[]⟩, .string ⟨#[]⟩, .string ⟨#[]⟩, .bool false, .bool false, .int .i64 0, .bool false]), 7, 72) := by kernel_rfl

theorem own0 {w : World} {base g : Nat} (h : w.heap[g]? = some (.cells #[] 52)) (hb : base ≤ g) : w.ownsRow base 52 7 (.slice (some ⟨g, 0, none⟩) 0 0) 0 [] :=
  ⟨rfl, .inr ⟨g, 0, #[], rfl, hb, h, Nat.le_refl _, Nat.zero_le _, rfl, rfl⟩⟩
theorem sl_one {w : World} {b : Nat} (g : Grant) (h : w.heap[b]? = some (.cells #[.string g.who, .string g.below, .string g.attr, .bool g.all, .bool g.self, .int .i64 g.kinds, .bool g.deny] 52)) :
    Sl w (.slice (some ⟨b, 0, none⟩) 1 1) 7 1 (grantCells [g]) := by
  refine ⟨rfl, some ⟨b, 0, none⟩, 1, rfl, Nat.le_refl _, by decide, fun i hi => ⟨b, 0, rfl, ?_⟩⟩
  rw [Nat.zero_add]
  match i, hi with
  | 0, _ => exact cellk h 0 _ rfl
  | 1, _ => exact cellk h 1 _ rfl
  | 2, _ => exact cellk h 2 _ rfl
  | 3, _ => exact cellk h 3 _ rfl
  | 4, _ => exact cellk h 4 _ rfl
  | 5, _ => exact cellk h 5 _ rfl
  | 6, _ => exact cellk h 6 _ rfl

/-- Appending grants to a slice of one's own. -/
theorem app_run (W0 w : World) (ty : TypeId) (v u : Value) (n m : Nat) (xs ys : List Value) (hb : Bel W0 w) (hown : w.ownsRow W0.heap.size 52 7 v n xs) (hu : Sl w u 7 m ys) (h1 : ∀ y ∈ ys, y.oneCell' = true) (hn : n + m ≤ 1000000) :
    ∃ v' w', (Builtin.append_ #[26, 26] ty #[v, u]).run Tryz.prog w = .ok v' w' ∧ w'.ownsRow W0.heap.size 52 7 v' (n + m) (xs ++ ys) ∧ w.grownBy w' v.ownBlock ∧ Bel W0 w' := by
  obtain ⟨i, hi, hz0, hz1, hz2⟩ := info_parts info52
  obtain ⟨hl, a, cap, rfl, hc1, hc2, hc⟩ := hu
  have hrow : ∀ k, v.ownBlock = some k → W0.heap.size ≤ k := fun k e => (hown.lt k e).1
  cases a with
  | none =>
    obtain rfl : m = 0 := by
      rcases Nat.eq_zero_or_pos m with h | h
      · exact h
      · obtain ⟨b, off, e, _⟩ := hc 0 (by omega)
        cases e
    obtain rfl : ys = [] := List.eq_nil_of_length_eq_zero (by omega)
    refine ⟨v, w, ?_, by simpa using hown, ⟨rfl, rfl, rfl, Nat.le_refl _, fun _ _ _ => rfl⟩, hb⟩
    rcases hown.2 with ⟨rfl, rfl⟩ | ⟨g, cap', cur, rfl, _, _, hnc, _⟩
    · simp [Builtin.append_, run_underlying Tryz.underlying26, sizeOf, typeInfo, hi, Builtin.lenOf, Builtin.firstCells]
    · simp [Builtin.append_, run_underlying Tryz.underlying26, sizeOf, typeInfo, hi, Builtin.lenOf, Builtin.firstCells, hnc, storeCells]
  | some ad =>
    have hnews : ∀ j u, ys[j]? = some u → w.cell? (ad.add j) = some u := by
      intro j u hj
      have hj' : j < m * 7 := by rw [← hl]; exact (List.getElem?_eq_some_iff.1 hj).1
      obtain ⟨b, off, e, hcell⟩ := hc j hj'
      cases e
      have e : (⟨b, off, none⟩ : Addr).add j = ⟨b, off + j, none⟩ := by unfold Addr.add; split <;> simp_all
      rw [e, hcell, List.getD_eq_getElem?_getD, hj]; rfl
    obtain ⟨v', w', hr, h2, h3, h4⟩ := run_append_own (P := Tryz.prog) w W0.heap.size 26 ty 52 i _ 7 72 Tryz.underlying26 hi hz0 hz1 hz2 rfl (by omega) v n xs hown ad m cap ys hl hnews h1 (by simp only [maxLen]; omega) (by omega) hb.size
    exact ⟨v', w', hr, h2, h3, hb.grown h3 hrow⟩

theorem step_app {ops : Array Oper} {o : Oper} {a : Act} {K : Act → World → Prop} {Q : Exit → Act → World → Prop} {E : Prop} {w : World} (W0 : World) (hgd : o.guard = none) (s x : Operand)
    (ho : o.op = .call { callee := .builtin .append, args := #[s, x], argTypes := #[26, 26] }) (v u : Value) (n m : Nat) (xs ys : List Value) (hs : a.eval s = v) (hx : a.eval x = u)
    (hb : Bel W0 w) (hown : w.ownsRow W0.heap.size 52 7 v n xs) (hu : Sl w u 7 m ys) (h1 : ∀ y ∈ ys, y.oneCell' = true) (hn : n + m ≤ 1000000)
    (h : ∀ v' w', w'.ownsRow W0.heap.size 52 7 v' (n + m) (xs ++ ys) → w.grownBy w' v.ownBlock → Bel W0 w' → K (a.put o.dst v') w') :
    if Region.wanted o (yielded ops a.tmps) = true then Oper.wp Tryz.prog o a w K Q else E := by
  have hw : Region.wanted o (yielded ops a.tmps) = true := by simp [Region.wanted, hgd]
  rw [if_pos hw]
  obtain ⟨v', w', hr, h2, h3, h4⟩ := app_run W0 w o.type v u n m xs ys hb hown hu h1 hn
  unfold Oper.wp execOp
  simp only [ho, resolve, invoke, builtin, Sem.run_bind, Sem.run_pure, Result.andThen_ok, List.map_toArray, List.map_cons, List.map_nil, hs, hx, hr]
  exact h v' w' h2 h3 h4
end Go.Proofs.YtljeeehimcdmbaaGreatDoor
