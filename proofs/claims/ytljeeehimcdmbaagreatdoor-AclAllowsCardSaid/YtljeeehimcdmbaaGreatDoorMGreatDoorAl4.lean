/- The walk of toponymref20.Check. No condition. -/
import Derived.Test.YtljeeehimcdmbaaGreatDoorMGreatDoorAl3
import Derived.Shelf.SlSortCmp.QuietGrown
import Derived.Laws.Cells
import Derived.Shelf.SlicesQ.Load
namespace Go.Proofs.YtljeeehimcdmbaaGreatDoor
open Go.RowKit Go.Wd Go.Dir Go.Shelf Go.Sort
open Go.Op (bytesLess)

theorem grow_bel (w : World) (n : Nat) (os : Array Obj) : Bel w (grow (w.drewN n) os) := by
  refine ⟨rfl, rfl, rfl, ?_, fun k hk => ?_⟩
  · show w.heap.size ≤ (w.heap ++ os).size
    rw [Array.size_append]; omega
  · show (w.heap ++ os)[k]? = w.heap[k]?
    rw [Array.getElem?_append_left hk]
theorem bel_grow {a b : World} (h : Bel a b) (hd : a.drawn ≤ b.drawn) : ∃ q os, b = grow (a.drewN q) os := by
  refine ⟨b.drawn - a.drawn, b.heap.extract a.heap.size b.heap.size, ?_⟩
  have e1 : b.heap = a.heap ++ b.heap.extract a.heap.size b.heap.size := by
    have hs := h.size
    have : b.heap.extract 0 a.heap.size = a.heap := by
      apply Array.ext_getElem?
      intro i
      by_cases hi : i < a.heap.size
      · rw [Array.getElem?_extract_of_lt (by omega), ← h.block i hi, Array.getElem?_eq_getElem (by omega)]
        simp only [Nat.zero_add]
      · rw [Array.getElem?_eq_none (by simp; omega), Array.getElem?_eq_none (by omega)]
    calc b.heap = b.heap.extract 0 a.heap.size ++ b.heap.extract a.heap.size b.heap.size := by
          rw [Array.extract_append_extract]; simp [Nat.max_eq_right hs]
      _ = _ := by rw [this]
  have e2 : b.drawn = a.drawn + (b.drawn - a.drawn) := by omega
  obtain ⟨h1, h2, h3, h4, h5⟩ := b
  obtain ⟨g1, g2, g3, g4, g5⟩ := a
  have a1 := h.os
  have a2 := h.tape
  have a3 := h.output
  simp only at a1 a2 a3 e1 e2
  subst a1 a2 a3
  show World.mk h1 _ h3 _ _ = World.mk (g1 ++ _) _ (g3 + _) _ _
  rw [← e1, ← e2]
  rfl
theorem one_grown (l : List Attr) (v : Value) (a : Attr) (w : World) (hs : Sl w v 6 l.length (attrCells l)) (hl : l.length < 1000000) (ha : shortA a) (n : Nat) (os : Array Obj) :
    Calls Tryz.prog 98 #[v, a.val] (grow (w.drewN n) os) fun e w' => e = .returned (.bool (oneR l a)) ∧ ∃ p : GrownBy, w' = grow (w.drewN p.n) p.os :=
  Calls.grown_of ((one20_any l v a _ (hs.bel (grow_bel w n os)) hl ha).mono fun _ _ ⟨he, hb, hd⟩ => ⟨he, bel_grow hb hd⟩)
theorem attr_ld {w : World} {b off : Nat} {c : Attr} (c0 : w.cell? ⟨b, off, none⟩ = some (.string c.name)) (c1 : w.cell? ⟨b, off + 1, none⟩ = some (.string c.above)) (c2 : w.cell? ⟨b, off + 2, none⟩ = some (.int .i64 c.syn))
    (c3 : w.cell? ⟨b, off + 3, none⟩ = some (.int .i64 c.rule)) (c4 : w.cell? ⟨b, off + 4, none⟩ = some (.bool c.single)) (c5 : w.cell? ⟨b, off + 5, none⟩ = some (.bool c.closed)) (P : Program) (n : Nat) (os : Array Obj) :
    Sem.run P (loadCellsFrom ⟨b, off, none⟩ 0 6 #[]) (grow (w.drewN n) os) = .ok #[.string c.name, .string c.above, .int .i64 c.syn, .int .i64 c.rule, .bool c.single, .bool c.closed] (grow (w.drewN n) os) := by
  have hb : b < w.heap.size := World.block_lt_of_cell? w _ c0
  refine run_loadCellsFrom_list P _ _ [.string c.name, .string c.above, .int .i64 c.syn, .int .i64 c.rule, .bool c.single, .bool c.closed] 6 rfl ?_
  intro j v hv
  have e : (⟨b, off, none⟩ : Addr).add j = ⟨b, off + j, none⟩ := by unfold Addr.add; split <;> simp_all
  rw [e]
  match j, hv with
  | 0, hv => cases hv; exact cell_grown hb c0 n os
  | 1, hv => cases hv; exact cell_grown hb c1 n os
  | 2, hv => cases hv; exact cell_grown hb c2 n os
  | 3, hv => cases hv; exact cell_grown hb c3 n os
  | 4, hv => cases hv; exact cell_grown hb c4 n os
  | 5, hv => cases hv; exact cell_grown hb c5 n os
  | j + 6, hv => simp at hv

set_option maxRecDepth 100000 in
set_option maxHeartbeats 1000000 in
theorem check20_any (l : List Attr) (v : Value) (w : World) (hs : Sl w v 6 l.length (attrCells l)) (hl : l.length < 1000000) (ha : ∀ a ∈ l, shortA a) :
    Calls Tryz.prog 73 #[v] w fun e w' => e = .returned (.int .i64 (if checkR l then 0 else 190)) ∧ Bel w w' := by
  have hm : Tryz.prog.follows .mixedOrders = true := by kernel_rfl
  have HO := fun (a : Attr) (h : a ∈ l) w' (hb : Bel w w') n os => one_grown l v a w' (hs.bel hb) hl (ha a h) n os
  obtain ⟨q, cap, rfl⟩ : ∃ q cap, v = .slice q l.length cap := by obtain ⟨_, q, cap, h, _⟩ := hs; exact ⟨q, cap, h⟩
  have Hs := Lib.hid hs
  have HO := Lib.hid HO
  clear hs
  obtain ⟨r, hr⟩ : ∃ r : Int, r = if checkR l then 0 else 190 := ⟨_, rfl⟩
  rw [← hr]
  have Hr := Lib.hid hr
  clear hr ha
  go_enter Tryz.func73, Tryz.ntmps73
  by_cases h0 : 24 < (l.length : Int)
  case pos =>
    obtain rfl : r = 190 := by rw [Hr.out, checkR_long l (by omega)]; rfl
    clear HO Hs Hr
    generalize l.length = n at *
    go_wp2
    go_ret
    exact ⟨rfl, Bel.refl _⟩
  go_wp2
  go_loopw [3] (fun i wr => ∃ k : Nat, k ≤ l.length ∧ i = .int .i64 k ∧ (∀ j, j < k → stepR l j = true) ∧ Bel w wr) (fun i _ => l.length - (intOf i).toNat)
  case atStart => exact ⟨0, Nat.zero_le _, rfl, fun j h => by omega, Bel.refl _⟩
  case round =>
    obtain ⟨k, hk, rfl, hall, hb⟩ := hrel
    have Hall := Lib.hid hall
    clear hall
    by_cases hlt : k < l.length
    · have HN := Lib.hid fun h => checkR_no l k hlt h
      obtain ⟨bb, off, cap', e, c0, c1, c2, c3, c4, c5⟩ := attr_at (Hs.out.bel hb) k hlt
      cases e
      have H1 := HO.out (l.getD k Attr.none) (getD_mem l k Attr.none hlt) wr hb
      have hp : 0 < k → wr.cell? ⟨bb, off + (k - 1) * 6, none⟩ = some (.string (l.getD (k - 1) Attr.none).name) := fun h => by
        obtain ⟨b2, off2, cap2, e2, d0, _⟩ := attr_at (Hs.out.bel hb) (k - 1) (by omega)
        cases e2
        exact d0
      have hbb : bb < wr.heap.size := World.block_lt_of_cell? wr _ c0
      have k0 := cell_grown hbb c0
      have k1 := cell_grown (a := ⟨bb, off + k * 6 + 1, none⟩) hbb c1
      have k2 := cell_grown (a := ⟨bb, off + k * 6 + 2, none⟩) hbb c2
      have k3 := cell_grown (a := ⟨bb, off + k * 6 + 3, none⟩) hbb c3
      have k4 := cell_grown (a := ⟨bb, off + k * 6 + 4, none⟩) hbb c4
      have k5 := cell_grown (a := ⟨bb, off + k * 6 + 5, none⟩) hbb c5
      have kp := fun h => cell_grown (a := ⟨bb, off + (k - 1) * 6, none⟩) hbb (hp h)
      unfold Attr.val at H1
      obtain ⟨st, hst⟩ : ∃ st, st = stepR l k := ⟨_, rfl⟩
      rw [← hst] at HN
      have Hst := Lib.hid hst
      have Hst2 := Lib.hid (show st = true → stepR l k = true from fun h => by rw [← hst]; exact h)
      clear hst c0 c1 c2 c3 c4 c5 hp
      unfold stepR at Hst
      obtain ⟨c, hc⟩ : ∃ c, c = l.getD k Attr.none := ⟨_, rfl⟩
      rw [← hc] at k0 k1 k2 k3 k4 k5 H1 Hst
      clear hc
      have i0 : (0 : Int) ≤ (k : Int) := Int.natCast_nonneg _
      have i1 : (k : Int) < (l.length : Int) := by omega
      have Hb := Lib.hid hb
      clear hb HO Hs
      go_upto_region 6 with fail
      cases ho : oneR l c with
      | false =>
        rw [ho] at H1
        obtain rfl : st = false := by rw [Hst.out, ho]; rfl
        obtain rfl : r = 190 := by rw [Hr.out, HN.out rfl]; rfl
        clear HN Hst Hall ho Hr kp
        refine wp_region_quiet_grown (by assumption) (by kernel_rfl) ?_
        repeat (go_big_quiet_step (exact H1 _ _))
        refine wpQuiet_nil ?_
        intro _ hw'
        obtain ⟨⟨nq, osq⟩, hw''⟩ := hw'
        subst hw''
        have HG := Lib.hid (Hb.out.trans (grow_bel wr nq osq))
        clear k0 k1 k2 k3 k4 k5 H1
        generalize grow (wr.drewN nq) osq = W2 at HG ⊢
        clear nq osq Hb
        go_wp2
        go_ret
        exact ⟨rfl, HG.out⟩
      | true =>
        rw [ho] at H1
        by_cases h00 : 0 < (k : Int)
        · obtain ⟨j, rfl⟩ : ∃ j, k = j + 1 := ⟨k - 1, by omega⟩
          have kp := kp (by omega)
          rw [Nat.add_sub_cancel] at kp Hst
          have g1 : decide (0 < ((j + 1 : Nat) : Int)) = true := decide_eq_true h00
          have ej : ((j + 1 : Nat) : Int) - 1 = (j : Int) := by omega
          have j0 : (0 : Int) ≤ (j : Int) := Int.natCast_nonneg _
          have j1 : (j : Int) < (l.length : Int) := by omega
          generalize l.getD j Attr.none = p at *
          refine wp_region_quiet_grown (by assumption) (by kernel_rfl) ?_
          repeat (go_big_quiet_step (exact H1 _ _))
          refine wpQuiet_nil ?_
          intro _ hw'
          obtain ⟨⟨nq, osq⟩, hw''⟩ := hw'
          subst hw''
          have HG := Lib.hid (Hb.out.trans (grow_bel wr nq osq))
          clear k0 k1 k2 k3 k4 k5 H1 kp
          generalize grow (wr.drewN nq) osq = W2 at HG ⊢
          clear nq osq Hb
          have hst := Hst.out
          rw [ho, decide_eq_false (show ¬ j + 1 = 0 by omega), Bool.false_or, Bool.true_and] at hst
          clear Hst ho
          cases hb : bytesLess p.name.toList c.name.toList with
          | false =>
            rw [hb] at hst
            subst hst
            obtain rfl : r = 190 := by rw [Hr.out, HN.out rfl]; rfl
            clear HN Hr Hall Hst2
            go_wp2
            go_ret
            exact ⟨rfl, HG.out⟩
          | true =>
            rw [hb] at hst
            subst hst
            clear HN
            go_wp2
            go_roundw
            case rel => exact ⟨j + 1 + 1, by omega, by go_num, fun i hi => by
              by_cases e : i = j + 1
              · subst e; exact Hst2.out rfl
              · exact Hall.out i (by omega), HG.out⟩
            case measure => simp [intOf]; omega
        · obtain rfl : st = true := by rw [Hst.out, ho, decide_eq_true (show k = 0 by omega)]; rfl
          clear HN ho kp
          have g0 : decide (0 < (k : Int)) = false := decide_eq_false h00
          have g0' : decide (0 < k) = false := decide_eq_false (by omega)
          have g0'' : (0 < k) = False := eq_false (by omega)
          have i00 : (k : Int) ≤ 0 := by omega
          refine wp_region_quiet_grown (by assumption) (by kernel_rfl) ?_
          repeat (go_big_quiet_step (exact H1 _ _))
          refine wpQuiet_nil ?_
          intro _ hw'
          obtain ⟨⟨nq, osq⟩, hw''⟩ := hw'
          subst hw''
          have HG := Lib.hid (Hb.out.trans (grow_bel wr nq osq))
          clear k0 k1 k2 k3 k4 k5 H1
          generalize grow (wr.drewN nq) osq = W2 at HG ⊢
          clear nq osq Hb
          go_wp2
          go_roundw
          case rel => exact ⟨k + 1, by omega, by go_num, fun j hj => by
            by_cases e : j = k
            · subst e; exact Hst2.out rfl
            · exact Hall.out j (by omega), HG.out⟩
          case measure => simp [intOf]; omega
    · have e : k = l.length := by omega
      subst e
      obtain rfl : r = 0 := by rw [Hr.out, checkR_of l (by omega) Hall.out]; rfl
      clear Hall HO Hs Hr
      go_wp2
      go_ret
      exact ⟨rfl, hb⟩
end Go.Proofs.YtljeeehimcdmbaaGreatDoor
