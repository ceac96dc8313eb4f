/- The walk of toponymlaw31.plain: the grants, of the document's type. No condition. -/
import Derived.Test.YtljeeehimcdmbaaGreatDoorMGreatDoorAl5
import Derived.Test.YtljeeehimcdmbaaGreatDoorMGreatDoorAc6
namespace Go.Proofs.YtljeeehimcdmbaaGreatDoor
open Go.RowKit Go.Wd Go.Dir Go.Shelf
theorem info79 : (Tryz.prog.info? 79).map (fun i => (i.zero, i.size, i.bytes)) = some (some (.agg #[.string ⟨#[]⟩, .string ⟨#[]⟩, .string ⟨#[]⟩, .bool false, .bool false, .int .i64 0, .bool false]), 7, 72) := by kernel_rfl
theorem take_snoc {α : Type} (l : List α) (d : α) (k : Nat) (h : k < l.length) : l.take (k + 1) = l.take k ++ [l.getD k d] := by
  rw [List.take_succ_eq_append_getElem h, List.getD_eq_getElem?_getD, List.getElem?_eq_getElem h]; rfl
set_option maxRecDepth 100000 in
set_option maxHeartbeats 1600000 in
theorem plain_any (gs : List Grant) (v : Value) (w : World) (hs : Sl w v 7 gs.length (grantCells gs)) (hl : gs.length ≤ 30) :
    Calls Tryz.prog 13 #[v] w fun e w' => ∃ u, e = .returned u ∧ Sl w' u 7 gs.length (grantCells gs) ∧ Bel w w' := by
  obtain ⟨q, cap, rfl⟩ : ∃ q cap, v = .slice q gs.length cap := by obtain ⟨_, q, cap, h, _⟩ := hs; exact ⟨q, cap, h⟩
  obtain ⟨i0, hi, hz0, hz1, hz2⟩ := info_parts info79
  have Hs := Lib.hid hs
  clear hs
  go_enter Tryz.func13, Tryz.ntmps13
  go_wp2
  go_loopw [3, 4] (fun o i wr => ∃ k : Nat, k ≤ gs.length ∧ i = .int .i64 k ∧ wr.ownsRow w.heap.size 79 7 o k (grantCells (gs.take k)) ∧ Bel w wr) (fun _ i _ => gs.length - (intOf i).toNat)
  case atStart => exact ⟨0, Nat.zero_le _, rfl, World.ownsRow_nil _ _ _ _, Bel.refl _⟩
  case round =>
    obtain ⟨k, hk, rfl, hown, hb⟩ := hrel
    by_cases hlt : k < gs.length
    · obtain ⟨bb, off, cap', e, c0, c1, c2, c3, c4, c5, c6⟩ := grant_at (Hs.out.bel hb) k hlt
      cases e
      have HT := Lib.hid (take_snoc gs Grant.none k hlt)
      generalize gs.getD k Grant.none = g at *
      have i0' : (0 : Int) ≤ (k : Int) := Int.natCast_nonneg _
      have i1 : (k : Int) < (gs.length : Int) := by omega
      go_wp2_with (at_builtin; refine wpList_append_own _ rfl _ _ 35 rfl w.heap.size 79 i0 _ 7 72 Tryz.underlying35 hi hz0 hz1 hz2 rfl (by decide) _ _ _ rfl (hown.alloc _) ⟨_, 0, none⟩ 1 1 [.string g.who, .string g.below, .string g.attr, .bool g.all, .bool g.self, .int .i64 g.kinds, .bool g.deny] rfl rfl ?c1 ?c2 ?c3 ?c4 ?c5 ?_)
      case c1 =>
        intro j u hj
        have e : ∀ m, (⟨wr.heap.size, 0, none⟩ : Addr).add m = ⟨wr.heap.size, m, none⟩ := fun m => by unfold Addr.add; split <;> simp_all
        rw [e]
        match j, hj with
        | 0, hj => cases hj; exact cellk (new_at wr _) 0 _ rfl
        | 1, hj => cases hj; exact cellk (new_at wr _) 1 _ rfl
        | 2, hj => cases hj; exact cellk (new_at wr _) 2 _ rfl
        | 3, hj => cases hj; exact cellk (new_at wr _) 3 _ rfl
        | 4, hj => cases hj; exact cellk (new_at wr _) 4 _ rfl
        | 5, hj => cases hj; exact cellk (new_at wr _) 5 _ rfl
        | 6, hj => cases hj; exact cellk (new_at wr _) 6 _ rfl
        | j + 7, hj => simp at hj
      case c2 =>
        intro u hu
        exact grant_one [g] u (by simpa [grantCells, Grant.cells] using hu)
      case c3 => unfold maxLen; omega
      case c4 => omega
      case c5 => have := hb.size; simp; omega
      intro v' w3 hown' hgrow _
      have hb3 : Bel w w3 := Below.grown (Below.alloc hb hb.size _) hgrow (by have := hb.size; simp; omega) (fun k hk => (hown.lt k hk).1)
      clear hown hgrow hb c0 c1 c2 c3 c4 c5 c6
      go_wp2
      go_roundw
      case rel => exact ⟨k + 1, by omega, by go_num, by rw [HT.out, grantCells_app]; exact hown', hb3⟩
      case measure => simp [intOf]; omega
    · have e : k = gs.length := by omega
      subst e
      rw [List.take_length] at hown
      have hS := Sl.own hown
      clear hown Hs
      go_wp2
      go_ret
      exact ⟨_, rfl, hS, hb⟩
end Go.Proofs.YtljeeehimcdmbaaGreatDoor
