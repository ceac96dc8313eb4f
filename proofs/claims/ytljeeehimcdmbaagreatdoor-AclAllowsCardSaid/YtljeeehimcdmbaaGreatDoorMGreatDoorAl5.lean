/- The walks of toponymref20.Line and toponymref20.Is. No condition. -/
import Derived.Test.YtljeeehimcdmbaaGreatDoorMGreatDoorAl4
import Derived.Laws.OwnMore
namespace Go.Proofs.YtljeeehimcdmbaaGreatDoor
open Go.RowKit Go.Wd Go.Dir Go.Shelf

def sliceLen : Value → Nat
  | .slice _ n _ => n
  | _ => 0
theorem own_len {w : World} {base e size n : Nat} {v : Value} {xs : List Value} (h : w.ownsRow base e size v n xs) : sliceLen v = n := by
  rcases h.2 with ⟨rfl, h2⟩ | ⟨g, cap, cur, rfl, _⟩
  · exact h2.symm
  · rfl
theorem up_none (l : List Attr) (hr : Rises l) (nm : ByteArray) (h : at? l nm = none) (k : Nat) : up l k nm = [] := by
  cases k with
  | zero => rfl
  | succ k => rw [up, find_eq l hr, h]
theorem up_some (l : List Attr) (hr : Rises l) (nm : ByteArray) (a : Attr) (h : at? l nm = some a) (k : Nat) : up l (k + 1) nm = a :: up l k a.above := by
  rw [up, find_eq l hr, h]

set_option maxRecDepth 100000 in
set_option maxHeartbeats 1600000 in
theorem line20_any (l : List Attr) (v : Value) (name : ByteArray) (w : World) (hs : Sl w v 6 l.length (attrCells l)) (hl : l.length < 1000000) (ha : ∀ a ∈ l, shortA a) :
    Calls Tryz.prog 56 #[v, .string name] w fun e w' => ∃ u, e = .returned u ∧ Sl w' u 1 (line l name).length (strCells (line l name)) ∧ Bel w w' := by
  have HC := check20_any l v w hs hl ha
  have HA := fun nm w' (h : Bel w w') => Lib.hid (at_any l v nm w' (hs.bel h) hl)
  obtain ⟨q, cap, rfl⟩ : ∃ q cap, v = .slice q l.length cap := by obtain ⟨_, q, cap, h, _⟩ := hs; exact ⟨q, cap, h⟩
  obtain ⟨i0, hi, hz0, hz1, hz2⟩ := info_parts infoS
  have Hs := Lib.hid hs
  clear hs ha
  obtain ⟨L, hL⟩ : ∃ L, L = line l name := ⟨_, rfl⟩
  rw [← hL]
  unfold line at hL
  rw [check_eq] at hL
  cases hc : checkR l with
  | false =>
    rw [hc] at HC hL
    obtain rfl : L = [] := hL
    have HC : Calls Tryz.prog 73 #[.slice q l.length cap] w fun e w' => e = .returned (.int .i64 190) ∧ Bel w w' := HC
    go_enter Tryz.func56, Tryz.ntmps56
    go_wp2_with (go_at_call 73; refine HC.mono ?_; rintro e w1 ⟨rfl, hb1⟩)
    go_ret
    exact ⟨_, rfl, Sl.nil _ _, hb1⟩
  | true =>
    rw [hc] at HC hL
    have hcA : checkA l = true := by rw [check_eq, hc]
    have hr : Rises l := by
      unfold checkR at hc
      simp only [Bool.and_eq_true] at hc
      exact (rises_iff l).1 hc.1.2
    have hle := line_short l hcA name
    have hL : L = (up l (l.length + 1) name).map Attr.name := hL
    have HC : Calls Tryz.prog 73 #[.slice q l.length cap] w fun e w' => e = .returned (.int .i64 0) ∧ Bel w w' := HC
    have hLl : L.length ≤ l.length := by rw [hL, List.length_map]; exact hle
    have HL := Lib.hid hL
    have HR := Lib.hid hr
    clear hL hle hr hcA hc
    go_enter Tryz.func56, Tryz.ntmps56
    go_wp2_with (first
      | (go_at_call 73; refine HC.mono ?_; rintro e w1 ⟨rfl, hb1⟩)
      | (go_at_call 74; refine (HA name w1 hb1).out.mono ?_; rintro e w2 ⟨x0, rfl, hx0, rfl⟩))
    clear HC
    go_loopw [5, 6] (fun o i wr => ∃ (nm : ByteArray) (x : Int) (xs : List ByteArray) (K : Nat), i = .int .i64 x ∧ AtIs l nm x ∧ xs.length + K = l.length + 1 ∧ L = xs ++ (up l K nm).map Attr.name ∧ wr.ownsRow w2.heap.size 9 1 o xs.length (strCells xs) ∧ Bel w2 wr) (fun o _ _ => l.length + 1 - sliceLen o)
    case atStart => exact ⟨name, x0, [], l.length + 1, rfl, hx0, by simp, HL.out, World.ownsRow_nil _ _ _ _, Bel.refl _⟩
    case round =>
      obtain ⟨nm, x, xs, K, rfl, hx, hK, hE, hown, hb⟩ := hrel
      have hol := own_len hown
      rcases hx with ⟨rfl, hnone⟩ | ⟨k, rfl, hk, hsome⟩
      · rw [up_none l HR.out nm hnone, List.map_nil, List.append_nil] at hE
        subst hE
        have hS := Sl.own hown
        clear hown HA Hs HL
        go_wp2
        go_ret
        exact ⟨_, rfl, by simpa using hS, hb1.trans hb⟩
      · cases K with
        | zero =>
          have : L.length = xs.length + (up l 0 nm).length := by rw [hE]; simp
          omega
        | succ K =>
          rw [up_some l HR.out nm _ hsome] at hE
          obtain ⟨bb, off, cap', e, c0, c1, -, -, -, -⟩ := attr_at (Hs.out.bel hb1) k hk
          cases e
          have hxl : xs.length ≤ l.length := by omega
          have HE := Lib.hid hE
          have HAt := HA (l.getD k Attr.none).above
          have HK := Lib.hid hK
          clear hE hsome HA HL hx0 hK
          generalize l.getD k Attr.none = a at *
          have d0 := hb.cell c0
          have i0' : (0 : Int) ≤ (k : Int) := Int.natCast_nonneg _
          have i1 : (k : Int) < (l.length : Int) := by omega
          have Hb1 := Lib.hid hb1
          clear hb1
          go_wp2_with (at_builtin; refine wpList_append_own _ rfl _ _ 57 rfl w2.heap.size 9 i0 (.string ⟨#[]⟩) 1 16 Tryz.underlying57 hi hz0 hz1 hz2 rfl (by decide) _ _ _ rfl (hown.alloc _) ⟨_, 0, none⟩ 1 1 [.string a.name] rfl rfl ?c1 ?c2 ?c3 ?c4 ?c5 ?_)
          case c1 =>
            intro j u hj
            match j, hj with
            | 0, hj => simp at hj; subst hj; simp [Addr.add]
          case c2 => intro u hu; simp at hu; subst hu; rfl
          case c3 => unfold maxLen; omega
          case c4 => omega
          case c5 => have := hb.size; simp; omega
          intro v' w3 hown' hgrow _
          have hb3 : Bel w2 w3 := Below.grown (Below.alloc hb hb.size _) hgrow (by have := hb.size; simp; omega) (fun k hk => (hown.lt k hk).1)
          have d1 := hb3.cell c1
          have hol' := own_len hown'
          clear hown hgrow hb d0
          go_wp2_with (go_at_call 74; refine (HAt w3 (Hb1.out.trans hb3)).out.mono ?_; rintro e w4 ⟨x2, rfl, hx2, rfl⟩)
          go_roundw
          case rel =>
            refine ⟨a.above, x2, xs ++ [a.name], K, rfl, hx2, ?_, ?_, ?_, hb3⟩
            · have := HK.out
              rw [List.length_append, List.length_singleton]; omega
            · rw [HE.out]; simp
            · rw [List.length_append, List.length_singleton, strCells_app]; exact hown'
          case measure => rw [hol', hol]; omega
end Go.Proofs.YtljeeehimcdmbaaGreatDoor
