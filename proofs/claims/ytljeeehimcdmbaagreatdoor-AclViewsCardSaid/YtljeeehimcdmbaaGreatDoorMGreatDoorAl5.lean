/- AclViews: parts of its proof. No condition. -/
import Derived.Test.YtljeeehimcdmbaaGreatDoorMGreatDoorAl1
import Derived.Laws.OwnMore
import Derived.Test.YtljeeehimcdmbaaGreatDoorMGreatDoorAc4
section
/- The walks of toponymref20.Line and toponymref20.Is. No condition. -/
namespace Go.Proofs.YtljeeehimcdmbaaGreatDoor
open Go.RowKit Go.Wd Go.Dir Go.Shelf

def sliceLen : Value → Nat
  | .slice _ n _ => n
  | _ => 0
theorem own_len {w : World} {base e size n : Nat} {v : Value} {xs : List Value} (h : w.ownsRow base e size v n xs) : sliceLen v = n := by
  rcases h.2 with ⟨rfl, h2⟩ | ⟨g, cap, cur, rfl, _⟩
  · exact h2.symm
  · rfl
theorem up_none (l : List Attr) (hr : Rises l) (nm : ByteArray) (h : at? l nm = none) (k : Nat) : up l k nm = [] := by
  cases k with
  | zero => rfl
  | succ k => rw [up, find_eq l hr, h]
theorem up_some (l : List Attr) (hr : Rises l) (nm : ByteArray) (a : Attr) (h : at? l nm = some a) (k : Nat) : up l (k + 1) nm = a :: up l k a.above := by
  rw [up, find_eq l hr, h]

set_option maxRecDepth 100000 in
set_option maxHeartbeats 1600000 in
theorem line20_any (l : List Attr) (v : Value) (name : ByteArray) (w : World) (hs : Sl w v 6 l.length (attrCells l)) (hl : l.length < 1000000) (ha : ∀ a ∈ l, shortA a) :
    Calls Tryz.prog 56 #[v, .string name] w fun e w' => ∃ u, e = .returned u ∧ Sl w' u 1 (line l name).length (strCells (line l name)) ∧ Bel w w' := by
  have HC := check20_any l v w hs hl ha
  have HA := fun nm w' (h : Bel w w') => Lib.hid (at_any l v nm w' (hs.bel h) hl)
  obtain ⟨q, cap, rfl⟩ : ∃ q cap, v = .slice q l.length cap := by obtain ⟨_, q, cap, h, _⟩ := hs; exact ⟨q, cap, h⟩
  obtain ⟨i0, hi, hz0, hz1, hz2⟩ := info_parts infoS
  have Hs := Lib.hid hs
  clear hs ha
  obtain ⟨L, hL⟩ : ∃ L, L = line l name := ⟨_, rfl⟩
  rw [← hL]
  unfold line at hL
  rw [check_eq] at hL
  cases hc : checkR l with
  | false =>
    rw [hc] at HC hL
    obtain rfl : L = [] := hL
    have HC : Calls Tryz.prog 73 #[.slice q l.length cap] w fun e w' => e = .returned (.int .i64 190) ∧ Bel w w' := HC
    go_enter Tryz.func56, Tryz.ntmps56
    go_wp2_with (go_at_call 73; refine HC.mono ?_; rintro e w1 ⟨rfl, hb1⟩)
    go_ret
    exact ⟨_, rfl, Sl.nil _ _, hb1⟩
  | true =>
    rw [hc] at HC hL
    have hcA : checkA l = true := by rw [check_eq, hc]
    have hr : Rises l := by
      unfold checkR at hc
      simp only [Bool.and_eq_true] at hc
      exact (rises_iff l).1 hc.1.2
    have hle := line_short l hcA name
    have hL : L = (up l (l.length + 1) name).map Attr.name := hL
    have HC : Calls Tryz.prog 73 #[.slice q l.length cap] w fun e w' => e = .returned (.int .i64 0) ∧ Bel w w' := HC
    have hLl : L.length ≤ l.length := by rw [hL, List.length_map]; exact hle
    have HL := Lib.hid hL
    have HR := Lib.hid hr
    clear hL hle hr hcA hc
    go_enter Tryz.func56, Tryz.ntmps56
    go_wp2_with (first
      | (go_at_call 73; refine HC.mono ?_; rintro e w1 ⟨rfl, hb1⟩)
      | (go_at_call 74; refine (HA name w1 hb1).out.mono ?_; rintro e w2 ⟨x0, rfl, hx0, rfl⟩))
    clear HC
    go_loopw [5, 6] (fun o i wr => ∃ (nm : ByteArray) (x : Int) (xs : List ByteArray) (K : Nat), i = .int .i64 x ∧ AtIs l nm x ∧ xs.length + K = l.length + 1 ∧ L = xs ++ (up l K nm).map Attr.name ∧ wr.ownsRow w2.heap.size 9 1 o xs.length (strCells xs) ∧ Bel w2 wr) (fun o _ _ => l.length + 1 - sliceLen o)
    case atStart => exact ⟨name, x0, [], l.length + 1, rfl, hx0, by simp, HL.out, World.ownsRow_nil _ _ _ _, Bel.refl _⟩
    case round =>
      obtain ⟨nm, x, xs, K, rfl, hx, hK, hE, hown, hb⟩ := hrel
      have hol := own_len hown
      rcases hx with ⟨rfl, hnone⟩ | ⟨k, rfl, hk, hsome⟩
      · rw [up_none l HR.out nm hnone, List.map_nil, List.append_nil] at hE
        subst hE
        have hS := Sl.own hown
        clear hown HA Hs HL
        go_wp2
        go_ret
        exact ⟨_, rfl, by simpa using hS, hb1.trans hb⟩
      · cases K with
        | zero =>
          have : L.length = xs.length + (up l 0 nm).length := by rw [hE]; simp
          omega
        | succ K =>
          rw [up_some l HR.out nm _ hsome] at hE
          obtain ⟨bb, off, cap', e, c0, c1, -, -, -, -⟩ := attr_at (Hs.out.bel hb1) k hk
          cases e
          have hxl : xs.length ≤ l.length := by omega
          have HE := Lib.hid hE
          have HAt := HA (l.getD k Attr.none).above
          have HK := Lib.hid hK
          clear hE hsome HA HL hx0 hK
          generalize l.getD k Attr.none = a at *
          have d0 := hb.cell c0
          have i0' : (0 : Int) ≤ (k : Int) := Int.natCast_nonneg _
          have i1 : (k : Int) < (l.length : Int) := by omega
          have Hb1 := Lib.hid hb1
          clear hb1
          go_wp2_with (at_builtin; refine wpList_append_own _ rfl _ _ 57 rfl w2.heap.size 9 i0 (.string ⟨#[]⟩) 1 16 Tryz.underlying57 hi hz0 hz1 hz2 rfl (by decide) _ _ _ rfl (hown.alloc _) ⟨_, 0, none⟩ 1 1 [.string a.name] rfl rfl ?c1 ?c2 ?c3 ?c4 ?c5 ?_)
          case c1 =>
            intro j u hj
            match j, hj with
            | 0, hj => simp at hj; subst hj; simp [Addr.add]
          case c2 => intro u hu; simp at hu; subst hu; rfl
          case c3 => unfold maxLen; omega
          case c4 => omega
          case c5 => have := hb.size; simp; omega
          intro v' w3 hown' hgrow _
          have hb3 : Bel w2 w3 := Below.grown (Below.alloc hb hb.size _) hgrow (by have := hb.size; simp; omega) (fun k hk => (hown.lt k hk).1)
          have d1 := hb3.cell c1
          have hol' := own_len hown'
          clear hown hgrow hb d0
          go_wp2_with (go_at_call 74; refine (HAt w3 (Hb1.out.trans hb3)).out.mono ?_; rintro e w4 ⟨x2, rfl, hx2, rfl⟩)
          go_roundw
          case rel =>
            refine ⟨a.above, x2, xs ++ [a.name], K, rfl, hx2, ?_, ?_, ?_, hb3⟩
            · have := HK.out
              rw [List.length_append, List.length_singleton]; omega
            · rw [HE.out]; simp
            · rw [List.length_append, List.length_singleton, strCells_app]; exact hown'
          case measure => rw [hol', hol]; omega
end Go.Proofs.YtljeeehimcdmbaaGreatDoor
end

section
/- The walk of toponymlaw31.plain: the grants, of the document's type. No condition. -/
namespace Go.Proofs.YtljeeehimcdmbaaGreatDoor
open Go.RowKit Go.Wd Go.Dir Go.Shelf
theorem info79 : (Tryz.prog.info? 79).map (fun i => (i.zero, i.size, i.bytes)) = some (some (.agg #[.string ⟨#[]⟩, .string ⟨#[]⟩, .string ⟨#[]⟩, .bool false, .bool false, .int .i64 0, .bool false]), 7, 72) := by kernel_rfl
theorem take_snoc {α : Type} (l : List α) (d : α) (k : Nat) (h : k < l.length) : l.take (k + 1) = l.take k ++ [l.getD k d] := by
  rw [List.take_succ_eq_append_getElem h, List.getD_eq_getElem?_getD, List.getElem?_eq_getElem h]; rfl
set_option maxRecDepth 100000 in
set_option maxHeartbeats 1600000 in
theorem plain_any (gs : List Grant) (v : Value) (w : World) (hs : Sl w v 7 gs.length (grantCells gs)) (hl : gs.length ≤ 30) :
    Calls Tryz.prog 13 #[v] w fun e w' => ∃ u, e = .returned u ∧ Sl w' u 7 gs.length (grantCells gs) ∧ Bel w w' := by
  obtain ⟨q, cap, rfl⟩ : ∃ q cap, v = .slice q gs.length cap := by obtain ⟨_, q, cap, h, _⟩ := hs; exact ⟨q, cap, h⟩
  obtain ⟨i0, hi, hz0, hz1, hz2⟩ := info_parts info79
  have Hs := Lib.hid hs
  clear hs
  go_enter Tryz.func13, Tryz.ntmps13
  go_wp2
  go_loopw [3, 4] (fun o i wr => ∃ k : Nat, k ≤ gs.length ∧ i = .int .i64 k ∧ wr.ownsRow w.heap.size 79 7 o k (grantCells (gs.take k)) ∧ Bel w wr) (fun _ i _ => gs.length - (intOf i).toNat)
  case atStart => exact ⟨0, Nat.zero_le _, rfl, World.ownsRow_nil _ _ _ _, Bel.refl _⟩
  case round =>
    obtain ⟨k, hk, rfl, hown, hb⟩ := hrel
    by_cases hlt : k < gs.length
    · obtain ⟨bb, off, cap', e, c0, c1, c2, c3, c4, c5, c6⟩ := grant_at (Hs.out.bel hb) k hlt
      cases e
      have HT := Lib.hid (take_snoc gs Grant.none k hlt)
      generalize gs.getD k Grant.none = g at *
      have i0' : (0 : Int) ≤ (k : Int) := Int.natCast_nonneg _
      have i1 : (k : Int) < (gs.length : Int) := by omega
      go_wp2_with (at_builtin; refine wpList_append_own _ rfl _ _ 35 rfl w.heap.size 79 i0 _ 7 72 Tryz.underlying35 hi hz0 hz1 hz2 rfl (by decide) _ _ _ rfl (hown.alloc _) ⟨_, 0, none⟩ 1 1 [.string g.who, .string g.below, .string g.attr, .bool g.all, .bool g.self, .int .i64 g.kinds, .bool g.deny] rfl rfl ?c1 ?c2 ?c3 ?c4 ?c5 ?_)
      case c1 =>
        intro j u hj
        have e : ∀ m, (⟨wr.heap.size, 0, none⟩ : Addr).add m = ⟨wr.heap.size, m, none⟩ := fun m => by unfold Addr.add; split <;> simp_all
        rw [e]
        match j, hj with
        | 0, hj => cases hj; exact cellk (new_at wr _) 0 _ rfl
        | 1, hj => cases hj; exact cellk (new_at wr _) 1 _ rfl
        | 2, hj => cases hj; exact cellk (new_at wr _) 2 _ rfl
        | 3, hj => cases hj; exact cellk (new_at wr _) 3 _ rfl
        | 4, hj => cases hj; exact cellk (new_at wr _) 4 _ rfl
        | 5, hj => cases hj; exact cellk (new_at wr _) 5 _ rfl
        | 6, hj => cases hj; exact cellk (new_at wr _) 6 _ rfl
        | j + 7, hj => simp at hj
      case c2 =>
        intro u hu
        exact grant_one [g] u (by simpa [grantCells, Grant.cells] using hu)
      case c3 => unfold maxLen; omega
      case c4 => omega
      case c5 => have := hb.size; simp; omega
      intro v' w3 hown' hgrow _
      have hb3 : Bel w w3 := Below.grown (Below.alloc hb hb.size _) hgrow (by have := hb.size; simp; omega) (fun k hk => (hown.lt k hk).1)
      clear hown hgrow hb c0 c1 c2 c3 c4 c5 c6
      go_wp2
      go_roundw
      case rel => exact ⟨k + 1, by omega, by go_num, by rw [HT.out, grantCells_app]; exact hown', hb3⟩
      case measure => simp [intOf]; omega
    · have e : k = gs.length := by omega
      subst e
      rw [List.take_length] at hown
      have hS := Sl.own hown
      clear hown Hs
      go_wp2
      go_ret
      exact ⟨_, rfl, hS, hb⟩
end Go.Proofs.YtljeeehimcdmbaaGreatDoor
end

section
/- The walk of toponymref20.Is; bits of whole numbers. No condition. -/
namespace Go.Proofs.YtljeeehimcdmbaaGreatDoor
open Go.RowKit Go.Wd Go.Dir Go.Shelf
set_option maxHeartbeats 1600000 in
theorem is20_any (l : List Attr) (v : Value) (name s : ByteArray) (w : World) (hs : Sl w v 6 l.length (attrCells l)) (hl : l.length < 1000000) (ha : ∀ a ∈ l, shortA a) :
    Calls Tryz.prog 41 #[v, .string name, .string s] w fun e w' => e = .returned (.bool (isA l name s)) ∧ Bel w w' := by
  have HL := line20_any l v name w hs hl ha
  have hle : (line l name).length ≤ l.length := by
    unfold line
    split
    · next h => rw [List.length_map]; exact line_short l h name
    · exact Nat.zero_le _
  unfold isA
  generalize line l name = xs at *
  obtain ⟨r, hr⟩ : ∃ r, r = xs.any fun x => decide (x = s) := ⟨_, rfl⟩
  rw [← hr]
  have Hr := Lib.hid hr
  clear hr hs ha
  go_enter Tryz.func41, Tryz.ntmps41
  go_wp2_with (go_at_call 56; refine HL.mono ?_; rintro e w1 ⟨u, rfl, hS, hb⟩)
  obtain ⟨q, cap, rfl⟩ : ∃ q cap, u = .slice q xs.length cap := by obtain ⟨_, q, cap, h, _⟩ := hS; exact ⟨q, cap, h⟩
  have HS := Lib.hid hS
  have Hb := Lib.hid hb
  clear hS hb HL
  go_wp2
  go_loopw [8] (fun i wr => ∃ k : Nat, k ≤ xs.length ∧ i = .int .i64 k ∧ ¬ s ∈ xs.take k ∧ w1 = wr) (fun i _ => xs.length - (intOf i).toNat)
  case atStart => exact ⟨0, Nat.zero_le _, rfl, by simp, rfl⟩
  case round =>
    obtain ⟨k, hk, rfl, hall, rfl⟩ := hrel
    by_cases hlt : k < xs.length
    · obtain ⟨b, off, cap', e, hcell⟩ := str_at HS.out k hlt
      cases e
      have HM := Lib.hid (mem_take xs s k hlt)
      have Hall := Lib.hid hall
      have Hin : Hid (xs.getD k ⟨#[]⟩ ∈ xs) := by
        rw [List.getD_eq_getElem?_getD, List.getElem?_eq_getElem hlt]; exact List.getElem_mem _
      clear hall HS
      generalize xs.getD k ⟨#[]⟩ = x at *
      by_cases hx : x = s
      · subst hx
        have e0 : (x.toList == x.toList) = true := by simp
        obtain rfl : r = true := by
          rw [Hr.out, List.any_eq_true]
          exact ⟨x, Hin.out, by simp⟩
        go_wp2
        go_ret
        exact ⟨rfl, Hb.out⟩
      · obtain ⟨e0, e1, -⟩ := eqs_no hx
        have Hx := Lib.hid hx
        clear hx
        go_wp2
        go_roundw
        case rel => exact ⟨k + 1, by omega, by go_num, fun h => ((HM.out).1 h).elim Hall.out (fun e => Hx.out e.symm), trivial⟩
        case measure => simp [intOf]; omega
    · have e : k = xs.length := by omega
      subst e
      rw [List.take_length] at hall
      obtain rfl : r = false := by
        rw [Hr.out, List.any_eq_false]
        intro x hx
        simp only [decide_eq_true_eq]
        exact fun e => hall (e ▸ hx)
      clear HS hall Hr
      go_wp2
      go_ret
      exact ⟨rfl, Hb.out⟩
theorem nat_and_pow (N j : Nat) : N &&& 2 ^ j = (N.testBit j).toNat * 2 ^ j := by
  apply Nat.eq_of_testBit_eq
  intro i
  rw [Nat.testBit_and, Nat.testBit_two_pow]
  by_cases e : j = i
  · subst e
    cases h : N.testBit j <;> simp
  · cases h : N.testBit j <;> simp [Nat.testBit_two_pow, e]
theorem land_pow (n p : Int) (j : Nat) (hj : j < 4) (hp : (BitVec.ofInt 64 p).toNat = 2 ^ j) : landI n p = if (n / 2 ^ j) % 2 = 1 then ((2 ^ j : Nat) : Int) else 0 := by
  have key : (BitVec.ofInt 64 n &&& BitVec.ofInt 64 p).toNat = ((n % ((2 ^ 64 : Nat) : Int)).toNat.testBit j).toNat * 2 ^ j := by
    rw [BitVec.toNat_and, BitVec.toNat_ofInt, hp, nat_and_pow]
  show IntKind.i64.wrap ((BitVec.ofInt 64 n &&& BitVec.ofInt 64 p).toNat : Nat) = _
  rw [key, Nat.testBit_eq_decide_div_mod_eq, IntKind.wrap_i64]
  match j, hj with
  | 0, _ =>
    by_cases h : (n % ((2 ^ 64 : Nat) : Int)).toNat / 2 ^ 0 % 2 = 1
    · rw [decide_eq_true h, if_pos (by omega)]; decide
    · rw [decide_eq_false h, if_neg (by omega)]; decide
  | 1, _ =>
    by_cases h : (n % ((2 ^ 64 : Nat) : Int)).toNat / 2 ^ 1 % 2 = 1
    · rw [decide_eq_true h, if_pos (by omega)]; decide
    · rw [decide_eq_false h, if_neg (by omega)]; decide
  | 2, _ =>
    by_cases h : (n % ((2 ^ 64 : Nat) : Int)).toNat / 2 ^ 2 % 2 = 1
    · rw [decide_eq_true h, if_pos (by omega)]; decide
    · rw [decide_eq_false h, if_neg (by omega)]; decide
  | 3, _ =>
    by_cases h : (n % ((2 ^ 64 : Nat) : Int)).toNat / 2 ^ 3 % 2 = 1
    · rw [decide_eq_true h, if_pos (by omega)]; decide
    · rw [decide_eq_false h, if_neg (by omega)]; decide
theorem land_ne (n p : Int) (j : Nat) (hj : j < 4) (hp : (BitVec.ofInt 64 p).toNat = 2 ^ j) : (landI n p != 0) = decide ((n / 2 ^ j) % 2 = 1) := by
  rw [land_pow n p j hj hp]
  match j, hj with
  | 0, _ => split <;> simp_all
  | 1, _ => split <;> simp_all
  | 2, _ => split <;> simp_all
  | 3, _ => split <;> simp_all
theorem land_one (n : Int) : bits BinOp.and IntKind.i64 n 1 = n % 2 := by
  have := land_pow n 1 0 (by decide) (by decide)
  rw [show bits BinOp.and IntKind.i64 n 1 = landI n 1 from rfl, this]
  split <;> omega
end Go.Proofs.YtljeeehimcdmbaaGreatDoor
end
