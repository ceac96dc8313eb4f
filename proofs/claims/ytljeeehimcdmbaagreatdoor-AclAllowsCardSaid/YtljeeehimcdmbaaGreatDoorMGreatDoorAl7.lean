/- The walk of toponymref20.Is; bits of whole numbers. No condition. -/
import Derived.Test.YtljeeehimcdmbaaGreatDoorMGreatDoorAl6
namespace Go.Proofs.YtljeeehimcdmbaaGreatDoor
open Go.RowKit Go.Wd Go.Dir Go.Shelf
set_option maxHeartbeats 1600000 in
theorem is20_any (l : List Attr) (v : Value) (name s : ByteArray) (w : World) (hs : Sl w v 6 l.length (attrCells l)) (hl : l.length < 1000000) (ha : ∀ a ∈ l, shortA a) :
    Calls Tryz.prog 41 #[v, .string name, .string s] w fun e w' => e = .returned (.bool (isA l name s)) ∧ Bel w w' := by
  have HL := line20_any l v name w hs hl ha
  have hle : (line l name).length ≤ l.length := by
    unfold line
    split
    · next h => rw [List.length_map]; exact line_short l h name
    · exact Nat.zero_le _
  unfold isA
  generalize line l name = xs at *
  obtain ⟨r, hr⟩ : ∃ r, r = xs.any fun x => decide (x = s) := ⟨_, rfl⟩
  rw [← hr]
  have Hr := Lib.hid hr
  clear hr hs ha
  go_enter Tryz.func41, Tryz.ntmps41
  go_wp2_with (go_at_call 56; refine HL.mono ?_; rintro e w1 ⟨u, rfl, hS, hb⟩)
  obtain ⟨q, cap, rfl⟩ : ∃ q cap, u = .slice q xs.length cap := by obtain ⟨_, q, cap, h, _⟩ := hS; exact ⟨q, cap, h⟩
  have HS := Lib.hid hS
  have Hb := Lib.hid hb
  clear hS hb HL
  go_wp2
  go_loopw [8] (fun i wr => ∃ k : Nat, k ≤ xs.length ∧ i = .int .i64 k ∧ ¬ s ∈ xs.take k ∧ w1 = wr) (fun i _ => xs.length - (intOf i).toNat)
  case atStart => exact ⟨0, Nat.zero_le _, rfl, by simp, rfl⟩
  case round =>
    obtain ⟨k, hk, rfl, hall, rfl⟩ := hrel
    by_cases hlt : k < xs.length
    · obtain ⟨b, off, cap', e, hcell⟩ := str_at HS.out k hlt
      cases e
      have HM := Lib.hid (mem_take xs s k hlt)
      have Hall := Lib.hid hall
      have Hin : Hid (xs.getD k ⟨#[]⟩ ∈ xs) := by
        rw [List.getD_eq_getElem?_getD, List.getElem?_eq_getElem hlt]; exact List.getElem_mem _
      clear hall HS
      generalize xs.getD k ⟨#[]⟩ = x at *
      by_cases hx : x = s
      · subst hx
        have e0 : (x.toList == x.toList) = true := by simp
        obtain rfl : r = true := by
          rw [Hr.out, List.any_eq_true]
          exact ⟨x, Hin.out, by simp⟩
        go_wp2
        go_ret
        exact ⟨rfl, Hb.out⟩
      · obtain ⟨e0, e1, -⟩ := eqs_no hx
        have Hx := Lib.hid hx
        clear hx
        go_wp2
        go_roundw
        case rel => exact ⟨k + 1, by omega, by go_num, fun h => ((HM.out).1 h).elim Hall.out (fun e => Hx.out e.symm), trivial⟩
        case measure => simp [intOf]; omega
    · have e : k = xs.length := by omega
      subst e
      rw [List.take_length] at hall
      obtain rfl : r = false := by
        rw [Hr.out, List.any_eq_false]
        intro x hx
        simp only [decide_eq_true_eq]
        exact fun e => hall (e ▸ hx)
      clear HS hall Hr
      go_wp2
      go_ret
      exact ⟨rfl, Hb.out⟩
theorem nat_and_pow (N j : Nat) : N &&& 2 ^ j = (N.testBit j).toNat * 2 ^ j := by
  apply Nat.eq_of_testBit_eq
  intro i
  rw [Nat.testBit_and, Nat.testBit_two_pow]
  by_cases e : j = i
  · subst e
    cases h : N.testBit j <;> simp
  · cases h : N.testBit j <;> simp [Nat.testBit_two_pow, e]
theorem land_pow (n p : Int) (j : Nat) (hj : j < 4) (hp : (BitVec.ofInt 64 p).toNat = 2 ^ j) : landI n p = if (n / 2 ^ j) % 2 = 1 then ((2 ^ j : Nat) : Int) else 0 := by
  have key : (BitVec.ofInt 64 n &&& BitVec.ofInt 64 p).toNat = ((n % ((2 ^ 64 : Nat) : Int)).toNat.testBit j).toNat * 2 ^ j := by
    rw [BitVec.toNat_and, BitVec.toNat_ofInt, hp, nat_and_pow]
  show IntKind.i64.wrap ((BitVec.ofInt 64 n &&& BitVec.ofInt 64 p).toNat : Nat) = _
  rw [key, Nat.testBit_eq_decide_div_mod_eq, IntKind.wrap_i64]
  match j, hj with
  | 0, _ =>
    by_cases h : (n % ((2 ^ 64 : Nat) : Int)).toNat / 2 ^ 0 % 2 = 1
    · rw [decide_eq_true h, if_pos (by omega)]; decide
    · rw [decide_eq_false h, if_neg (by omega)]; decide
  | 1, _ =>
    by_cases h : (n % ((2 ^ 64 : Nat) : Int)).toNat / 2 ^ 1 % 2 = 1
    · rw [decide_eq_true h, if_pos (by omega)]; decide
    · rw [decide_eq_false h, if_neg (by omega)]; decide
  | 2, _ =>
    by_cases h : (n % ((2 ^ 64 : Nat) : Int)).toNat / 2 ^ 2 % 2 = 1
    · rw [decide_eq_true h, if_pos (by omega)]; decide
    · rw [decide_eq_false h, if_neg (by omega)]; decide
  | 3, _ =>
    by_cases h : (n % ((2 ^ 64 : Nat) : Int)).toNat / 2 ^ 3 % 2 = 1
    · rw [decide_eq_true h, if_pos (by omega)]; decide
    · rw [decide_eq_false h, if_neg (by omega)]; decide
theorem land_ne (n p : Int) (j : Nat) (hj : j < 4) (hp : (BitVec.ofInt 64 p).toNat = 2 ^ j) : (landI n p != 0) = decide ((n / 2 ^ j) % 2 = 1) := by
  rw [land_pow n p j hj hp]
  match j, hj with
  | 0, _ => split <;> simp_all
  | 1, _ => split <;> simp_all
  | 2, _ => split <;> simp_all
  | 3, _ => split <;> simp_all
theorem land_one (n : Int) : bits BinOp.and IntKind.i64 n 1 = n % 2 := by
  have := land_pow n 1 0 (by decide) (by decide)
  rw [show bits BinOp.and IntKind.i64 n 1 = landI n 1 from rfl, this]
  split <;> omega
end Go.Proofs.YtljeeehimcdmbaaGreatDoor
