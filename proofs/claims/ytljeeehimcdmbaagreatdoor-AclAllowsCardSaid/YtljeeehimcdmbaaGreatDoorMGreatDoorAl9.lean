/- The walk of toponymref31.Allowed. No condition. -/
import Derived.Test.YtljeeehimcdmbaaGreatDoorMGreatDoorAl8
import Derived.StillTailTactics
namespace Go.Proofs.YtljeeehimcdmbaaGreatDoor
open Go.RowKit Go.Wd Go.Dir Go.Shelf
theorem snoc_law (l : List Attr) (sl : List SG) (who key attr : ByteArray) (kind : Int) (ho : oneKind kind = true) (k : Nat) (hk : k < sl.length) :
    allowedA l (sl.take (k + 1)) who key attr kind = if fitsG l who key attr kind (sl.getD k SG.none).g then !(sl.getD k SG.none).g.deny else allowedA l (sl.take k) who key attr kind := by
  rw [take_snoc sl SG.none k hk, last_law, fits31_eq, ho, Bool.true_and]
set_option maxRecDepth 100000 in
set_option maxHeartbeats 1600000 in
theorem refAllowed_any (l : List Attr) (sl : List SG) (who key attr : ByteArray) (kind : Int) (v gv : Value) (q2 : Option Addr) (m2 cap2 : Nat) (w : World)
    (hs : Sl w v 6 l.length (attrCells l)) (hl : l.length < 100000) (ha : ∀ a ∈ l, shortA a) (hk : key.size ≤ 1000000) (hg : Sl w gv 7 sl.length (grantCells (sgs sl))) (hgl : sl.length ≤ 30) :
    Calls Tryz.prog 12 #[.agg #[v, .slice q2 m2 cap2], gv, .string who, .string key, .string attr, .int .i64 kind] w fun e w' => e = .returned (.bool (allowedA l sl who key attr kind)) ∧ Bel w w' := by
  have HF := Lib.hid fun (g : SG) (ho : oneKind kind = true) w' (h : Bel w w') => fitsR_any g.g who key attr kind ho l v q2 m2 cap2 w' (hs.bel h) hl ha hk g.h
  obtain ⟨q, cap, rfl⟩ : ∃ q cap, v = .slice q l.length cap := by obtain ⟨_, q, cap, h, _⟩ := hs; exact ⟨q, cap, h⟩
  obtain ⟨qg, capg, rfl⟩ : ∃ q cap, gv = .slice q sl.length cap := by obtain ⟨_, q, cap, h, _⟩ := hg; exact ⟨q, cap, h⟩
  have Hg := Lib.hid hg
  clear hs ha hg
  obtain ⟨r, hr⟩ : ∃ r, r = allowedA l sl who key attr kind := ⟨_, rfl⟩
  rw [← hr]
  have Hr := Lib.hid hr
  clear hr
  go_enter Tryz.func12, Tryz.ntmps12
  go_upto_region 1 with fail
  have hb0 := (Bel.refl w).alloc (.cells #[.slice q l.length cap, .slice q2 m2 cap2] 25)
  have hn0 := new_at w (.cells #[.slice q l.length cap, .slice q2 m2 cap2] 25)
  generalize w.alloc (.cells #[.slice q l.length cap, .slice q2 m2 cap2] 25) = W0 at *
  have s0 : W0.cell? ⟨w.heap.size, 0, none⟩ = some (.slice q l.length cap) := cellk hn0 0 _ rfl
  have s1 : W0.cell? ⟨w.heap.size, 1, none⟩ = some (.slice q2 m2 cap2) := cellk hn0 1 _ rfl
  generalize w.heap.size = P0 at s0 s1 ⊢
  clear hn0
  have Hb0 := Lib.hid hb0
  clear hb0
  obtain ⟨o, ho⟩ : ∃ o, o = oneKind kind := ⟨_, rfl⟩
  have Ho := Lib.hid ho
  clear ho
  go_cut [28] from 15 to 27 (fun s28 wx => s28 = .bool (!o) ∧ wx = W0)
  case first =>
    clear Hr HF Hg Hb0 s0 s1
    by_cases h1 : kind = 1
    · subst h1
      obtain rfl : o = true := Ho.out
      clear Ho
      go_wp2
      go_meet
      exact ⟨rfl, rfl⟩
    by_cases h2 : kind = 2
    · subst h2
      obtain rfl : o = true := Ho.out
      clear Ho
      go_wp2
      go_meet
      exact ⟨rfl, rfl⟩
    by_cases h4 : kind = 4
    · subst h4
      obtain rfl : o = true := Ho.out
      clear Ho
      go_wp2
      go_meet
      exact ⟨rfl, rfl⟩
    by_cases h8 : kind = 8
    · subst h8
      obtain rfl : o = true := Ho.out
      clear Ho
      go_wp2
      go_meet
      exact ⟨rfl, rfl⟩
    obtain rfl : o = false := by rw [Ho.out]; simp [oneKind, h1, h2, h4, h8]
    clear Ho
    go_wp2
    go_meet
    exact ⟨by simp [h1, h2, h4, h8], rfl⟩
  case rest =>
    obtain ⟨rfl, rfl⟩ := hcut
    cases o with
    | false =>
      obtain rfl : r = false := by rw [Hr.out]; unfold allowedA; rw [← Ho.out]; rfl
      clear Hr HF Hg Ho s0 s1
      go_wp2
      go_ret
      exact ⟨rfl, Hb0.out⟩
    | true =>
      have hone := Ho.out.symm
      have HL := Lib.hid fun k hk => snoc_law l sl who key attr kind hone k hk
      have HF2 := Lib.hid fun g w' h => HF.out g hone w' h
      clear HF Ho hone
      go_wp2
      go_loopw [13, 14] (fun b i wr => ∃ k : Nat, k ≤ sl.length ∧ i = .int .i64 k ∧ b = .bool (allowedA l (sl.take k) who key attr kind) ∧ Bel wc wr) (fun _ i _ => sl.length - (intOf i).toNat)
      case atStart => exact ⟨0, Nat.zero_le _, rfl, by rw [List.take_zero, none_law], Bel.refl _⟩
      case round =>
        obtain ⟨k, hk, rfl, rfl, hb⟩ := hrel
        by_cases hlt : k < sl.length
        · have hgk := Hg.out.bel (Hb0.out.trans hb)
          rw [← sgs_len sl] at hgk
          obtain ⟨bb, off, cap', e, c0, c1, c2, c3, c4, c5, c6⟩ := grant_at hgk k (by rw [sgs_len]; exact hlt)
          rw [sgs_at sl k hlt] at c0 c1 c2 c3 c4 c5 c6
          cases e
          have HS := Lib.hid (HL.out k hlt)
          have HC := HF2.out (sl.getD k SG.none) wr.drew (Hb0.out.trans hb).drew
          have hbd := hb.drew
          clear HF2 HL Hg Hr hgk
          have t0 := hb.cell s0
          have t1 := hb.cell s1
          generalize (sl.getD k SG.none).g = g at *
          obtain ⟨f, hf⟩ : ∃ f, f = fitsG l who key attr kind g := ⟨_, rfl⟩
          rw [← hf] at HC HS
          clear hf
          have i0 : (0 : Int) ≤ (k : Int) := Int.natCast_nonneg _
          have i1 : (k : Int) < (sl.length : Int) := by omega
          have Hb := Lib.hid hb
          clear hb
          go_upto_region 7 with fail
          go_still_tail 9, (by kernel_rfl)
          change wpList _ _ _ _ _ wr.drew
          have d6 : wr.drew.cell? ⟨bb, off + k * 7 + 6, none⟩ = some (.bool g.deny) := c6
          clear c0 c1 c2 c3 c4 c5 c6 t0 t1 Hb
          generalize wr.drew = w2 at *
          have Hbd := Lib.hid hbd
          clear hbd
          go_wp2_with fail
          refine HC.mono ?_
          rintro e w3 ⟨rfl, hb3⟩
          have e6 := hb3.cell d6
          have Hb3 := Lib.hid (Hbd.out.trans hb3)
          clear d6 hb3 HC Hbd
          cases f with
          | true =>
            have HS2 := Lib.hid (show allowedA l (sl.take (k + 1)) who key attr kind = !g.deny from HS.out)
            clear HS
            go_wp2
            go_roundw
            case rel =>
              refine ⟨_, _, _, _, _, _, _, _, _, _, _, _, _, _, _, _, _, _, _, _, _, _, _, _, ⟨k + 1, by omega, ?_, ?_, Hb3.out⟩, rfl⟩
              · rfl
              · rw [HS2.out]
            case measure => simp [intOf]; omega
          | false =>
            have HS2 := Lib.hid (show allowedA l (sl.take (k + 1)) who key attr kind = allowedA l (sl.take k) who key attr kind from HS.out)
            clear HS
            go_wp2
            go_roundw
            case rel =>
              refine ⟨_, _, _, _, _, _, _, _, _, _, _, _, _, _, _, _, _, _, _, _, _, _, _, _, ⟨k + 1, by omega, ?_, ?_, Hb3.out⟩, rfl⟩
              · rfl
              · rw [HS2.out]
            case measure => simp [intOf]; omega
        · have e : k = sl.length := by omega
          subst e
          rw [List.take_length] at *
          have Hb := Lib.hid hb
          clear hb HF2 HL Hg
          have hr := Hr.out
          rw [← hr]
          clear hr Hr
          go_wp2
          go_ret
          exact ⟨rfl, Hb0.out.trans Hb.out⟩
end Go.Proofs.YtljeeehimcdmbaaGreatDoor
