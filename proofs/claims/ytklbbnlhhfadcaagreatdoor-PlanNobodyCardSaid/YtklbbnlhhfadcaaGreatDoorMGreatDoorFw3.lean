/- The walk of toponymlaw29.short: any filter is short, or not. No condition. -/
import Derived.Test.YtklbbnlhhfadcaaGreatDoorMGreatDoorFw2
namespace Go.Proofs.YtklbbnlhhfadcaaGreatDoor
open Go.RowKit Go.Wd Go.Rq
/-- The first so many kids are short. -/
def KidsOk (G : Flt → Bool) (ks : List Flt) (n : Nat) : Prop := ∀ j, j < n → G (ks.getD j Flt.none) = true
theorem KidsOk.more {G : Flt → Bool} {ks : List Flt} {n : Nat} (h : KidsOk G ks n) (hs : G (ks.getD n Flt.none) = true) : KidsOk G ks (n + 1) := fun j hj => by
  by_cases e : j = n
  · subst e; exact hs
  · exact h j (by omega)
set_option maxHeartbeats 3200000 in
theorem short29_walk (W : World) (kind : Int) (name value ini fin rule : ByteArray) (hi hf dn : Bool) (aq kq : Option Addr) (ac kc : Nat) (zs : List ByteArray) (ks : List Flt)
    (hz : Sl W (.slice aq zs.length ac) 1 zs.length (zs.flatMap strC)) (hk : Sl W (.slice kq ks.length kc) 11 ks.length (ks.flatMap Flt.cells)) (G : Flt → Bool)
    (HK : ∀ k ∈ ks, ∀ w, Bel W w → Calls Tryz.prog 34 #[k.val] w fun e w' => e = .returned (.bool (G k)) ∧ Bel w w')
    (r : Bool) (hr1 : 150 < (value.size : Int) → r = false) (hr2 : 150 < wrap64 ((ini.size : Int) + fin.size) → r = false) (hr3 : ∀ i, i < zs.length → 150 < ((zs.getD i ⟨#[]⟩).size : Int) → r = false)
    (hr5 : ∀ i, i < ks.length → G (ks.getD i Flt.none) = false → r = false)
    (hr4 : ¬ 150 < (value.size : Int) → ¬ 150 < wrap64 ((ini.size : Int) + fin.size) → Short zs 150 zs.length → KidsOk G ks ks.length → r = true) (w : World) (hb : Bel W w) :
    Calls Tryz.prog 34 #[.agg #[.int .i64 kind, .string name, .string value, .string ini, .slice aq zs.length ac, .string fin, .bool hi, .bool hf, .string rule, .bool dn, .slice kq ks.length kc]] w fun e w' => e = .returned (.bool r) ∧ Bel w w' := by
  have R1 := Lib.hid hr1
  have R2 := Lib.hid hr2
  have R3 := Lib.hid hr3
  have R4 := Lib.hid hr4
  have R5 := Lib.hid hr5
  have HK := Lib.hid HK
  clear hr1 hr2 hr3 hr4 hr5
  go_enter Tryz.func34, Tryz.ntmps34
  go_upto_region 1 with fail
  have hb0 := (Bel.refl w).alloc (.cells #[.int .i64 kind, .string name, .string value, .string ini, .slice aq zs.length ac, .string fin, .bool hi, .bool hf, .string rule, .bool dn, .slice kq ks.length kc] 34)
  have hn := new_at w (.cells #[.int .i64 kind, .string name, .string value, .string ini, .slice aq zs.length ac, .string fin, .bool hi, .bool hf, .string rule, .bool dn, .slice kq ks.length kc] 34)
  generalize w.alloc (.cells #[.int .i64 kind, .string name, .string value, .string ini, .slice aq zs.length ac, .string fin, .bool hi, .bool hf, .string rule, .bool dn, .slice kq ks.length kc] 34) = W0 at *
  have c2 : W0.cell? ⟨w.heap.size, 2, none⟩ = some (.string value) := cellk hn 2 _ rfl
  have c3 : W0.cell? ⟨w.heap.size, 3, none⟩ = some (.string ini) := cellk hn 3 _ rfl
  have c4 : W0.cell? ⟨w.heap.size, 4, none⟩ = some (.slice aq zs.length ac) := cellk hn 4 _ rfl
  have c5 : W0.cell? ⟨w.heap.size, 5, none⟩ = some (.string fin) := cellk hn 5 _ rfl
  have c10 : W0.cell? ⟨w.heap.size, 10, none⟩ = some (.slice kq ks.length kc) := cellk hn 10 _ rfl
  have hmax := Sl.max hk
  have Hz := Lib.hid ((hz.bel hb).bel hb0)
  have Hk := Lib.hid ((hk.bel hb).bel hb0)
  have Hb0 := Lib.hid hb0
  have Hb := Lib.hid (hb.trans hb0)
  generalize w.heap.size = P0 at *
  clear hn hz hk hb hb0
  by_cases h1 : 150 < (value.size : Int)
  case pos =>
    obtain rfl := R1.out h1
    clear R1 R2 R3 R4 R5 HK Hz Hk
    go_wp2
    go_ret
    exact ⟨rfl, Hb0.out⟩
  by_cases h2 : 150 < wrap64 ((ini.size : Int) + fin.size)
  case pos =>
    obtain rfl := R2.out h2
    clear R1 R2 R3 R4 R5 HK Hz Hk
    go_wp2
    go_ret
    exact ⟨rfl, Hb0.out⟩
  have S4 := Lib.hid (R4.out h1 h2)
  clear R1 R2 R4
  go_wp2
  clear c2 c3 c5
  go_loopw [3] (fun i wr => ∃ k : Nat, k ≤ zs.length ∧ i = .int .i64 k ∧ Short zs 150 k ∧ W0 = wr) (fun i _ => zs.length - (intOf i).toNat)
  case atStart => exact ⟨0, Nat.zero_le _, rfl, fun j hj => absurd hj (Nat.not_lt_zero _), rfl⟩
  case round =>
    obtain ⟨k, hk, rfl, hall, rfl⟩ := hrel
    have hmz := Sl.max Hz.out
    by_cases hlt : k < zs.length
    · have hall := Lib.hid hall
      obtain ⟨b, off, cap', e, z0⟩ := str_at Hz.out k hlt
      cases e
      have R3' := R3.out k hlt
      have HA := Lib.hid fun h => hall.out.more h
      have R3' := Lib.hid R3'
      clear hall
      generalize zs.getD k ⟨#[]⟩ = z at *
      clear S4 HK Hz Hk R3 R5
      by_cases h3 : 150 < (z.size : Int)
      case neg =>
        go_wp2
        go_roundw
        case rel => exact ⟨k + 1, by omega, by go_num, HA.out (by omega), trivial⟩
        case measure => simp [intOf]; omega
      case pos =>
        obtain rfl := R3'.out h3
        clear R3' HA
        go_wp2
        go_ret
        exact ⟨rfl, Hb0.out⟩
    · have e : k = zs.length := by omega
      subst e
      have T4 := Lib.hid (S4.out hall)
      clear hall R3 Hz S4
      go_wp2
      go_loopw [4] (fun i wr => ∃ k : Nat, k ≤ ks.length ∧ i = .int .i64 k ∧ KidsOk G ks k ∧ Bel W0 wr) (fun i _ => ks.length - (intOf i).toNat)
      case atStart => exact ⟨0, Nat.zero_le _, rfl, fun j hj => absurd hj (Nat.not_lt_zero _), Bel.refl _⟩
      case round =>
        obtain ⟨k, hk, rfl, hr, hbr⟩ := hrel
        have c10 := hbr.cell c10
        have Hb0 := Lib.hid (Hb0.out.trans hbr)
        have HW := Lib.hid (Hb.out.trans hbr)
        have Hbr := Lib.hid hbr
        by_cases hlt : k < ks.length
        · obtain ⟨b, off, cap', e, z0, z1, z2, z3, z4, z5, z6, z7, z8, z9, z10⟩ := flt_at (Hk.out.bel hbr) k hlt
          cases e
          have HC := Lib.hid (HK.out _ (getD_mem ks Flt.none k hlt))
          have R5' := Lib.hid (R5.out k hlt)
          have HA := Lib.hid fun h => hr.more h
          clear hr T4 HK Hk hbr R5
          generalize ks.getD k Flt.none = f at *
          obtain ⟨fk, fname, fval, fini, ⟨faq, fan, fac⟩, ffin, fhi, fhf, frule, fdn, ⟨fkq, fkn, fkc⟩⟩ := f
          dsimp only [Flt.val, Hd.val] at z0 z1 z2 z3 z4 z5 z6 z7 z8 z9 z10 HC
          generalize G _ = y at *
          go_wp2_with fail
          refine (HC.out _ HW.out).mono ?_
          rintro e w' ⟨rfl, hbw⟩
          have Hbw := Lib.hid (Hbr.out.trans hbw)
          have Hb1 := Lib.hid (Hb0.out.trans hbw)
          clear hbw HC
          cases y with
          | false =>
            obtain rfl := R5'.out rfl
            go_wp2
            go_ret
            exact ⟨rfl, Hb1.out⟩
          | true =>
            go_wp2
            go_roundw
            case rel => exact ⟨k + 1, by omega, by go_num, HA.out trivial, Hbw.out⟩
            case measure => simp [intOf]; omega
        · have e : k = ks.length := by omega
          subst e
          obtain rfl := T4.out hr
          clear T4 HK Hk hr R5
          go_wp2
          go_ret
          exact ⟨rfl, Hb0.out⟩
theorem short29_any (W : World) : ∀ (n : Nat) (f : Flt), FOk n W f → ∃ r : Bool, ∀ w, Bel W w → Calls Tryz.prog 34 #[f.val] w fun e w' => e = .returned (.bool r) ∧ Bel w w'
  | 0, _, h => absurd h id
  | n + 1, f, h => by
    obtain ⟨kind, name, value, ini, ⟨aq, an, ac⟩, fin, hi, hf, rule, dn, ⟨kq, kn, kc⟩⟩ := f
    obtain ⟨⟨zs, ez, hz, _⟩, ⟨ks, ek, hk, hall⟩⟩ := h
    obtain rfl : an = zs.length := ez
    obtain rfl : kn = ks.length := ek
    let G : Flt → Bool := fun k => open Classical in if h : FOk n W k then Classical.choose (short29_any W n k h) else false
    have HK : ∀ k ∈ ks, ∀ w, Bel W w → Calls Tryz.prog 34 #[k.val] w fun e w' => e = .returned (.bool (G k)) ∧ Bel w w' := fun k hk => by
      have e : G k = Classical.choose (short29_any W n k (hall k hk)) := dif_pos (hall k hk)
      rw [e]
      exact Classical.choose_spec (short29_any W n k (hall k hk))
    generalize G = G at HK
    by_cases hB : 150 < (value.size : Int) ∨ 150 < wrap64 ((ini.size : Int) + fin.size) ∨ ¬ Short zs 150 zs.length ∨ ¬ KidsOk G ks ks.length
    · refine ⟨false, fun w hb => ?_⟩
      exact short29_walk W kind name value ini fin rule hi hf dn aq kq ac kc zs ks hz hk G HK false (fun _ => rfl) (fun _ => rfl) (fun _ _ _ => rfl) (fun _ _ _ => rfl) (fun a b c d => by
        rcases hB with h | h | h | h
        · exact absurd h a
        · exact absurd h b
        · exact absurd c h
        · exact absurd d h) w hb
    · have hS : Short zs 150 zs.length := Classical.byContradiction fun h => hB (.inr (.inr (.inl h)))
      have hT : KidsOk G ks ks.length := Classical.byContradiction fun h => hB (.inr (.inr (.inr h)))
      refine ⟨true, fun w hb => ?_⟩
      exact short29_walk W kind name value ini fin rule hi hf dn aq kq ac kc zs ks hz hk G HK true (fun h => absurd (.inl h) hB) (fun h => absurd (.inr (.inl h)) hB) (fun i hi h => by
        have := hS i hi
        omega) (fun i hi h => by rw [hT i hi] at h; cases h) (fun _ _ _ _ => rfl) w hb
end Go.Proofs.YtklbbnlhhfadcaaGreatDoor
