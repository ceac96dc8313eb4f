/- The walks of toponymlaw18.Few and toponymlaw29.FewEntry: any entry is small, or not. No condition. -/
import Derived.Test.YtklbbnlhhfadcaaGreatDoorMGreatDoorFw3
set_option maxRecDepth 100000
namespace Go.Proofs.YtklbbnlhhfadcaaGreatDoor
open Go.RowKit Go.Wd Go.Rq
structure Pr where
  name : ByteArray
  value : ByteArray
def Pr.cells (a : Pr) : List Value := [.string a.name, .string a.value]
def Pr.none : Pr := ⟨⟨#[]⟩, ⟨#[]⟩⟩
def Hd.none : Hd := (Option.none, 0, 0)
theorem pr_at {w : World} {v : Value} {ks : List Pr} (h : Sl w v 2 ks.length (ks.flatMap Pr.cells)) (i : Nat) (hi : i < ks.length) :
    ∃ b off cap, v = .slice (some ⟨b, off, none⟩) ks.length cap ∧ w.cell? ⟨b, off + i * 2, none⟩ = some (.string (ks.getD i Pr.none).name) ∧ w.cell? ⟨b, off + i * 2 + 1, none⟩ = some (.string (ks.getD i Pr.none).value) := by
  obtain ⟨b, off, cap, h1, h2⟩ := sl_at (f := Pr.cells) Pr.none (fun _ => rfl) h (by decide) i hi
  simp only [← Nat.add_assoc] at h2
  exact ⟨b, off, cap, h1, h2 0 (by decide), h2 1 (by decide)⟩
theorem hd_at {w : World} {v : Value} {ks : List Hd} (h : Sl w v 1 ks.length (ks.flatMap Hd.cells)) (i : Nat) (hi : i < ks.length) :
    ∃ b off cap, v = .slice (some ⟨b, off, none⟩) ks.length cap ∧ w.cell? ⟨b, off + i, none⟩ = some (ks.getD i Hd.none).val := by
  obtain ⟨b, off, cap, h1, h2⟩ := sl_at (f := Hd.cells) Hd.none (fun _ => rfl) h (by decide) i hi
  refine ⟨b, off, cap, h1, ?_⟩
  have := h2 0 (by decide)
  rw [Nat.mul_one, Nat.add_zero] at this
  exact this
/-- The first so many pairs are short. -/
def PShort (ps : List Pr) (n : Nat) : Prop := ∀ j, j < n → (ps.getD j Pr.none).name.size ≤ 1000 ∧ (ps.getD j Pr.none).value.size ≤ 1000
theorem PShort.more {zs : List Pr} {n : Nat} (h : PShort zs n) (h1 : (zs.getD n Pr.none).name.size ≤ 1000) (h2 : (zs.getD n Pr.none).value.size ≤ 1000) : PShort zs (n + 1) := fun j hj => by
  by_cases e : j = n
  · subst e; exact ⟨h1, h2⟩
  · exact h j (by omega)
def Ok2 (S : Hd → List Pr) (z : Hd) : Prop := ¬ 10 < ((S z).length : Int) ∧ PShort (S z) (S z).length
def AllOk2 (S : Hd → List Pr) (zs : List Hd) (n : Nat) : Prop := ∀ j, j < n → Ok2 S (zs.getD j Hd.none)
theorem AllOk2.more {S : Hd → List Pr} {zs : List Hd} {n : Nat} (h : AllOk2 S zs n) (hs : Ok2 S (zs.getD n Hd.none)) : AllOk2 S zs (n + 1) := fun j hj => by
  by_cases e : j = n
  · subst e; exact hs
  · exact h j (by omega)
def Sees2 (W : World) (S : Hd → List Pr) (zs : List Hd) : Prop := ∀ z ∈ zs, z.2.1 = (S z).length ∧ Sl W z.val 2 (S z).length ((S z).flatMap Pr.cells)
set_option maxHeartbeats 3200000 in
theorem few18_walk (w : World) (S : Hd → List Pr) (aq : Option Addr) (ac : Nat) (zs : List Hd) (hz : Sl w (.slice aq zs.length ac) 1 zs.length (zs.flatMap Hd.cells)) (hS : Sees2 w S zs)
    (r : Bool) (hr0 : 10 < (zs.length : Int) → r = false) (hr1 : ∀ i, i < zs.length → ¬ Ok2 S (zs.getD i Hd.none) → r = false) (hr4 : ¬ 10 < (zs.length : Int) → AllOk2 S zs zs.length → r = true) :
    Calls Tryz.prog 71 #[.slice aq zs.length ac] w fun e w' => e = .returned (.bool r) ∧ w' = w := by
  have R0 := Lib.hid hr0
  have R1 := Lib.hid hr1
  have R4 := Lib.hid hr4
  have HS := Lib.hid hS
  have Hz := Lib.hid hz
  clear hr0 hr1 hr4 hS hz
  go_enter Tryz.func71, Tryz.ntmps71
  by_cases h1 : 10 < (zs.length : Int)
  case pos =>
    obtain rfl := R0.out h1
    clear R0 R1 R4 HS Hz
    go_wp2
    go_ret
    exact ⟨rfl, rfl⟩
  have S4 := Lib.hid (R4.out h1)
  clear R0 R4
  go_wp2
  go_loopw [3] (fun i wr => ∃ k : Nat, k ≤ zs.length ∧ i = .int .i64 k ∧ AllOk2 S zs k ∧ w = wr) (fun i _ => zs.length - (intOf i).toNat)
  case atStart => exact ⟨0, Nat.zero_le _, rfl, fun j hj => absurd hj (Nat.not_lt_zero _), rfl⟩
  case round =>
    obtain ⟨k, hk, rfl, hall, rfl⟩ := hrel
    by_cases hlt : k < zs.length
    · obtain ⟨b, off, cap', e, z1⟩ := hd_at Hz.out k hlt
      cases e
      have hs := HS.out _ (getD_mem zs Hd.none k hlt)
      have HA := Lib.hid fun h => hall.more h
      have HN := Lib.hid (R1.out k hlt)
      clear hall Hz HS R1 S4
      generalize zs.getD k Hd.none = z at *
      obtain ⟨zq, zl, zc⟩ := z
      obtain ⟨hs1, hs2⟩ := hs
      have ol : Ok2 S (zq, zl, zc) = (¬ 10 < ((S (zq, zl, zc)).length : Int) ∧ PShort (S (zq, zl, zc)) (S (zq, zl, zc)).length) := rfl
      rw [ol] at HA HN
      clear ol
      generalize S (zq, zl, zc) = ss at *
      obtain rfl : zl = ss.length := hs1
      have hs2 : Sl w (.slice zq ss.length zc) 2 ss.length (ss.flatMap Pr.cells) := hs2
      dsimp only [Hd.val] at z1
      have Hs := Lib.hid hs2
      clear hs2
      by_cases h2 : 10 < (ss.length : Int)
      case pos =>
        obtain rfl := HN.out fun h => h.1 h2
        clear HA HN Hs
        go_wp2
        go_ret
        exact ⟨rfl, rfl⟩
      have HN2 := Lib.hid fun (h : ¬ PShort ss ss.length) => HN.out fun k => h k.2
      have HA2 := Lib.hid fun (h : PShort ss ss.length) => HA.out ⟨h2, h⟩
      clear HN HA
      go_wp2
      go_loopw [4] (fun i wr => ∃ k : Nat, k ≤ ss.length ∧ i = .int .i64 k ∧ PShort ss k ∧ w = wr) (fun i _ => ss.length - (intOf i).toNat)
      case atStart => exact ⟨0, Nat.zero_le _, rfl, fun j hj => absurd hj (Nat.not_lt_zero _), rfl⟩
      case round =>
        obtain ⟨m, hm, rfl, hsh, rfl⟩ := hrel
        by_cases hlt2 : m < ss.length
        · have hsh := Lib.hid hsh
          obtain ⟨b2, off2, cap2, e, y0, y1⟩ := pr_at Hs.out m hlt2
          cases e
          have HB := Lib.hid fun h h' => hsh.out.more h h'
          have HM := Lib.hid fun (h : ¬ ((ss.getD m Pr.none).name.size ≤ 1000 ∧ (ss.getD m Pr.none).value.size ≤ 1000)) => HN2.out fun (k : PShort ss ss.length) => h (k m hlt2)
          clear hsh Hs HA2 HN2
          generalize ss.getD m Pr.none = y at *
          obtain ⟨yn, yv⟩ := y
          dsimp only at y0 y1 HB HM
          by_cases h5 : 1000 < (yn.size : Int)
          case pos =>
            obtain rfl := HM.out (by omega)
            clear HB HM
            go_wp2
            go_ret
            exact ⟨rfl, rfl⟩
          by_cases h6 : 1000 < (yv.size : Int)
          case pos =>
            obtain rfl := HM.out (by omega)
            clear HB HM
            go_wp2
            go_ret
            exact ⟨rfl, rfl⟩
          have HB2 := Lib.hid (HB.out (by omega) (by omega))
          clear HM HB
          go_wp2
          go_roundw
          case rel => exact ⟨m + 1, by omega, by go_num, HB2.out, trivial⟩
          case measure => simp [intOf]; omega
        · have e : m = ss.length := by omega
          subst e
          have HA3 := Lib.hid (HA2.out hsh)
          clear HN2 HA2 Hs hsh
          go_wp2
          go_roundw
          case rel => exact ⟨k + 1, by omega, by go_num, HA3.out, trivial⟩
          case measure => simp [intOf]; omega
    · have e : k = zs.length := by omega
      subst e
      obtain rfl := S4.out hall
      clear S4 R1 HS Hz hall
      go_wp2
      go_ret
      exact ⟨rfl, rfl⟩
open Classical in
noncomputable def few18R (S : Hd → List Pr) (zs : List Hd) : Bool := decide (¬ 10 < (zs.length : Int) ∧ AllOk2 S zs zs.length)
open Classical in
theorem few18_any (w : World) (S : Hd → List Pr) (zs : List Hd) (v : Value) (hz : Sl w v 1 zs.length (zs.flatMap Hd.cells)) (hS : Sees2 w S zs) :
    Calls Tryz.prog 71 #[v] w fun e w' => e = .returned (.bool (few18R S zs)) ∧ w' = w := by
  obtain ⟨_, q, cap, rfl, _⟩ := id hz
  refine few18_walk w S q cap zs hz hS _ (fun h => ?_) (fun i hi h => ?_) (fun a b => ?_)
  · exact decide_eq_false fun k => k.1 h
  · exact decide_eq_false fun k => h (k.2 i hi)
  · exact decide_eq_true ⟨a, b⟩
end Go.Proofs.YtklbbnlhhfadcaaGreatDoor
