/- The walk of toponymlaw26.few: any values are few, or not. No condition. -/
import Derived.Test.YtjkhemeiliflgaaGreatDoorMGreatDoorFw3
namespace Go.Proofs.YtjkhemeiliflgaaGreatDoor
open Go.RowKit Go.Wd Go.Rq
/-- An attribute of an entry: its name, and its values' words. -/
structure Vls where
  name : ByteArray
  vs : Hd
def Vls.cells (z : Vls) : List Value := [.string z.name, z.vs.val]
def Vls.none : Vls := ⟨⟨#[]⟩, (Option.none, 0, 0)⟩
theorem vls_at {w : World} {v : Value} {ks : List Vls} (h : Sl w v 2 ks.length (ks.flatMap Vls.cells)) (i : Nat) (hi : i < ks.length) :
    ∃ b off cap, v = .slice (some ⟨b, off, none⟩) ks.length cap ∧ w.cell? ⟨b, off + i * 2, none⟩ = some (.string (ks.getD i Vls.none).name) ∧ w.cell? ⟨b, off + i * 2 + 1, none⟩ = some (ks.getD i Vls.none).vs.val := by
  obtain ⟨b, off, cap, h1, h2⟩ := sl_at (f := Vls.cells) Vls.none (fun _ => rfl) h (by decide) i hi
  simp only [← Nat.add_assoc] at h2
  exact ⟨b, off, cap, h1, h2 0 (by decide), h2 1 (by decide)⟩
/-- One attribute is small, by what its values are. -/
def Ok1 (S : Vls → List ByteArray) (z : Vls) : Prop := ¬ 20 < ((S z).length : Int) ∧ ¬ 1000 < (z.name.size : Int) ∧ Short (S z) 2000 (S z).length
def AllOk (S : Vls → List ByteArray) (zs : List Vls) (n : Nat) : Prop := ∀ j, j < n → Ok1 S (zs.getD j Vls.none)
theorem AllOk.more {S : Vls → List ByteArray} {zs : List Vls} {n : Nat} (h : AllOk S zs n) (hs : Ok1 S (zs.getD n Vls.none)) : AllOk S zs (n + 1) := fun j hj => by
  by_cases e : j = n
  · subst e; exact hs
  · exact h j (by omega)
/-- What stands behind the words of each. -/
def Sees (W : World) (S : Vls → List ByteArray) (zs : List Vls) : Prop := ∀ z ∈ zs, z.vs.2.1 = (S z).length ∧ Sl W z.vs.val 1 (S z).length ((S z).flatMap strC)
set_option maxHeartbeats 3200000 in
theorem few26_walk (w : World) (S : Vls → List ByteArray) (aq : Option Addr) (ac : Nat) (zs : List Vls) (hz : Sl w (.slice aq zs.length ac) 2 zs.length (zs.flatMap Vls.cells)) (hS : Sees w S zs)
    (r : Bool) (hr0 : 20 < (zs.length : Int) → r = false) (hr1 : ∀ i, i < zs.length → ¬ Ok1 S (zs.getD i Vls.none) → r = false) (hr4 : ¬ 20 < (zs.length : Int) → AllOk S zs zs.length → r = true) :
    Calls Tryz.prog 33 #[.slice aq zs.length ac] w fun e w' => e = .returned (.bool r) ∧ w' = w := by
  have R0 := Lib.hid hr0
  have R1 := Lib.hid hr1
  have R4 := Lib.hid hr4
  have HS := Lib.hid hS
  have Hz := Lib.hid hz
  clear hr0 hr1 hr4 hS hz
  go_enter Tryz.func33, Tryz.ntmps33
  by_cases h1 : 20 < (zs.length : Int)
  case pos =>
    obtain rfl := R0.out h1
    clear R0 R1 R4 HS Hz
    go_wp2
    go_ret
    exact ⟨rfl, rfl⟩
  have S4 := Lib.hid (R4.out h1)
  clear R0 R4
  go_wp2
  go_loopw [3] (fun i wr => ∃ k : Nat, k ≤ zs.length ∧ i = .int .i64 k ∧ AllOk S zs k ∧ w = wr) (fun i _ => zs.length - (intOf i).toNat)
  case atStart => exact ⟨0, Nat.zero_le _, rfl, fun j hj => absurd hj (Nat.not_lt_zero _), rfl⟩
  case round =>
    obtain ⟨k, hk, rfl, hall, rfl⟩ := hrel
    by_cases hlt : k < zs.length
    · obtain ⟨b, off, cap', e, z0, z1⟩ := vls_at Hz.out k hlt
      cases e
      have hs := HS.out _ (getD_mem zs Vls.none k hlt)
      have HA := Lib.hid fun h => hall.more h
      have HN := Lib.hid (R1.out k hlt)
      clear hall Hz HS R1 S4
      generalize zs.getD k Vls.none = z at *
      obtain ⟨zn, ⟨zq, zl, zc⟩⟩ := z
      obtain ⟨hs1, hs2⟩ := hs
      have ol : Ok1 S ⟨zn, (zq, zl, zc)⟩ = (¬ 20 < ((S ⟨zn, (zq, zl, zc)⟩).length : Int) ∧ ¬ 1000 < (zn.size : Int) ∧ Short (S ⟨zn, (zq, zl, zc)⟩) 2000 (S ⟨zn, (zq, zl, zc)⟩).length) := rfl
      rw [ol] at HA HN
      clear ol
      generalize S ⟨zn, (zq, zl, zc)⟩ = ss at *
      obtain rfl : zl = ss.length := hs1
      have hs2 : Sl w (.slice zq ss.length zc) 1 ss.length (ss.flatMap strC) := hs2
      dsimp only [Hd.val] at z0 z1
      have Hs := Lib.hid hs2
      clear hs2
      by_cases h2 : 20 < (ss.length : Int)
      case pos =>
        obtain rfl := HN.out fun h => h.1 h2
        clear HA HN Hs
        go_wp2
        go_ret
        exact ⟨rfl, rfl⟩
      by_cases h3 : 1000 < (zn.size : Int)
      case pos =>
        obtain rfl := HN.out fun h => h.2.1 h3
        clear HA HN Hs
        go_wp2
        go_ret
        exact ⟨rfl, rfl⟩
      have HN2 := Lib.hid fun (h : ¬ Short ss 2000 ss.length) => HN.out fun k => h k.2.2
      have HA2 := Lib.hid fun (h : Short ss 2000 ss.length) => HA.out ⟨h2, h3, h⟩
      clear HN HA
      go_wp2
      go_loopw [4] (fun i wr => ∃ k : Nat, k ≤ ss.length ∧ i = .int .i64 k ∧ Short ss 2000 k ∧ w = wr) (fun i _ => ss.length - (intOf i).toNat)
      case atStart => exact ⟨0, Nat.zero_le _, rfl, fun j hj => absurd hj (Nat.not_lt_zero _), rfl⟩
      case round =>
        obtain ⟨m, hm, rfl, hsh, rfl⟩ := hrel
        by_cases hlt2 : m < ss.length
        · have hsh := Lib.hid hsh
          obtain ⟨b2, off2, cap2, e, y0⟩ := str_at Hs.out m hlt2
          cases e
          have HB := Lib.hid fun h => hsh.out.more h
          have HM := Lib.hid fun (h : ¬ (ss.getD m ⟨#[]⟩).size ≤ 2000) => HN2.out fun (k : Short ss 2000 ss.length) => h (k m hlt2)
          clear hsh Hs HA2 HN2
          generalize ss.getD m ⟨#[]⟩ = y at *
          by_cases h5 : 2000 < (y.size : Int)
          case pos =>
            obtain rfl := HM.out (by omega)
            clear HB HM
            go_wp2
            go_ret
            exact ⟨rfl, rfl⟩
          case neg =>
            have HB2 := Lib.hid (HB.out (by omega))
            clear HM HB
            go_wp2
            go_roundw
            case rel => exact ⟨m + 1, by omega, by go_num, HB2.out, trivial⟩
            case measure => simp [intOf]; omega
        · have e : m = ss.length := by omega
          subst e
          have HA3 := Lib.hid (HA2.out hsh)
          clear HN2 HA2 Hs hsh
          go_wp2
          go_roundw
          case rel => exact ⟨k + 1, by omega, by go_num, HA3.out, trivial⟩
          case measure => simp [intOf]; omega
    · have e : k = zs.length := by omega
      subst e
      obtain rfl := S4.out hall
      clear S4 R1 HS Hz hall
      go_wp2
      go_ret
      exact ⟨rfl, rfl⟩
open Classical in
noncomputable def few26R (S : Vls → List ByteArray) (zs : List Vls) : Bool := decide (¬ 20 < (zs.length : Int) ∧ AllOk S zs zs.length)
open Classical in
theorem few26_any (w : World) (S : Vls → List ByteArray) (zs : List Vls) (v : Value) (hz : Sl w v 2 zs.length (zs.flatMap Vls.cells)) (hS : Sees w S zs) :
    Calls Tryz.prog 33 #[v] w fun e w' => e = .returned (.bool (few26R S zs)) ∧ w' = w := by
  obtain ⟨_, q, cap, rfl, _⟩ := id hz
  refine few26_walk w S q cap zs hz hS _ (fun h => ?_) (fun i hi h => ?_) (fun a b => ?_)
  · exact decide_eq_false fun k => k.1 h
  · exact decide_eq_false fun k => h (k.2 i hi)
  · exact decide_eq_true ⟨a, b⟩
end Go.Proofs.YtjkhemeiliflgaaGreatDoor
