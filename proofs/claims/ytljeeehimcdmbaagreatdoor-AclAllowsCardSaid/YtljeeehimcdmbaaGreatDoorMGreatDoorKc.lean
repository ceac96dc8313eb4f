/- The walks of package dnkey but for parts, Depth and Text. No condition. -/
import Derived.Test.YtljeeehimcdmbaaGreatDoorMGreatDoorKb
import Derived.Handy
import Derived.Deep.QuietTactic
import Derived.BigQuiet
import Derived.Lib.Strings
namespace Go.Proofs.YtljeeehimcdmbaaGreatDoor.Dk
open Go.RowKit

/-- The slice v reads as the texts ss. -/
def StrsAt (w : World) (v : Value) (ss : List ByteArray) : Prop :=
  ∃ a cap, v = .slice a ss.length cap ∧ ∀ i, i < ss.length → ∃ b off, a = some ⟨b, off, none⟩ ∧ w.cell? ⟨b, off + i, none⟩ = some (.string (ss.getD i ByteArray.empty))

theorem StrsAt.below {w w' : World} {v : Value} {ss : List ByteArray} (h : StrsAt w v ss) (hb : Below w.heap.size w w') : StrsAt w' v ss := by
  obtain ⟨a, cap, hv, hc⟩ := h
  refine ⟨a, cap, hv, fun i hi => ?_⟩
  obtain ⟨b, off, ha, hcell⟩ := hc i hi
  exact ⟨b, off, ha, (hb.cell (p := ⟨b, off + i, none⟩) (World.block_lt_of_cell? w _ hcell)).trans hcell⟩

theorem all_snoc {α : Type} (l : List α) (p : α → Bool) (d : α) (k : Nat) (h : k < l.length) : (l.take (k + 1)).all p = ((l.take k).all p && p (l.getD k d)) := by
  rw [List.take_succ_eq_append_getElem h, List.all_append]
  simp [List.getD_eq_getElem?_getD, h]

theorem depthI_neg (s : ByteArray) : depthI s < 0 ↔ Key.isKey s.data.toList = false := by
  unfold depthI Key.isKey
  cases Key.depth s.data.toList with
  | none => simp
  | some d => simp

set_option maxHeartbeats 400000 in
theorem keys_any (ss : List ByteArray) (hs : ∀ s ∈ ss, s.size ≤ 1000000) (v : Value) (w : World) (h : StrsAt w v ss) (hl : ss.length ≤ 1000) :
    Calls Tryz.prog 35 #[v] w fun e w' => e = .returned (.bool (ss.all fun s => Key.isKey s.data.toList)) ∧ Below w.heap.size w w' := by
  obtain ⟨a, cap, rfl, hc⟩ := h
  go_enter Tryz.func35, Tryz.ntmps35
  go_wp2
  go_loopw [7] (fun i wr => ∃ k : Nat, k ≤ ss.length ∧ i = .int .i64 k ∧ (ss.take k).all (fun s => Key.isKey s.data.toList) = true ∧ Below w.heap.size w wr) (fun i _ => ss.length - (intOf i).toNat)
  case atStart => exact ⟨0, Nat.zero_le _, rfl, rfl, Below.refl _ _⟩
  case round =>
    obtain ⟨k, hk, rfl, hall, hb⟩ := hrel
    by_cases hlt : k < ss.length
    · obtain ⟨b, off, rfl, hcell⟩ := hc k hlt
      have hbl : b < w.heap.size := World.block_lt_of_cell? w _ hcell
      have hcell' := (hb.cell (p := ⟨b, off + k, none⟩) hbl).trans hcell
      have HS := Lib.hid (all_snoc ss (fun s => Key.isKey s.data.toList) ByteArray.empty k hlt)
      have HP : Key.isKey (ss.getD k ByteArray.empty).data.toList = false → Hid (ss.all (fun s => Key.isKey s.data.toList) = false) := by
        intro hf
        show _ = _
        rw [List.all_eq_false]
        exact ⟨ss.getD k ByteArray.empty, by rw [List.getD_eq_getElem?_getD]; simp [hlt], by rw [hf]; simp⟩
      have hsz : (ss.getD k ByteArray.empty).size ≤ 1000000 := hs _ (by rw [List.getD_eq_getElem?_getD]; simp [hlt])
      have HD := fun w => Lib.hid (depth_any (ss.getD k ByteArray.empty) hsz w)
      have HN := Lib.hid (depthI_neg (ss.getD k ByteArray.empty))
      have Hall := Lib.hid hall
      clear hc hcell hall hs
      generalize ss.getD k ByteArray.empty = s at *
      generalize depthI s = d at *
      have hsl : k + 1 ≤ 1000 := by omega
      by_cases hd : d < 0
      · have hf := HP (HN.out.1 hd)
        have dd : decide (d < 0) = true := decide_eq_true hd
        clear HP
        go_wp2_with (go_at_call 51; refine ((HD _).out).mono ?_; rintro e w' ⟨rfl, hb2⟩)
        go_ret
        exact ⟨(by rw [hf.out] : Ending.returned (.bool false) = _), hb.trans (hb2.mono hb.size)⟩
      · have ht : Hid (Key.isKey s.data.toList = true) := by
          show _ = _
          cases hk2 : Key.isKey s.data.toList with
          | true => rfl
          | false => exact absurd (HN.out.2 hk2) hd
        have dd : decide (d < 0) = false := decide_eq_false hd
        clear HP
        go_wp2_with (go_at_call 51; refine ((HD _).out).mono ?_; rintro e w' ⟨rfl, hb2⟩)
        go_roundw
        case rel => exact ⟨k + 1, by omega, by go_num, by rw [HS.out, Hall.out, ht.out]; rfl, hb.trans (hb2.mono hb.size)⟩
        case measure => simp [intOf]; omega
    · have e : k = ss.length := by omega
      have HT := Lib.hid (List.take_of_length_le (l := ss) (Nat.le_of_eq e.symm))
      have Hall := Lib.hid hall
      have hd : decide (k < ss.length) = false := decide_eq_false hlt
      clear e hc hall hs
      go_wp2
      go_ret
      exact ⟨(by rw [← Hall.out, HT.out] : Ending.returned (.bool true) = _), hb⟩

theorem strsAt1 {w : World} {b : Nat} (x : ByteArray) (h0 : w.cell? ⟨b, 0, none⟩ = some (.string x)) : StrsAt w (.slice (some ⟨b, 0, none⟩) 1 1) [x] :=
  ⟨_, 1, rfl, fun i hi => ⟨b, 0, rfl, match i, hi with | 0, _ => h0⟩⟩
theorem strsAt2 {w : World} {b : Nat} (x y : ByteArray) (h0 : w.cell? ⟨b, 0, none⟩ = some (.string x)) (h1 : w.cell? ⟨b, 1, none⟩ = some (.string y)) : StrsAt w (.slice (some ⟨b, 0, none⟩) 2 2) [x, y] :=
  ⟨_, 2, rfl, fun i hi => ⟨b, 0, rfl, match i, hi with | 0, _ => h0 | 1, _ => h1⟩⟩
theorem strsAt3 {w : World} {b : Nat} (x y z : ByteArray) (h0 : w.cell? ⟨b, 0, none⟩ = some (.string x)) (h1 : w.cell? ⟨b, 1, none⟩ = some (.string y)) (h2 : w.cell? ⟨b, 2, none⟩ = some (.string z)) : StrsAt w (.slice (some ⟨b, 0, none⟩) 3 3) [x, y, z] :=
  ⟨_, 3, rfl, fun i hi => ⟨b, 0, rfl, match i, hi with | 0, _ => h0 | 1, _ => h1 | 2, _ => h2⟩⟩

def isK (s : ByteArray) : Bool := Key.isKey s.data.toList

theorem keys1 (x : ByteArray) (hx : x.size ≤ 1000000) (b : Nat) (w : World) (h0 : w.cell? ⟨b, 0, none⟩ = some (.string x)) :
    Calls Tryz.prog 35 #[.slice (some ⟨b, 0, none⟩) 1 1] w fun e w' => e = .returned (.bool (isK x)) ∧ Below w.heap.size w w' := by
  refine (keys_any [x] (by simpa using hx) _ w (strsAt1 x h0) (by simp)).mono ?_
  rintro e w' ⟨rfl, hb⟩
  exact ⟨by simp [isK], hb⟩
theorem keys2 (x y : ByteArray) (hx : x.size ≤ 1000000) (hy : y.size ≤ 1000000) (b : Nat) (w : World) (h0 : w.cell? ⟨b, 0, none⟩ = some (.string x)) (h1 : w.cell? ⟨b, 1, none⟩ = some (.string y)) :
    Calls Tryz.prog 35 #[.slice (some ⟨b, 0, none⟩) 2 2] w fun e w' => e = .returned (.bool (isK x && isK y)) ∧ Below w.heap.size w w' := by
  refine (keys_any [x, y] (by simp; exact ⟨hx, hy⟩) _ w (strsAt2 x y h0 h1) (by simp)).mono ?_
  rintro e w' ⟨rfl, hb⟩
  exact ⟨by simp [isK], hb⟩
theorem keys3 (x y z : ByteArray) (hx : x.size ≤ 1000000) (hy : y.size ≤ 1000000) (hz : z.size ≤ 1000000) (b : Nat) (w : World) (h0 : w.cell? ⟨b, 0, none⟩ = some (.string x)) (h1 : w.cell? ⟨b, 1, none⟩ = some (.string y)) (h2 : w.cell? ⟨b, 2, none⟩ = some (.string z)) :
    Calls Tryz.prog 35 #[.slice (some ⟨b, 0, none⟩) 3 3] w fun e w' => e = .returned (.bool (isK x && isK y && isK z)) ∧ Below w.heap.size w w' := by
  refine (keys_any [x, y, z] (by simp; exact ⟨hx, hy, hz⟩) _ w (strsAt3 x y z h0 h1 h2) (by simp)).mono ?_
  rintro e w' ⟨rfl, hb⟩
  exact ⟨by simp [isK, Bool.and_assoc], hb⟩

def underR (a b : ByteArray) : Bool := (isK a && isK b) && Lib.hasPrefix a.data.toList b.data.toList

theorem under_any (a b : ByteArray) (ha : a.size ≤ 1000000) (hb : b.size ≤ 1000000) (w : World) :
    Calls Tryz.prog 23 #[.string a, .string b] w fun e w' => e = .returned (.bool (underR a b)) ∧ Below w.heap.size w w' := by
  have H := fun k w h0 h1 => Lib.hid (keys2 a b ha hb k w h0 h1)
  have HP := fun w => Lib.hid (Tryz.strings_HasPrefix a b w)
  unfold underR
  generalize (isK a && isK b) = k at *
  generalize Lib.hasPrefix a.data.toList b.data.toList = p at *
  cases k
  · go_enter Tryz.func23, Tryz.ntmps23
    go_wp2_with fail
    refine ((H _ _ (by simp [go_sem]) (by simp [go_sem])).out).mono ?_; rintro e w' ⟨rfl, hb⟩
    go_wp2
    go_ret
    exact ⟨rfl, ((Below.refl _ _).alloc (Nat.le_refl _) _).trans (hb.mono (by simp))⟩
  · go_enter Tryz.func23, Tryz.ntmps23
    go_wp2_with fail
    refine ((H _ _ (by simp [go_sem]) (by simp [go_sem])).out).mono ?_; rintro e w' ⟨rfl, hb⟩
    go_wp2_with fail
    refine ((HP _).out).mono ?_; rintro e w' ⟨rfl, rfl⟩
    go_wp2
    go_ret
    exact ⟨by rw [Bool.true_and]; rfl, ((Below.refl _ _).alloc (Nat.le_refl _) _).trans (hb.mono (by simp))⟩

end Go.Proofs.YtljeeehimcdmbaaGreatDoor.Dk
