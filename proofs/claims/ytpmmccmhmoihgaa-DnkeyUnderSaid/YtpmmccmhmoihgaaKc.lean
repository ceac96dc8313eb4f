/- The walks of package dnkey but for parts, Depth and Text. No condition. -/
import Derived.Test.YtpmmccmhmoihgaaKb
import Derived.Handy
import Derived.Deep.QuietTactic
import Derived.BigQuiet
import Derived.Lib.Strings
namespace Go.Proofs.Ytpmmccmhmoihgaa
open Go.RowKit

/-- The slice v reads as the texts ss. -/
def StrsAt (w : World) (v : Value) (ss : List ByteArray) : Prop :=
  ∃ a cap, v = .slice a ss.length cap ∧ ∀ i, i < ss.length → ∃ b off, a = some ⟨b, off, none⟩ ∧ w.cell? ⟨b, off + i, none⟩ = some (.string (ss.getD i ByteArray.empty))

theorem StrsAt.below {w w' : World} {v : Value} {ss : List ByteArray} (h : StrsAt w v ss) (hb : Below w.heap.size w w') : StrsAt w' v ss := by
  obtain ⟨a, cap, hv, hc⟩ := h
  refine ⟨a, cap, hv, fun i hi => ?_⟩
  obtain ⟨b, off, ha, hcell⟩ := hc i hi
  exact ⟨b, off, ha, (hb.cell (p := ⟨b, off + i, none⟩) (World.block_lt_of_cell? w _ hcell)).trans hcell⟩

theorem all_snoc {α : Type} (l : List α) (p : α → Bool) (d : α) (k : Nat) (h : k < l.length) : (l.take (k + 1)).all p = ((l.take k).all p && p (l.getD k d)) := by
  rw [List.take_succ_eq_append_getElem h, List.all_append]
  simp [List.getD_eq_getElem?_getD, h]

theorem depthI_neg (s : ByteArray) : depthI s < 0 ↔ Key.isKey s.data.toList = false := by
  unfold depthI Key.isKey
  cases Key.depth s.data.toList with
  | none => simp
  | some d => simp

set_option maxHeartbeats 400000 in
theorem keys_any (ss : List ByteArray) (hs : ∀ s ∈ ss, s.size ≤ 1000000) (v : Value) (w : World) (h : StrsAt w v ss) (hl : ss.length ≤ 1000) :
    Calls Try.prog 42 #[v] w fun e w' => e = .returned (.bool (ss.all fun s => Key.isKey s.data.toList)) ∧ Below w.heap.size w w' := by
  obtain ⟨a, cap, rfl, hc⟩ := h
  go_enter Try.func42, Try.ntmps42
  go_wp2
  go_loopw [7] (fun i wr => ∃ k : Nat, k ≤ ss.length ∧ i = .int .i64 k ∧ (ss.take k).all (fun s => Key.isKey s.data.toList) = true ∧ Below w.heap.size w wr) (fun i _ => ss.length - (intOf i).toNat)
  case atStart => exact ⟨0, Nat.zero_le _, rfl, rfl, Below.refl _ _⟩
  case round =>
    obtain ⟨k, hk, rfl, hall, hb⟩ := hrel
    by_cases hlt : k < ss.length
    · obtain ⟨b, off, rfl, hcell⟩ := hc k hlt
      have hbl : b < w.heap.size := World.block_lt_of_cell? w _ hcell
      have hcell' := (hb.cell (p := ⟨b, off + k, none⟩) hbl).trans hcell
      have HS := Lib.hid (all_snoc ss (fun s => Key.isKey s.data.toList) ByteArray.empty k hlt)
      have HP : Key.isKey (ss.getD k ByteArray.empty).data.toList = false → Hid (ss.all (fun s => Key.isKey s.data.toList) = false) := by
        intro hf
        show _ = _
        rw [List.all_eq_false]
        exact ⟨ss.getD k ByteArray.empty, by rw [List.getD_eq_getElem?_getD]; simp [hlt], by rw [hf]; simp⟩
      have hsz : (ss.getD k ByteArray.empty).size ≤ 1000000 := hs _ (by rw [List.getD_eq_getElem?_getD]; simp [hlt])
      have HD := fun w => Lib.hid (depth_any (ss.getD k ByteArray.empty) hsz w)
      have HN := Lib.hid (depthI_neg (ss.getD k ByteArray.empty))
      have Hall := Lib.hid hall
      clear hc hcell hall hs
      generalize ss.getD k ByteArray.empty = s at *
      generalize depthI s = d at *
      have hsl : k + 1 ≤ 1000 := by omega
      by_cases hd : d < 0
      · have hf := HP (HN.out.1 hd)
        have dd : decide (d < 0) = true := decide_eq_true hd
        clear HP
        go_wp2_with (go_at_call 29; refine ((HD _).out).mono ?_; rintro e w' ⟨rfl, hb2⟩)
        go_ret
        exact ⟨(by rw [hf.out] : Ending.returned (.bool false) = _), hb.trans (hb2.mono hb.size)⟩
      · have ht : Hid (Key.isKey s.data.toList = true) := by
          show _ = _
          cases hk2 : Key.isKey s.data.toList with
          | true => rfl
          | false => exact absurd (HN.out.2 hk2) hd
        have dd : decide (d < 0) = false := decide_eq_false hd
        clear HP
        go_wp2_with (go_at_call 29; refine ((HD _).out).mono ?_; rintro e w' ⟨rfl, hb2⟩)
        go_roundw
        case rel => exact ⟨k + 1, by omega, by go_num, by rw [HS.out, Hall.out, ht.out]; rfl, hb.trans (hb2.mono hb.size)⟩
        case measure => simp [intOf]; omega
    · have e : k = ss.length := by omega
      have HT := Lib.hid (List.take_of_length_le (l := ss) (Nat.le_of_eq e.symm))
      have Hall := Lib.hid hall
      have hd : decide (k < ss.length) = false := decide_eq_false hlt
      clear e hc hall hs
      go_wp2
      go_ret
      exact ⟨(by rw [← Hall.out, HT.out] : Ending.returned (.bool true) = _), hb⟩

theorem strsAt1 {w : World} {b : Nat} (x : ByteArray) (h0 : w.cell? ⟨b, 0, none⟩ = some (.string x)) : StrsAt w (.slice (some ⟨b, 0, none⟩) 1 1) [x] :=
  ⟨_, 1, rfl, fun i hi => ⟨b, 0, rfl, match i, hi with | 0, _ => h0⟩⟩
theorem strsAt2 {w : World} {b : Nat} (x y : ByteArray) (h0 : w.cell? ⟨b, 0, none⟩ = some (.string x)) (h1 : w.cell? ⟨b, 1, none⟩ = some (.string y)) : StrsAt w (.slice (some ⟨b, 0, none⟩) 2 2) [x, y] :=
  ⟨_, 2, rfl, fun i hi => ⟨b, 0, rfl, match i, hi with | 0, _ => h0 | 1, _ => h1⟩⟩
theorem strsAt3 {w : World} {b : Nat} (x y z : ByteArray) (h0 : w.cell? ⟨b, 0, none⟩ = some (.string x)) (h1 : w.cell? ⟨b, 1, none⟩ = some (.string y)) (h2 : w.cell? ⟨b, 2, none⟩ = some (.string z)) : StrsAt w (.slice (some ⟨b, 0, none⟩) 3 3) [x, y, z] :=
  ⟨_, 3, rfl, fun i hi => ⟨b, 0, rfl, match i, hi with | 0, _ => h0 | 1, _ => h1 | 2, _ => h2⟩⟩

def isK (s : ByteArray) : Bool := Key.isKey s.data.toList

theorem keys1 (x : ByteArray) (hx : x.size ≤ 1000000) (b : Nat) (w : World) (h0 : w.cell? ⟨b, 0, none⟩ = some (.string x)) :
    Calls Try.prog 42 #[.slice (some ⟨b, 0, none⟩) 1 1] w fun e w' => e = .returned (.bool (isK x)) ∧ Below w.heap.size w w' := by
  refine (keys_any [x] (by simpa using hx) _ w (strsAt1 x h0) (by simp)).mono ?_
  rintro e w' ⟨rfl, hb⟩
  exact ⟨by simp [isK], hb⟩
theorem keys2 (x y : ByteArray) (hx : x.size ≤ 1000000) (hy : y.size ≤ 1000000) (b : Nat) (w : World) (h0 : w.cell? ⟨b, 0, none⟩ = some (.string x)) (h1 : w.cell? ⟨b, 1, none⟩ = some (.string y)) :
    Calls Try.prog 42 #[.slice (some ⟨b, 0, none⟩) 2 2] w fun e w' => e = .returned (.bool (isK x && isK y)) ∧ Below w.heap.size w w' := by
  refine (keys_any [x, y] (by simp; exact ⟨hx, hy⟩) _ w (strsAt2 x y h0 h1) (by simp)).mono ?_
  rintro e w' ⟨rfl, hb⟩
  exact ⟨by simp [isK], hb⟩
theorem keys3 (x y z : ByteArray) (hx : x.size ≤ 1000000) (hy : y.size ≤ 1000000) (hz : z.size ≤ 1000000) (b : Nat) (w : World) (h0 : w.cell? ⟨b, 0, none⟩ = some (.string x)) (h1 : w.cell? ⟨b, 1, none⟩ = some (.string y)) (h2 : w.cell? ⟨b, 2, none⟩ = some (.string z)) :
    Calls Try.prog 42 #[.slice (some ⟨b, 0, none⟩) 3 3] w fun e w' => e = .returned (.bool (isK x && isK y && isK z)) ∧ Below w.heap.size w w' := by
  refine (keys_any [x, y, z] (by simp; exact ⟨hx, hy, hz⟩) _ w (strsAt3 x y z h0 h1 h2) (by simp)).mono ?_
  rintro e w' ⟨rfl, hb⟩
  exact ⟨by simp [isK, Bool.and_assoc], hb⟩

theorem check_any (s : ByteArray) (hs : s.size ≤ 1000000) (w : World) :
    Calls Try.prog 27 #[.string s] w fun e w' => e = .returned (.int .i64 (if isK s = true then 0 else 220)) ∧ Below w.heap.size w w' := by
  have H := fun b w h => Lib.hid (keys1 s hs b w h)
  generalize isK s = k at *
  cases k
  all_goals
    go_enter Try.func27, Try.ntmps27
    go_wp2_with fail
    refine ((H _ _ (by simp [go_sem])).out).mono ?_; rintro e w' ⟨rfl, hb⟩
    go_wp2
    go_ret
    exact ⟨rfl, ((Below.refl _ _).alloc (Nat.le_refl _) _).trans (hb.mono (by simp))⟩

theorem empty_of_size {s : ByteArray} (h : ¬ s.size = 0) : s.toList.isEmpty = false ∧ ¬ s.toList = [] := by
  rw [Lib.toList_data]
  have : s.data.toList.length ≠ 0 := by rw [← Lib.size_eq]; exact h
  constructor
  · cases hh : s.data.toList with
    | nil => rw [hh] at this; simp at this
    | cons _ _ => rfl
  · intro e; rw [e] at this; simp at this

def aboveR (s : ByteArray) : ByteArray := if s.size = 0 ∨ isK s = false then ⟨#[]⟩ else s.extract 0 (Key.aboveAt s.data.toList (s.size - 1))
def hasAbove (s : ByteArray) : Bool := !decide (s.size = 0) && isK s

set_option maxHeartbeats 400000 in
theorem above_any (s : ByteArray) (hs : s.size ≤ 1000000) (w : World) :
    Calls Try.prog 25 #[.string s] w fun e w' => e = .returned (.tuple #[.string (aboveR s), .bool (hasAbove s)]) ∧ Below w.heap.size w w' := by
  have H := fun b w h => Lib.hid (keys1 s hs b w h)
  by_cases h0 : s.size = 0
  · have e1 : aboveR s = ⟨#[]⟩ := by unfold aboveR; rw [if_pos (.inl h0)]
    have e2 : hasAbove s = false := by unfold hasAbove; rw [decide_eq_true h0]; rfl
    rw [e1, e2]
    have hz : s = ⟨#[]⟩ := by
      have : s.data.toList = [] := List.length_eq_zero_iff.1 (by rw [← Lib.size_eq]; exact h0)
      rw [← Lib.mk_data s, this]
    subst hz
    clear e1 e2 h0 H
    go_enter Try.func25, Try.ntmps25
    go_wp2
    go_ret2
    exact ⟨rfl, Below.refl _ _⟩
  · obtain ⟨hne, hne2⟩ := empty_of_size h0
    cases hk : isK s with
    | false =>
      have e1 : aboveR s = ⟨#[]⟩ := by unfold aboveR; rw [if_pos (.inr hk)]
      have e2 : hasAbove s = false := by unfold hasAbove; rw [hk, Bool.and_false]
      rw [e1, e2]
      rw [hk] at H
      clear hk e1 e2
      go_enter Try.func25, Try.ntmps25
      go_wp2_with fail
      refine ((H _ _ (by simp [go_sem])).out).mono ?_; rintro e w' ⟨rfl, hb⟩
      go_wp2
      go_ret2
      exact ⟨rfl, ((Below.refl _ _).alloc (Nat.le_refl _) _).trans (hb.mono (by simp))⟩
    | true =>
      have hle := Key.aboveAt_le s.data.toList (s.size - 1)
      have hE : aboveR s = s.extract 0 (Key.aboveAt s.data.toList (s.size - 1)) := by
        unfold aboveR
        rw [if_neg]
        rintro (h | h)
        · exact h0 h
        · rw [hk] at h; cases h
      have e2 : hasAbove s = true := by unfold hasAbove; rw [hk, decide_eq_false h0]; rfl
      rw [hE, e2]
      rw [hk] at H
      have hsz : (s.extract 0 (s.size - 1)).size = s.size - 1 := by simp
      have hL : Lib.lastIndexByte (s.extract 0 (s.size - 1)) 0 + 1 = Key.aboveAt s.data.toList (s.size - 1) := by
        unfold Lib.lastIndexByte
        rw [hsz]
        refine Key.lastIdx_at _ _ (s.size - 1) (by omega) (fun i hi => ?_)
        have hi2 : i < s.data.size := by have : s.data.size = s.size := rfl; omega
        rw [Lib.extract_data]
        simp [List.getD_eq_getElem?_getD, hi]
        rw [Array.getElem?_eq_getElem hi2]; rfl
      have HLI := fun w => Lib.hid (Try.strings_LastIndexByte (s.extract 0 (s.size - 1)) 0 (by rw [hsz]; omega) w)
      generalize Key.aboveAt s.data.toList (s.size - 1) = j at *
      generalize hg : Lib.lastIndexByte (s.extract 0 (s.size - 1)) 0 = g at *
      have g2 : g = (j : Int) - 1 := by omega
      subst g2
      clear hg hL hk hE e2 hsz
      have q1 : (0 : Int) ≤ (s.size : Int) - 1 := by omega
      have q2 : (s.size : Int) - 1 ≤ (s.size : Int) := by omega
      have q3 : (j : Int) ≤ (s.size : Int) := by omega
      go_enter Try.func25, Try.ntmps25
      go_wp2_with fail
      refine ((H _ _ (by simp [go_sem])).out).mono ?_; rintro e w' ⟨rfl, hb⟩
      go_wp2_with fail
      refine ((HLI _).out).mono ?_; rintro e w' ⟨rfl, rfl⟩
      go_wp2
      go_ret2
      exact ⟨rfl, ((Below.refl _ _).alloc (Nat.le_refl _) _).trans (hb.mono (by simp))⟩

theorem cutPrefix_any (s p : ByteArray) (w : World) : Calls Try.prog 45 #[.string s, .string p] w fun e w' => e = .returned (.tuple #[.string ⟨(Lib.trimPrefix s.data.toList p.data.toList).toArray⟩, .bool (Lib.hasPrefix s.data.toList p.data.toList)]) ∧ w' = w :=
  Try.strings_CutPrefix s p w

def underR (a b : ByteArray) : Bool := (isK a && isK b) && Lib.hasPrefix a.data.toList b.data.toList

theorem under_any (a b : ByteArray) (ha : a.size ≤ 1000000) (hb : b.size ≤ 1000000) (w : World) :
    Calls Try.prog 35 #[.string a, .string b] w fun e w' => e = .returned (.bool (underR a b)) ∧ Below w.heap.size w w' := by
  have H := fun k w h0 h1 => Lib.hid (keys2 a b ha hb k w h0 h1)
  have HP := fun w => Lib.hid (Try.strings_HasPrefix a b w)
  unfold underR
  generalize (isK a && isK b) = k at *
  generalize Lib.hasPrefix a.data.toList b.data.toList = p at *
  cases k
  · go_enter Try.func35, Try.ntmps35
    go_wp2_with fail
    refine ((H _ _ (by simp [go_sem]) (by simp [go_sem])).out).mono ?_; rintro e w' ⟨rfl, hb⟩
    go_wp2
    go_ret
    exact ⟨rfl, ((Below.refl _ _).alloc (Nat.le_refl _) _).trans (hb.mono (by simp))⟩
  · go_enter Try.func35, Try.ntmps35
    go_wp2_with fail
    refine ((H _ _ (by simp [go_sem]) (by simp [go_sem])).out).mono ?_; rintro e w' ⟨rfl, hb⟩
    go_wp2_with fail
    refine ((HP _).out).mono ?_; rintro e w' ⟨rfl, rfl⟩
    go_wp2
    go_ret
    exact ⟨by rw [Bool.true_and]; rfl, ((Below.refl _ _).alloc (Nat.le_refl _) _).trans (hb.mono (by simp))⟩

def nextR (a b : ByteArray) : Bool := hasAbove a && ((aboveR a).toList == b.toList)

theorem next_any (a b : ByteArray) (ha : a.size ≤ 1000000) (w : World) :
    Calls Try.prog 37 #[.string a, .string b] w fun e w' => e = .returned (.bool (nextR a b)) ∧ Below w.heap.size w w' := by
  have H := fun w => Lib.hid (above_any a ha w)
  unfold nextR
  generalize aboveR a = u at *
  generalize hasAbove a = k at *
  cases k
  all_goals
    go_enter Try.func37, Try.ntmps37
    go_wp2_with fail
    refine ((H _).out).mono ?_; rintro e w' ⟨rfl, hb⟩
    go_wp2
    go_ret
    exact ⟨by first | rfl | simp, hb⟩

def moveOk (key fr to : ByteArray) : Bool := Lib.hasPrefix key.data.toList fr.data.toList && (isK key && isK fr && isK to)
def moveR (key fr to : ByteArray) : ByteArray := if moveOk key fr to = true then to ++ ⟨(Lib.trimPrefix key.data.toList fr.data.toList).toArray⟩ else ⟨#[]⟩

set_option maxHeartbeats 400000 in
theorem move_any (key fr to : ByteArray) (h1 : key.size ≤ 100000) (h2 : fr.size ≤ 100000) (h3 : to.size ≤ 100000) (w : World) :
    Calls Try.prog 33 #[.string key, .string fr, .string to] w fun e w' => e = .returned (.tuple #[.string (moveR key fr to), .int .i64 (if moveOk key fr to = true then 0 else 220)]) ∧ Below w.heap.size w w' := by
  have H := fun k w h0 h1' h2' => Lib.hid (keys3 key fr to (by omega) (by omega) (by omega) k w h0 h1' h2')
  have HC := fun w => Lib.hid (cutPrefix_any key fr w)
  unfold moveR
  unfold moveOk
  have hlen : (Lib.trimPrefix key.data.toList fr.data.toList).length ≤ 100000 := by
    unfold Lib.trimPrefix
    rw [Lib.size_eq] at h1
    split
    · rw [List.length_drop]; omega
    · exact h1
  have hsz : (⟨(Lib.trimPrefix key.data.toList fr.data.toList).toArray⟩ : ByteArray).size ≤ 100000 := by simpa [ByteArray.size] using hlen
  clear hlen
  generalize (⟨(Lib.trimPrefix key.data.toList fr.data.toList).toArray⟩ : ByteArray) = rest at *
  generalize (isK key && isK fr && isK to) = k at *
  generalize Lib.hasPrefix key.data.toList fr.data.toList = p at *
  have hroom : ¬ 9223372036854775807 < to.size + rest.size := by omega
  have hroom2 : to.size + rest.size ≤ 9223372036854775807 := by omega
  cases p
  · go_enter Try.func33, Try.ntmps33
    go_wp2_with fail
    refine ((HC _).out).mono ?_; rintro e w' ⟨rfl, rfl⟩
    go_wp2
    go_ret2
    exact ⟨rfl, Below.refl _ _⟩
  · cases k
    all_goals
      go_enter Try.func33, Try.ntmps33
      go_wp2_with fail
      refine ((HC _).out).mono ?_; rintro e w' ⟨rfl, rfl⟩
      go_wp2_with fail
      refine ((H _ _ (by simp [go_sem]) (by simp [go_sem]) (by simp [go_sem])).out).mono ?_; rintro e w' ⟨rfl, hb⟩
      go_wp2
      go_ret2
      exact ⟨rfl, ((Below.refl _ _).alloc (Nat.le_refl _) _).trans (hb.mono (by simp))⟩

def behindR (s : ByteArray) : ByteArray := if s.size = 0 ∨ isK s = false then ⟨#[255]⟩ else s.extract 0 (s.size - 1) ++ ⟨#[1]⟩

set_option maxHeartbeats 400000 in
theorem behind_any (s : ByteArray) (hs : s.size ≤ 1000000) (w : World) :
    Calls Try.prog 31 #[.string s] w fun e w' => e = .returned (.string (behindR s)) ∧ Below w.heap.size w w' := by
  have H := fun b w h => Lib.hid (keys1 s hs b w h)
  by_cases h0 : s.size = 0
  · have e1 : behindR s = ⟨#[255]⟩ := by unfold behindR; rw [if_pos (.inl h0)]
    rw [e1]
    have hz : s = ⟨#[]⟩ := by
      have : s.data.toList = [] := List.length_eq_zero_iff.1 (by rw [← Lib.size_eq]; exact h0)
      rw [← Lib.mk_data s, this]
    subst hz
    clear e1 h0 H
    go_enter Try.func31, Try.ntmps31
    go_wp2
    go_ret
    exact ⟨rfl, Below.refl _ _⟩
  · obtain ⟨hne, hne2⟩ := empty_of_size h0
    cases hk : isK s with
    | false =>
      have e1 : behindR s = ⟨#[255]⟩ := by unfold behindR; rw [if_pos (.inr hk)]
      rw [e1]
      rw [hk] at H
      clear hk e1
      go_enter Try.func31, Try.ntmps31
      go_wp2_with fail
      refine ((H _ _ (by simp [go_sem])).out).mono ?_; rintro e w' ⟨rfl, hb⟩
      go_wp2
      go_ret
      exact ⟨rfl, ((Below.refl _ _).alloc (Nat.le_refl _) _).trans (hb.mono (by simp))⟩
    | true =>
      have hE : behindR s = s.extract 0 (s.size - 1) ++ ⟨#[1]⟩ := by
        unfold behindR
        rw [if_neg]
        rintro (h | h)
        · exact h0 h
        · rw [hk] at h; cases h
      rw [hE]
      rw [hk] at H
      clear hk hE
      have q1 : (0 : Int) ≤ (s.size : Int) - 1 := by omega
      have q2 : (s.size : Int) - 1 ≤ (s.size : Int) := by omega
      have hroom : ¬ 9223372036854775807 < s.size - 1 + 1 := by omega
      have hroom2 : s.size - 1 + 1 ≤ 9223372036854775807 := by omega
      go_enter Try.func31, Try.ntmps31
      go_wp2_with fail
      refine ((H _ _ (by simp [go_sem])).out).mono ?_; rintro e w' ⟨rfl, hb⟩
      go_wp2
      go_ret
      exact ⟨rfl, ((Below.refl _ _).alloc (Nat.le_refl _) _).trans (hb.mono (by simp))⟩
end Go.Proofs.Ytpmmccmhmoihgaa
