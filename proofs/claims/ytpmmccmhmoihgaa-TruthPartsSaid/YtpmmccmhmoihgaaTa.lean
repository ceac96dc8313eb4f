/- Contracts of the functions that the statements TruthTable, TruthLaws and TruthParts reach, and the walks of these. No condition. -/
import Derived.Test.YtpmmccmhmoihgaaProg
import Derived.WalkKit
import Derived.WalkSpells
import Derived.WalkLawsBesides
import Derived.Lib.Hide
import Derived.Deep.QuietTactic
import Derived.BigQuiet
namespace Go.Proofs.Ytpmmccmhmoihgaa
open Go.RowKit

/-- A truth as the laws make it: true, false, undefined, or a number that is none. -/
inductive Tr where
  | t | f | u | o (re : Nat)
deriving DecidableEq

def Tr.v : Tr → Value
  | .t => .complex .f64 4607182418800017408 0
  | .f => .complex .f64 13830554455654793216 0
  | .u => .complex .f64 0 4607182418800017408
  | .o re => .complex .f64 re 4611686018427387904

def Tr.isT : Tr → Bool
  | .o _ => false
  | _ => true

def Tr.known : Tr → Tr
  | .o _ => .u
  | z => z

def Tr.not : Tr → Tr
  | .t => .f
  | .f => .t
  | _ => .u

theorem ord_1_1 : FloatKind.f64.format.order 4607182418800017408 4607182418800017408 = some .eq := by decide +kernel
theorem ord_1_m : FloatKind.f64.format.order 4607182418800017408 13830554455654793216 = some .gt := by decide +kernel
theorem ord_1_0 : FloatKind.f64.format.order 4607182418800017408 0 = some .gt := by decide +kernel
theorem ord_m_1 : FloatKind.f64.format.order 13830554455654793216 4607182418800017408 = some .lt := by decide +kernel
theorem ord_m_m : FloatKind.f64.format.order 13830554455654793216 13830554455654793216 = some .eq := by decide +kernel
theorem ord_m_0 : FloatKind.f64.format.order 13830554455654793216 0 = some .lt := by decide +kernel
theorem ord_0_1 : FloatKind.f64.format.order 0 4607182418800017408 = some .lt := by decide +kernel
theorem ord_0_m : FloatKind.f64.format.order 0 13830554455654793216 = some .gt := by decide +kernel
theorem ord_0_0 : FloatKind.f64.format.order 0 0 = some .eq := by decide +kernel
theorem ord_2_1 : FloatKind.f64.format.order 4611686018427387904 4607182418800017408 = some .gt := by decide +kernel
theorem ord_2_m : FloatKind.f64.format.order 4611686018427387904 13830554455654793216 = some .gt := by decide +kernel
theorem ord_2_0 : FloatKind.f64.format.order 4611686018427387904 0 = some .gt := by decide +kernel
attribute [local go_sem] ord_1_1 ord_1_m ord_1_0 ord_m_1 ord_m_m ord_m_0 ord_0_1 ord_0_m ord_0_0 ord_2_1 ord_2_m ord_2_0

theorem is_any (z : Tr) (w : World) : Calls Try.prog 22 #[z.v] w fun e w' => e = .returned (.bool z.isT) ∧ w' = w := by
  cases z
  all_goals
    simp only [Tr.v]
    go_enter Try.func22, Try.ntmps22
    go_wp2
    all_goals
      go_ret
      exact ⟨rfl, rfl⟩

theorem known_any (z : Tr) (w : World) : Calls Try.prog 39 #[z.v] w fun e w' => e = .returned z.known.v ∧ w' = w := by
  have H := Lib.hid (is_any z w)
  cases z
  all_goals
    simp only [Tr.v] at *
    go_enter Try.func39, Try.ntmps39
    go_wp2_with (go_at_call 22; refine (H.out).mono ?_; rintro e w' ⟨rfl, rfl⟩; simp only [Tr.isT])
    go_ret
    exact ⟨rfl, rfl⟩

theorem sub_1 : floatBits .sub .f64 0 4607182418800017408 = some 13830554455654793216 := by decide +kernel
theorem sub_m : floatBits .sub .f64 0 13830554455654793216 = some 4607182418800017408 := by decide +kernel
theorem sub_0 : floatBits .sub .f64 0 0 = some 0 := by decide +kernel

theorem not_any (z : Tr) (w : World) : Calls Try.prog 20 #[z.v] w fun e w' => e = .returned z.not.v ∧ w' = w := by
  have H := Lib.hid (known_any z w)
  have s1 := fun w => run_float_arith (P := Try.prog) w .sub 51 .f64 _ _ _ sub_1
  have s2 := fun w => run_float_arith (P := Try.prog) w .sub 51 .f64 _ _ _ sub_m
  have s3 := fun w => run_float_arith (P := Try.prog) w .sub 51 .f64 _ _ _ sub_0
  cases z
  all_goals
    simp only [Tr.v] at *
    go_enter Try.func20, Try.ntmps20
    go_wp2_with (go_at_call 39; refine (H.out).mono ?_; rintro e w' ⟨rfl, rfl⟩; simp only [Tr.known])
    go_ret
    exact ⟨rfl, rfl⟩

theorem of_any (b : Bool) (w : World) : Calls Try.prog 14 #[.bool b] w fun e w' => e = .returned (if b then Tr.t else Tr.f).v ∧ w' = w := by
  cases b
  all_goals
    go_enter Try.func14, Try.ntmps14
    go_wp2
    go_ret
    exact ⟨rfl, rfl⟩

def Tr.word : Tr → ByteArray
  | .t => ⟨#[116, 114, 117, 101]⟩
  | .f => ⟨#[102, 97, 108, 115, 101]⟩
  | .u => ⟨#[117, 110, 100, 101, 102, 105, 110, 101, 100]⟩
  | .o _ => ⟨#[]⟩

theorem word_any (z : Tr) (w : World) : Calls Try.prog 15 #[z.v] w fun e w' => e = .returned (.string z.word) ∧ w' = w := by
  cases z
  all_goals
    simp only [Tr.v]
    go_enter Try.func15, Try.ntmps15
    go_wp2
    all_goals
      go_ret
      exact ⟨rfl, rfl⟩

/-- The number that the laws make of t. -/
def zOf (t : Int) : Tr := if t = 0 then .t else if t = 1 then .f else if t = 2 then .u else .o (FloatKind.f64.nearest (t.tmod 100))

theorem z_any (t : Int) (w : World) : Calls Try.prog 13 #[.int .i64 t] w fun e w' => e = .returned (zOf t).v ∧ w' = w := by
  by_cases h0 : t = 0
  · subst h0
    go_enter Try.func13, Try.ntmps13
    go_wp2
    go_ret
    exact ⟨rfl, rfl⟩
  by_cases h1 : t = 1
  · subst h1
    go_enter Try.func13, Try.ntmps13
    go_wp2
    go_ret
    exact ⟨rfl, rfl⟩
  by_cases h2 : t = 2
  · subst h2
    go_enter Try.func13, Try.ntmps13
    go_wp2
    go_ret
    exact ⟨rfl, rfl⟩
  have e : zOf t = .o (FloatKind.f64.nearest (t.tmod 100)) := by unfold zOf; rw [if_neg h0, if_neg h1, if_neg h2]
  rw [e]
  clear e
  have a0 : (t == 0) = false := beq_eq_false_iff_ne.2 h0
  have a1 : (t == 1) = false := beq_eq_false_iff_ne.2 h1
  have a2 : (t == 2) = false := beq_eq_false_iff_ne.2 h2
  clear h0 h1 h2
  go_enter Try.func13, Try.ntmps13
  go_wp2
  go_ret
  exact ⟨rfl, rfl⟩

/-- The slice v reads as the truths zs. -/
def TrsAt (w : World) (v : Value) (zs : List Tr) : Prop :=
  ∃ a cap, v = .slice a zs.length cap ∧ ∀ i, i < zs.length → ∃ b off, a = some ⟨b, off, none⟩ ∧ w.cell? ⟨b, off + i, none⟩ = some (zs.getD i .t).v

def Tr.min (a z : Tr) : Tr := match a, z.known with
  | .t, z => z
  | .u, .f => .f
  | a, _ => a

def Tr.max (a z : Tr) : Tr := match a, z.known with
  | .f, z => z
  | .u, .t => .t
  | a, _ => a

def andL (zs : List Tr) : Tr := zs.foldl Tr.min .t
def orL (zs : List Tr) : Tr := zs.foldl Tr.max .f

theorem andL_snoc (zs : List Tr) (k : Nat) (h : k < zs.length) : andL (zs.take (k + 1)) = (andL (zs.take k)).min (zs.getD k .t) := by
  rw [List.take_succ_eq_append_getElem h, andL, List.foldl_append]
  simp [andL, List.getD_eq_getElem?_getD, h]
theorem orL_snoc (zs : List Tr) (k : Nat) (h : k < zs.length) : orL (zs.take (k + 1)) = (orL (zs.take k)).max (zs.getD k .t) := by
  rw [List.take_succ_eq_append_getElem h, orL, List.foldl_append]
  simp [orL, List.getD_eq_getElem?_getD, h]
theorem min_isT (a z : Tr) (h : a.isT = true) : (a.min z).isT = true := by cases a <;> cases z <;> simp_all [Tr.min, Tr.isT, Tr.known]
theorem max_isT (a z : Tr) (h : a.isT = true) : (a.max z).isT = true := by cases a <;> cases z <;> simp_all [Tr.max, Tr.isT, Tr.known]
theorem andL_isT (zs : List Tr) : (andL zs).isT = true := by
  unfold andL
  suffices ∀ a : Tr, a.isT = true → (zs.foldl Tr.min a).isT = true from this _ rfl
  induction zs with
  | nil => exact fun a h => h
  | cons z zs ih => exact fun a h => ih _ (min_isT a z h)
theorem orL_isT (zs : List Tr) : (orL zs).isT = true := by
  unfold orL
  suffices ∀ a : Tr, a.isT = true → (zs.foldl Tr.max a).isT = true from this _ rfl
  induction zs with
  | nil => exact fun a h => h
  | cons z zs ih => exact fun a h => ih _ (max_isT a z h)

set_option maxHeartbeats 400000 in
theorem and_any (zs : List Tr) (v : Value) (w : World) (h : TrsAt w v zs) (hl : zs.length ≤ 9223372036854775807) : Calls Try.prog 16 #[v] w fun e w' => e = .returned (andL zs).v ∧ w' = w := by
  obtain ⟨a, cap, rfl, hc⟩ := h
  go_enter Try.func16, Try.ntmps16
  go_wp2
  go_loop [3, 8] (fun a i => ∃ k : Nat, k ≤ zs.length ∧ i = .int .i64 k ∧ a = (andL (zs.take k)).v) (fun _ i => zs.length - (intOf i).toNat)
  case atStart => exact ⟨0, Nat.zero_le _, rfl, rfl⟩
  case round =>
    obtain ⟨k, hk, rfl, rfl⟩ := hrel
    by_cases hlt : k < zs.length
    · obtain ⟨b, off, rfl, hcell⟩ := hc k hlt
      have hT := andL_isT (zs.take k)
      have HS := Lib.hid (andL_snoc zs k hlt)
      have HN := fun w => Lib.hid (known_any (zs.getD k .t) w)
      generalize zs.getD k .t = z at *
      generalize andL (zs.take k) = a at *
      clear hc
      rcases a with _ | _ | _ | re
      case o => cases hT
      all_goals cases z
      all_goals
        clear hT
        simp only [Tr.v, Tr.known] at hcell HN ⊢
        go_wp2_with (go_at_call 39; refine ((HN _).out).mono ?_; rintro e w' ⟨rfl, rfl⟩)
        all_goals
          go_round
          case rel => exact ⟨k + 1, by omega, by go_num, by rw [HS.out]; rfl⟩
          case measure => simp [intOf]; omega
    · have e : k = zs.length := by omega
      have HT := Lib.hid (List.take_of_length_le (l := zs) (Nat.le_of_eq e.symm))
      clear e hc
      have hd : decide (k < zs.length) = false := decide_eq_false hlt
      generalize hA : andL (zs.take k) = a at *
      have HA := Lib.hid hA
      clear hA
      go_wp2
      go_ret
      exact ⟨(by rw [← HA.out, HT.out] : Ending.returned a.v = Ending.returned (andL zs).v), rfl⟩

set_option maxHeartbeats 400000 in
theorem or_any (zs : List Tr) (v : Value) (w : World) (h : TrsAt w v zs) (hl : zs.length ≤ 9223372036854775807) : Calls Try.prog 18 #[v] w fun e w' => e = .returned (orL zs).v ∧ w' = w := by
  obtain ⟨a, cap, rfl, hc⟩ := h
  go_enter Try.func18, Try.ntmps18
  go_wp2
  go_loop [3, 8] (fun a i => ∃ k : Nat, k ≤ zs.length ∧ i = .int .i64 k ∧ a = (orL (zs.take k)).v) (fun _ i => zs.length - (intOf i).toNat)
  case atStart => exact ⟨0, Nat.zero_le _, rfl, rfl⟩
  case round =>
    obtain ⟨k, hk, rfl, rfl⟩ := hrel
    by_cases hlt : k < zs.length
    · obtain ⟨b, off, rfl, hcell⟩ := hc k hlt
      have hT := orL_isT (zs.take k)
      have HS := Lib.hid (orL_snoc zs k hlt)
      have HN := fun w => Lib.hid (known_any (zs.getD k .t) w)
      generalize zs.getD k .t = z at *
      generalize orL (zs.take k) = a at *
      clear hc
      rcases a with _ | _ | _ | re
      case o => cases hT
      all_goals cases z
      all_goals
        clear hT
        simp only [Tr.v, Tr.known] at hcell HN ⊢
        go_wp2_with (go_at_call 39; refine ((HN _).out).mono ?_; rintro e w' ⟨rfl, rfl⟩)
        all_goals
          go_round
          case rel => exact ⟨k + 1, by omega, by go_num, by rw [HS.out]; rfl⟩
          case measure => simp [intOf]; omega
    · have e : k = zs.length := by omega
      have HT := Lib.hid (List.take_of_length_le (l := zs) (Nat.le_of_eq e.symm))
      clear e hc
      have hd : decide (k < zs.length) = false := decide_eq_false hlt
      generalize hA : orL (zs.take k) = a at *
      have HA := Lib.hid hA
      clear hA
      go_wp2
      go_ret
      exact ⟨(by rw [← HA.out, HT.out] : Ending.returned a.v = Ending.returned (orL zs).v), rfl⟩

end Go.Proofs.Ytpmmccmhmoihgaa
