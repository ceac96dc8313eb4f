/- Contracts of the functions that the statements TruthTable, TruthLaws and TruthParts reach, and the walks of these. No condition. -/
import Derived.Test.YtpmmccmhmoihgaaTc
import Derived.Handy
namespace Go.Proofs.Ytpmmccmhmoihgaa
open Go.RowKit
attribute [local go_sem] ord_1_1 ord_1_m ord_1_0 ord_m_1 ord_m_m ord_m_0 ord_0_1 ord_0_m ord_0_0 ord_2_1 ord_2_m ord_2_0

theorem IntsAt.below {w w' : World} {v : Value} {ns : List Int} (h : IntsAt w v ns) (hb : Below w.heap.size w w') : IntsAt w' v ns := by
  obtain ⟨a, cap, hv, hc⟩ := h
  refine ⟨a, cap, hv, fun i hi => ?_⟩
  obtain ⟨b, off, ha, hcell⟩ := hc i hi
  exact ⟨b, off, ha, (hb.cell (p := ⟨b, off + i, none⟩) (World.block_lt_of_cell? w _ hcell)).trans hcell⟩

theorem Tr.v_key (T : Tr) (h : T.isT = true) : ∃ r i, T.v = .complex .f64 r i ∧ FloatKind.f64.format.order r r = some .eq ∧ FloatKind.f64.format.order i i = some .eq := by
  cases T
  · exact ⟨_, _, rfl, ord_1_1, ord_0_0⟩
  · exact ⟨_, _, rfl, ord_m_m, ord_0_0⟩
  · exact ⟨_, _, rfl, ord_0_0, ord_1_1⟩
  · cases h

theorem not_isT (a : Tr) : a.not.isT = true := by cases a <;> rfl

theorem z_out (t : Int) (h : t < 0 ∨ 2 < t) : zOf t = .o (FloatKind.f64.nearest (t.tmod 100)) := by
  unfold zOf; rw [if_neg (by omega : ¬ t = 0), if_neg (by omega : ¬ t = 1), if_neg (by omega : ¬ t = 2)]

set_option maxHeartbeats 4000000 in
/-- The statement TruthTable's way for few numbers: what z is, and its word, are handed in. -/
theorem tt_few (ns : List Int) (v : Value) (t : Int) (b : Bool) (w : World) (h : IntsAt w v ns) (hl : ns.length ≤ 1000) :
    Calls Try.prog 3 #[v, .int .i64 t, .bool b] w fun e w' => e = .returned (.bool true) ∧ Below w.heap.size w w' := by
  have HI := Lib.hid h
  obtain ⟨r1, i1, v1, o1, p1⟩ := Tr.v_key (andL (ns.map zOf)) (andL_isT _)
  obtain ⟨r2, i2, v2, o2, p2⟩ := Tr.v_key (orL (ns.map zOf)) (orL_isT _)
  obtain ⟨r3, i3, v3, o3, p3⟩ := Tr.v_key (zOf t).not (not_isT _)
  have K1 : ∀ w r, TrsAt w r (ns.map zOf) → Calls Try.prog 16 #[r] w fun e w' => e = .returned (.complex .f64 r1 i1) ∧ w' = w := fun w r hr => by rw [← v1]; exact and_any _ _ _ hr (by rw [List.length_map]; omega)
  have K2 : ∀ w r, TrsAt w r (ns.map zOf) → Calls Try.prog 18 #[r] w fun e w' => e = .returned (.complex .f64 r2 i2) ∧ w' = w := fun w r hr => by rw [← v2]; exact or_any _ _ _ hr (by rw [List.length_map]; omega)
  have K3 : ∀ w, Calls Try.prog 13 #[.int .i64 (refAnd ns)] w fun e w' => e = .returned (.complex .f64 r1 i1) ∧ w' = w := fun w => by rw [← v1, ← z_refAnd]; exact z_any _ _
  have K4 : ∀ w, Calls Try.prog 13 #[.int .i64 (refOr ns)] w fun e w' => e = .returned (.complex .f64 r2 i2) ∧ w' = w := fun w => by rw [← v2, ← z_refOr]; exact z_any _ _
  have K5 : ∀ w, Calls Try.prog 20 #[(zOf t).v] w fun e w' => e = .returned (.complex .f64 r3 i3) ∧ w' = w := fun w => by rw [← v3]; exact not_any _ _
  have K6 : ∀ w, Calls Try.prog 13 #[.int .i64 (if kn t = 0 then 1 else if kn t = 1 then 0 else 2)] w fun e w' => e = .returned (.complex .f64 r3 i3) ∧ w' = w := fun w => by rw [← v3, ← z_not]; exact z_any _ _
  have K7 := refNot_any t
  have K8 := z_any t
  have K9 := word_any (zOf t)
  have K10 := is_any (zOf t)
  have K11 : ∀ w, IntsAt w v ns → Calls Try.prog 17 #[v] w fun e w' => e = .returned (.int .i64 (refAnd ns)) ∧ w' = w := fun w h => refAnd_any ns v w h (by omega)
  have K12 : ∀ w, IntsAt w v ns → Calls Try.prog 19 #[v] w fun e w' => e = .returned (.int .i64 (refOr ns)) ∧ w' = w := fun w h => refOr_any ns v w h (by omega)
  have K13 := numbers_any ns v w h hl
  have K14 := of_any b
  generalize hk : (if kn t = 0 then (1 : Int) else if kn t = 1 then 0 else 2) = k at *
  clear hk
  generalize refAnd ns = ra at *
  generalize refOr ns = ro at *
  have hx : ∃ a cap, v = .slice a ns.length cap := by obtain ⟨a, cap, hv, _⟩ := h; exact ⟨a, cap, hv⟩
  obtain ⟨a, cap, rfl⟩ := hx
  clear h v1 v2 v3
  have H1 := Lib.hid K1; have H2 := Lib.hid K2; have H3 := Lib.hid K3; have H4 := Lib.hid K4; have H5 := Lib.hid K5; have H6 := Lib.hid K6; have H7 := Lib.hid K7; have H8 := Lib.hid K8
  have H9 := Lib.hid K9; have H10 := Lib.hid K10; have H11 := Lib.hid K11; have H12 := Lib.hid K12; have H13 := Lib.hid K13; have H14 := Lib.hid K14
  clear K1 K2 K3 K4 K5 K6 K7 K8 K9 K10 K11 K12 K13 K14
  have hd : decide (1000 < ns.length) = false := decide_eq_false (by omega)
  have ht : t = 0 ∨ t = 1 ∨ t = 2 ∨ t < 0 ∨ 2 < t := by omega
  obtain ⟨o, ho⟩ : ∃ o, o = zOf t := ⟨_, rfl⟩
  rw [← ho] at H5 H8 H9 H10
  have hcase : (t = 0 ∧ o = .t) ∨ (t = 1 ∧ o = .f) ∨ (t = 2 ∧ o = .u) ∨ (t < 0 ∧ ∃ re, o = .o re) ∨ (2 < t ∧ ∃ re, o = .o re) := by
    rcases ht with rfl | rfl | rfl | h | h
    · exact .inl ⟨rfl, ho⟩
    · exact .inr (.inl ⟨rfl, ho⟩)
    · exact .inr (.inr (.inl ⟨rfl, ho⟩))
    · exact .inr (.inr (.inr (.inl ⟨h, _, ho.trans (z_out t (.inl h))⟩)))
    · exact .inr (.inr (.inr (.inr ⟨h, _, ho.trans (z_out t (.inr h))⟩)))
  clear ho ht
  have hb0 : ∀ b' : Bool, (b' == b') = true := by decide
  rcases hcase with ⟨rfl, rfl⟩ | ⟨rfl, rfl⟩ | ⟨rfl, rfl⟩ | ⟨hlt, re, rfl⟩ | ⟨hlt, re, rfl⟩
  case inr.inr.inr.inl =>
    have d0 : (t == 0) = false := beq_eq_false_iff_ne.2 (by omega)
    have d1 : (t == 1) = false := beq_eq_false_iff_ne.2 (by omega)
    have d2 : (t == 2) = false := beq_eq_false_iff_ne.2 (by omega)
    have d3 : decide (t < 0) = true := decide_eq_true hlt
    have d4 : decide (2 < t) = false := decide_eq_false (by omega)
    have d5 : decide (0 ≤ t) = false := decide_eq_false (by omega)
    have d6 : decide (t ≤ 2) = true := decide_eq_true (by omega)
    simp only [Tr.v, Tr.word, Tr.isT] at H5 H8 H9 H10
    go_enter Try.func3, Try.ntmps3
    go_wp2_with fail
    refine H13.out.mono ?_; rintro e w1 ⟨r, rfl, hown, hb⟩
    go_wp2_with fail
    refine (H8.out _).mono ?_; rintro e w' ⟨rfl, rfl⟩
    go_wp2_with fail
    refine (H14.out _).mono ?_; rintro e w' ⟨rfl, rfl⟩
    cases b
    all_goals
      simp only [if_true, if_false, Tr.v, Bool.false_eq_true]
      go_wp2_with fail
      refine (H9.out _).mono ?_; rintro e w' ⟨rfl, rfl⟩
      go_wp2_with fail
      refine (H1.out _ _ (trsAt_own hown)).mono ?_; rintro e w' ⟨rfl, rfl⟩
      go_wp2_with fail
      refine (H11.out _ (HI.out.below hb)).mono ?_; rintro e w' ⟨rfl, rfl⟩
      go_wp2_with fail
      refine (H3.out _).mono ?_; rintro e w' ⟨rfl, rfl⟩
      go_wp2_with fail
      refine (H2.out _ _ (trsAt_own hown)).mono ?_; rintro e w' ⟨rfl, rfl⟩
      go_wp2_with fail
      refine (H12.out _ (HI.out.below hb)).mono ?_; rintro e w' ⟨rfl, rfl⟩
      go_wp2_with fail
      refine (H4.out _).mono ?_; rintro e w' ⟨rfl, rfl⟩
      go_wp2_with fail
      refine (H5.out _).mono ?_; rintro e w' ⟨rfl, rfl⟩
      go_wp2_with fail
      refine (H7.out _).mono ?_; rintro e w' ⟨rfl, rfl⟩
      go_wp2_with fail
      refine (H6.out _).mono ?_; rintro e w' ⟨rfl, rfl⟩
      go_wp2_with fail
      refine (H10.out _).mono ?_; rintro e w' ⟨rfl, rfl⟩
      go_wp2_with fail
      refine (awake_any _).mono ?_; rintro e w' ⟨rfl, hb2⟩
      go_wp2
      go_ret
      exact ⟨rfl, hb.trans (hb2.mono hb.size)⟩
  case inr.inr.inr.inr =>
    have d0 : (t == 0) = false := beq_eq_false_iff_ne.2 (by omega)
    have d1 : (t == 1) = false := beq_eq_false_iff_ne.2 (by omega)
    have d2 : (t == 2) = false := beq_eq_false_iff_ne.2 (by omega)
    have d3 : decide (t < 0) = false := decide_eq_false (by omega)
    have d4 : decide (2 < t) = true := decide_eq_true hlt
    have d5 : decide (0 ≤ t) = true := decide_eq_true (by omega)
    have d6 : decide (t ≤ 2) = false := decide_eq_false (by omega)
    simp only [Tr.v, Tr.word, Tr.isT] at H5 H8 H9 H10
    go_enter Try.func3, Try.ntmps3
    go_wp2_with fail
    refine H13.out.mono ?_; rintro e w1 ⟨r, rfl, hown, hb⟩
    go_wp2_with fail
    refine (H8.out _).mono ?_; rintro e w' ⟨rfl, rfl⟩
    go_wp2_with fail
    refine (H14.out _).mono ?_; rintro e w' ⟨rfl, rfl⟩
    cases b
    all_goals
      simp only [if_true, if_false, Tr.v, Bool.false_eq_true]
      go_wp2_with fail
      refine (H9.out _).mono ?_; rintro e w' ⟨rfl, rfl⟩
      go_wp2_with fail
      refine (H1.out _ _ (trsAt_own hown)).mono ?_; rintro e w' ⟨rfl, rfl⟩
      go_wp2_with fail
      refine (H11.out _ (HI.out.below hb)).mono ?_; rintro e w' ⟨rfl, rfl⟩
      go_wp2_with fail
      refine (H3.out _).mono ?_; rintro e w' ⟨rfl, rfl⟩
      go_wp2_with fail
      refine (H2.out _ _ (trsAt_own hown)).mono ?_; rintro e w' ⟨rfl, rfl⟩
      go_wp2_with fail
      refine (H12.out _ (HI.out.below hb)).mono ?_; rintro e w' ⟨rfl, rfl⟩
      go_wp2_with fail
      refine (H4.out _).mono ?_; rintro e w' ⟨rfl, rfl⟩
      go_wp2_with fail
      refine (H5.out _).mono ?_; rintro e w' ⟨rfl, rfl⟩
      go_wp2_with fail
      refine (H7.out _).mono ?_; rintro e w' ⟨rfl, rfl⟩
      go_wp2_with fail
      refine (H6.out _).mono ?_; rintro e w' ⟨rfl, rfl⟩
      go_wp2_with fail
      refine (H10.out _).mono ?_; rintro e w' ⟨rfl, rfl⟩
      go_wp2_with fail
      refine (awake_any _).mono ?_; rintro e w' ⟨rfl, hb2⟩
      go_wp2
      go_ret
      exact ⟨rfl, hb.trans (hb2.mono hb.size)⟩
  all_goals
    simp only [Tr.v, Tr.word, Tr.isT] at H5 H8 H9 H10
    go_enter Try.func3, Try.ntmps3
    go_wp2_with fail
    refine H13.out.mono ?_; rintro e w1 ⟨r, rfl, hown, hb⟩
    go_wp2_with fail
    refine (H8.out _).mono ?_; rintro e w' ⟨rfl, rfl⟩
    go_wp2_with fail
    refine (H14.out _).mono ?_; rintro e w' ⟨rfl, rfl⟩
    cases b
    all_goals
      simp only [if_true, if_false, Tr.v, Bool.false_eq_true]
      go_wp2_with fail
      refine (H9.out _).mono ?_; rintro e w' ⟨rfl, rfl⟩
      go_wp2_with fail
      refine (H1.out _ _ (trsAt_own hown)).mono ?_; rintro e w' ⟨rfl, rfl⟩
      go_wp2_with fail
      refine (H11.out _ (HI.out.below hb)).mono ?_; rintro e w' ⟨rfl, rfl⟩
      go_wp2_with fail
      refine (H3.out _).mono ?_; rintro e w' ⟨rfl, rfl⟩
      go_wp2_with fail
      refine (H2.out _ _ (trsAt_own hown)).mono ?_; rintro e w' ⟨rfl, rfl⟩
      go_wp2_with fail
      refine (H12.out _ (HI.out.below hb)).mono ?_; rintro e w' ⟨rfl, rfl⟩
      go_wp2_with fail
      refine (H4.out _).mono ?_; rintro e w' ⟨rfl, rfl⟩
      go_wp2_with fail
      refine (H5.out _).mono ?_; rintro e w' ⟨rfl, rfl⟩
      go_wp2_with fail
      refine (H7.out _).mono ?_; rintro e w' ⟨rfl, rfl⟩
      go_wp2_with fail
      refine (H6.out _).mono ?_; rintro e w' ⟨rfl, rfl⟩
      go_wp2_with fail
      refine (H10.out _).mono ?_; rintro e w' ⟨rfl, rfl⟩
      go_wp2_with fail
      refine (awake_any _).mono ?_; rintro e w' ⟨rfl, hb2⟩
      go_wp2
      go_ret
      exact ⟨rfl, hb.trans (hb2.mono hb.size)⟩

theorem truthTable_any (ns : List Int) (v : Value) (t : Int) (b : Bool) (w : World) (h : IntsAt w v ns) (hl : ns.length ≤ 9223372036854775807) :
    Calls Try.prog 3 #[v, .int .i64 t, .bool b] w fun e w' => e = .returned (.bool true) ∧ Below w.heap.size w w' := by
  by_cases hs : ns.length ≤ 1000
  · exact tt_few ns v t b w h hs
  · obtain ⟨a, cap, rfl, _⟩ := h
    have hd : decide (1000 < ns.length) = true := decide_eq_true (by omega)
    go_enter Try.func3, Try.ntmps3
    go_wp2_with fail
    refine (awake_any _).mono ?_; rintro e w' ⟨rfl, hb2⟩
    go_wp2
    go_ret
    exact ⟨rfl, hb2⟩
end Go.Proofs.Ytpmmccmhmoihgaa
