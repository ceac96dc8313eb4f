/- Contracts of the functions that the statements TruthTable, TruthLaws and TruthParts reach, and the walks of these. No condition. -/
import Derived.Test.YtpmmccmhmoihgaaTc
import Derived.Handy
namespace Go.Proofs.Ytpmmccmhmoihgaa
open Go.RowKit
attribute [local go_sem] ord_1_1 ord_1_m ord_1_0 ord_m_1 ord_m_m ord_m_0 ord_0_1 ord_0_m ord_0_0 ord_2_1 ord_2_m ord_2_0

theorem Tr.v_key' (T : Tr) (h : T.isT = true) : ∃ r i, T.v = .complex .f64 r i ∧ FloatKind.f64.format.order r r = some .eq ∧ FloatKind.f64.format.order i i = some .eq := by
  cases T
  · exact ⟨_, _, rfl, ord_1_1, ord_0_0⟩
  · exact ⟨_, _, rfl, ord_m_m, ord_0_0⟩
  · exact ⟨_, _, rfl, ord_0_0, ord_1_1⟩
  · cases h

theorem foldMin_at (zs : List Tr) : ∀ a : Tr, a.isT = true → zs.foldl Tr.min a = a.min (andL zs) := by
  induction zs with
  | nil => intro a h; cases a <;> first | rfl | cases h
  | cons z zs ih =>
    intro a h
    have e : andL (z :: zs) = (Tr.min .t z).min (andL zs) := by rw [andL, List.foldl_cons]; exact ih _ (min_isT _ _ rfl)
    rw [List.foldl_cons, ih _ (min_isT _ _ h), e]
    generalize hA : andL zs = A
    have hT : A.isT = true := hA ▸ andL_isT zs
    clear hA e ih
    cases a <;> cases z <;> cases A <;> first | rfl | cases h | cases hT
theorem foldMax_at (zs : List Tr) : ∀ a : Tr, a.isT = true → zs.foldl Tr.max a = a.max (orL zs) := by
  induction zs with
  | nil => intro a h; cases a <;> first | rfl | cases h
  | cons z zs ih =>
    intro a h
    have e : orL (z :: zs) = (Tr.max .f z).max (orL zs) := by rw [orL, List.foldl_cons]; exact ih _ (max_isT _ _ rfl)
    rw [List.foldl_cons, ih _ (max_isT _ _ h), e]
    generalize hA : orL zs = A
    have hT : A.isT = true := hA ▸ orL_isT zs
    clear hA e ih
    cases a <;> cases z <;> cases A <;> first | rfl | cases h | cases hT
theorem andL_parts (zs : List Tr) (c : Nat) : andL [andL (zs.take c), andL (zs.drop c)] = andL zs := by
  have h : andL zs = (andL (zs.take c)).min (andL (zs.drop c)) := by
    conv => lhs; rw [← List.take_append_drop c zs]
    rw [andL, List.foldl_append]
    exact foldMin_at _ _ (andL_isT _)
  rw [h]
  have h1 := andL_isT (zs.take c)
  have h2 := andL_isT (zs.drop c)
  generalize andL (zs.take c) = x at *
  generalize andL (zs.drop c) = y at *
  cases x <;> cases y <;> first | rfl | cases h1 | cases h2
theorem orL_parts (zs : List Tr) (c : Nat) : orL [orL (zs.take c), orL (zs.drop c)] = orL zs := by
  have h : orL zs = (orL (zs.take c)).max (orL (zs.drop c)) := by
    conv => lhs; rw [← List.take_append_drop c zs]
    rw [orL, List.foldl_append]
    exact foldMax_at _ _ (orL_isT _)
  rw [h]
  have h1 := orL_isT (zs.take c)
  have h2 := orL_isT (zs.drop c)
  generalize orL (zs.take c) = x at *
  generalize orL (zs.drop c) = y at *
  cases x <;> cases y <;> first | rfl | cases h1 | cases h2

theorem IntsAt.below' {w w' : World} {v : Value} {ns : List Int} (h : IntsAt w v ns) (hb : Below w.heap.size w w') : IntsAt w' v ns := by
  obtain ⟨a, cap, hv, hc⟩ := h
  refine ⟨a, cap, hv, fun i hi => ?_⟩
  obtain ⟨b, off, ha, hcell⟩ := hc i hi
  exact ⟨b, off, ha, (hb.cell (p := ⟨b, off + i, none⟩) (World.block_lt_of_cell? w _ hcell)).trans hcell⟩

theorem TrsAt.alloc {w : World} {v : Value} {zs : List Tr} (h : TrsAt w v zs) (o : Obj) : TrsAt (w.alloc o) v zs := by
  obtain ⟨a, cap, hv, hc⟩ := h
  refine ⟨a, cap, hv, fun i hi => ?_⟩
  obtain ⟨b, off, ha, hcell⟩ := hc i hi
  refine ⟨b, off, ha, ?_⟩
  have hbl : b < w.heap.size := World.block_lt_of_cell? w _ hcell
  rw [← hcell]
  exact World.cell?_of_block (w := w) (Below.heap_alloc _ _ _ hbl)
theorem TrsAt.drewN {w : World} {v : Value} {zs : List Tr} (h : TrsAt w v zs) (n : Nat) : TrsAt (w.drewN n) v zs := h
theorem below_drewN {B : Nat} {w w1 : World} (h : Below B w w1) (n : Nat) : Below B w (w1.drewN n) := ⟨h.os, h.tape, h.output, h.size, h.block⟩

theorem trsAt_take {w : World} {g cap : Nat} {zs : List Tr} {n : Nat} (hn : zs.length = n) (h : TrsAt w (.slice (some ⟨g, 0, none⟩) n cap) zs) (c : Nat) (hc : c ≤ n) (cap' : Nat) : TrsAt w (.slice (some ⟨g, 0, none⟩) c cap') (zs.take c) := by
  obtain ⟨a, cap1, hv, hcell⟩ := h
  have hl : (zs.take c).length = c := by rw [List.length_take]; omega
  refine ⟨some ⟨g, 0, none⟩, cap', by rw [hl], fun i hi => ⟨g, 0, rfl, ?_⟩⟩
  rw [hl] at hi
  obtain ⟨b, off, ha, hx⟩ := hcell i (by omega)
  cases hv
  cases ha
  rw [hx]
  simp [List.getD_eq_getElem?_getD, hi]
theorem trsAt_drop {w : World} {g cap : Nat} {zs : List Tr} {n : Nat} (hn : zs.length = n) (h : TrsAt w (.slice (some ⟨g, 0, none⟩) n cap) zs) (c : Nat) (hc : c ≤ n) (cap' off' : Nat) (ho : c < n → off' = c) : TrsAt w (.slice (some ⟨g, off', none⟩) (n - c) cap') (zs.drop c) := by
  obtain ⟨a, cap1, hv, hcell⟩ := h
  have hl : (zs.drop c).length = n - c := by rw [List.length_drop]; omega
  refine ⟨some ⟨g, off', none⟩, cap', by rw [hl], fun i hi => ⟨g, off', rfl, ?_⟩⟩
  rw [hl] at hi
  obtain ⟨b, off, ha, hx⟩ := hcell (c + i) (by omega)
  cases hv
  cases ha
  rw [ho (by omega)]
  simp only [Nat.zero_add] at hx
  rw [hx]
  simp [List.getD_eq_getElem?_getD]

set_option maxHeartbeats 4000000 in
theorem tp_few (ns : List Int) (v : Value) (c : Nat) (w : World) (h : IntsAt w v ns) (hl : ns.length ≤ 1000) (hc : c ≤ ns.length) :
    Calls Try.prog 5 #[v, .int .i64 c] w fun e w' => e = .returned (.bool true) ∧ Below w.heap.size w w' := by
  have HI := Lib.hid h
  have H13 := Lib.hid (numbers_any ns v w h hl)
  have hx : ∃ a cap, v = .slice a ns.length cap := by obtain ⟨a, cap, hv, _⟩ := h; exact ⟨a, cap, hv⟩
  obtain ⟨a, cap, rfl⟩ := hx
  clear h
  obtain ⟨zs, hz⟩ : ∃ zs, zs = ns.map zOf := ⟨_, rfl⟩
  have hlen : zs.length = ns.length := by rw [hz, List.length_map]
  rw [← hz] at H13
  clear hz
  have d1 : decide (1000 < ns.length) = false := decide_eq_false (by omega)
  have d2 : decide ((c : Int) < 0) = false := decide_eq_false (by omega)
  have d3 : decide (ns.length < c) = false := decide_eq_false (by omega)
  have Hlen := Lib.hid hlen
  have tA := andL_isT zs
  have tB := orL_isT zs
  obtain ⟨rA, iA, vA, oA, pA⟩ := Tr.v_key' (andL zs) tA
  obtain ⟨rB, iB, vB, oB, pB⟩ := Tr.v_key' (orL zs) tB
  obtain ⟨r1, i1, v1⟩ := Tr.v_cx (andL (zs.take c))
  obtain ⟨r2, i2, v2⟩ := Tr.v_cx (andL (zs.drop c))
  obtain ⟨r3, i3, v3⟩ := Tr.v_cx (orL (zs.take c))
  obtain ⟨r4, i4, v4⟩ := Tr.v_cx (orL (zs.drop c))
  have K1 : ∀ w v, TrsAt w v zs → Calls Try.prog 16 #[v] w fun e w' => e = .returned (.complex .f64 rA iA) ∧ w' = w := fun w v h => by rw [← vA]; exact and_any zs v w h (by omega)
  have K2 : ∀ w v, TrsAt w v zs → Calls Try.prog 18 #[v] w fun e w' => e = .returned (.complex .f64 rB iB) ∧ w' = w := fun w v h => by rw [← vB]; exact or_any zs v w h (by omega)
  have K3 : ∀ w v, TrsAt w v (zs.take c) → Calls Try.prog 16 #[v] w fun e w' => e = .returned (.complex .f64 r1 i1) ∧ w' = w := fun w v h => by rw [← v1]; exact and_any _ v w h (by rw [List.length_take]; omega)
  have K4 : ∀ w v, TrsAt w v (zs.drop c) → Calls Try.prog 16 #[v] w fun e w' => e = .returned (.complex .f64 r2 i2) ∧ w' = w := fun w v h => by rw [← v2]; exact and_any _ v w h (by rw [List.length_drop]; omega)
  have K5 : ∀ w v, TrsAt w v (zs.take c) → Calls Try.prog 18 #[v] w fun e w' => e = .returned (.complex .f64 r3 i3) ∧ w' = w := fun w v h => by rw [← v3]; exact or_any _ v w h (by rw [List.length_take]; omega)
  have K6 : ∀ w v, TrsAt w v (zs.drop c) → Calls Try.prog 18 #[v] w fun e w' => e = .returned (.complex .f64 r4 i4) ∧ w' = w := fun w v h => by rw [← v4]; exact or_any _ v w h (by rw [List.length_drop]; omega)
  have K7 : ∀ w b, w.cell? ⟨b, 0, none⟩ = some (.complex .f64 r1 i1) → w.cell? ⟨b, 1, none⟩ = some (.complex .f64 r2 i2) → Calls Try.prog 16 #[.slice (some ⟨b, 0, none⟩) 2 2] w fun e w' => e = .returned (.complex .f64 rA iA) ∧ w' = w := fun w b h0 h1 => by rw [← vA, ← andL_parts zs c]; exact and2 _ _ (by rw [v1]; exact h0) (by rw [v2]; exact h1)
  have K8 : ∀ w b, w.cell? ⟨b, 0, none⟩ = some (.complex .f64 r3 i3) → w.cell? ⟨b, 1, none⟩ = some (.complex .f64 r4 i4) → Calls Try.prog 18 #[.slice (some ⟨b, 0, none⟩) 2 2] w fun e w' => e = .returned (.complex .f64 rB iB) ∧ w' = w := fun w b h0 h1 => by rw [← vB, ← orL_parts zs c]; exact or2 _ _ (by rw [v3]; exact h0) (by rw [v4]; exact h1)
  have K9 : ∀ w, Calls Try.prog 22 #[.complex .f64 rA iA] w fun e w' => e = .returned (.bool true) ∧ w' = w := fun w => by rw [← vA, ← tA]; exact is_any _ w
  have K10 : ∀ w, Calls Try.prog 22 #[.complex .f64 rB iB] w fun e w' => e = .returned (.bool true) ∧ w' = w := fun w => by rw [← vB, ← tB]; exact is_any _ w
  have H1 := Lib.hid K1; have H2 := Lib.hid K2; have H3 := Lib.hid K3; have H4 := Lib.hid K4; have H5 := Lib.hid K5; have H6 := Lib.hid K6; have H7 := Lib.hid K7; have H8 := Lib.hid K8; have H9 := Lib.hid K9; have H10 := Lib.hid K10
  clear K1 K2 K3 K4 K5 K6 K7 K8 K9 K10 v1 v2 v3 v4 vA vB tA tB hlen
  go_enter Try.func5, Try.ntmps5
  go_wp2_with fail
  refine H13.out.mono ?_; rintro e w1 ⟨r, rfl, hown, hb⟩
  rw [Hlen.out] at hown
  have HO := Lib.hid hown
  rcases hown.2 with ⟨rfl, hn⟩ | ⟨g, cap1, cur, rfl, hg1, hg2, hg3, hg4, hg5, hg6⟩
  · have z0 : c = 0 := by omega
    have hz : zs = [] := List.length_eq_zero_iff.1 (by rw [Hlen.out]; omega)
    have T0 : Hid (TrsAt w1 (.slice none 0 0) zs) := by rw [hz]; exact trsAt0
    have Ta : Hid (TrsAt w1 (.slice none 0 0) (zs.take c)) := by rw [hz, List.take_nil]; exact trsAt0
    have Tb : Hid (TrsAt w1 (.slice none 0 0) (zs.drop c)) := by rw [hz, List.drop_nil]; exact trsAt0
    clear hz hown
    subst z0
    go_wp2_with fail
    go_quiet (fail)
    have T0 := TrsAt.drewN T0.out nq
    have Ta := TrsAt.drewN Ta.out nq
    have Tb := TrsAt.drewN Tb.out nq
    have hb2' := below_drewN hb nq
    generalize w1.drewN nq = w2 at *
    go_wp2_with fail
    refine (H1.out _ _ T0).mono ?_; rintro e w' ⟨rfl, rfl⟩
    go_wp2_with fail
    refine (H3.out _ _ Ta).mono ?_; rintro e w' ⟨rfl, rfl⟩
    go_wp2_with fail
    refine (H4.out _ _ Tb).mono ?_; rintro e w' ⟨rfl, rfl⟩
    go_wp2_with fail
    refine (H7.out _ _ (by simp [go_sem]) (by simp [go_sem])).mono ?_; rintro e w' ⟨rfl, rfl⟩
    go_wp2_with fail
    refine (H2.out _ _ (T0.alloc _)).mono ?_; rintro e w' ⟨rfl, rfl⟩
    go_wp2_with fail
    refine (H5.out _ _ (Ta.alloc _)).mono ?_; rintro e w' ⟨rfl, rfl⟩
    go_wp2_with fail
    refine (H6.out _ _ (Tb.alloc _)).mono ?_; rintro e w' ⟨rfl, rfl⟩
    go_wp2_with fail
    refine (H8.out _ _ (by simp [go_sem]) (by simp [go_sem])).mono ?_; rintro e w' ⟨rfl, rfl⟩
    go_wp2_with fail
    refine (H1.out _ _ ((T0.alloc _).alloc _)).mono ?_; rintro e w' ⟨rfl, rfl⟩
    go_wp2_with fail
    refine (H9.out _).mono ?_; rintro e w' ⟨rfl, rfl⟩
    go_wp2_with fail
    refine (H2.out _ _ ((T0.alloc _).alloc _)).mono ?_; rintro e w' ⟨rfl, rfl⟩
    go_wp2_with fail
    refine (H10.out _).mono ?_; rintro e w' ⟨rfl, rfl⟩
    go_wp2_with fail
    refine (awake_any _).mono ?_; rintro e w' ⟨rfl, hb2⟩
    go_wp2
    go_ret
    refine ⟨rfl, Below.trans ?_ (hb2.mono (by have := hb2'.size; simp; omega))⟩
    exact (hb2'.alloc hb2'.size _).alloc (by have := hb2'.size; simp; omega) _
  · have hmax : cap1 ≤ 9223372036854775807 := by unfold maxLen at hg4; omega
    have t0 := trsAt_own (zs := zs) (by rw [Hlen.out]; exact HO.out)
    have T0 := Lib.hid t0
    have Ta := Lib.hid (trsAt_take Hlen.out t0 c hc cap1)
    have Tb : ∀ o, (c < ns.length → o = c) → Hid (TrsAt w1 _ (zs.drop c)) := fun o ho => Lib.hid (trsAt_drop Hlen.out t0 c hc (cap1 - c) o ho)
    clear t0
    clear hown hg1 hg2 hg4 hg5 hg6
    have q1 : (0 : Int) ≤ (c : Int) := by omega
    have q2 : (c : Int) ≤ (cap1 : Int) := by omega
    have q3 : (c : Int) ≤ (ns.length : Int) := by omega
    have q4 : (ns.length : Int) ≤ (cap1 : Int) := by omega
    by_cases hcap : c = cap1
    · have Tb := Tb 0 (by omega)
      have hn : c = ns.length := by omega
      have hn2 : cap1 = ns.length := by omega
      clear hcap q3 hc d3 q2 q4 hg3 q1
      subst hn
      subst hn2
      have q1 : (0 : Int) ≤ (ns.length : Int) := by omega
      have q9 : decide (ns.length < ns.length) = false := decide_eq_false (by omega)
      rw [Nat.sub_self] at Tb
      go_wp2_with fail
      go_quiet (fail)
      have T0 := TrsAt.drewN T0.out nq
      have Ta := TrsAt.drewN Ta.out nq
      have Tb := TrsAt.drewN Tb.out nq
      have hb2' := below_drewN hb nq
      generalize w1.drewN nq = w2 at *
      go_wp2_with fail
      refine (H1.out _ _ T0).mono ?_; rintro e w' ⟨rfl, rfl⟩
      go_wp2_with fail
      refine (H3.out _ _ Ta).mono ?_; rintro e w' ⟨rfl, rfl⟩
      go_wp2_with fail
      refine (H4.out _ _ Tb).mono ?_; rintro e w' ⟨rfl, rfl⟩
      go_wp2_with fail
      refine (H7.out _ _ (by simp [go_sem]) (by simp [go_sem])).mono ?_; rintro e w' ⟨rfl, rfl⟩
      go_wp2_with fail
      refine (H2.out _ _ (T0.alloc _)).mono ?_; rintro e w' ⟨rfl, rfl⟩
      go_wp2_with fail
      refine (H5.out _ _ (Ta.alloc _)).mono ?_; rintro e w' ⟨rfl, rfl⟩
      go_wp2_with fail
      refine (H6.out _ _ (Tb.alloc _)).mono ?_; rintro e w' ⟨rfl, rfl⟩
      go_wp2_with fail
      refine (H8.out _ _ (by simp [go_sem]) (by simp [go_sem])).mono ?_; rintro e w' ⟨rfl, rfl⟩
      go_wp2_with fail
      refine (H1.out _ _ ((T0.alloc _).alloc _)).mono ?_; rintro e w' ⟨rfl, rfl⟩
      go_wp2_with fail
      refine (H9.out _).mono ?_; rintro e w' ⟨rfl, rfl⟩
      go_wp2_with fail
      refine (H2.out _ _ ((T0.alloc _).alloc _)).mono ?_; rintro e w' ⟨rfl, rfl⟩
      go_wp2_with fail
      refine (H10.out _).mono ?_; rintro e w' ⟨rfl, rfl⟩
      go_wp2_with fail
      refine (awake_any _).mono ?_; rintro e w' ⟨rfl, hb2⟩
      go_wp2
      go_ret
      refine ⟨rfl, Below.trans ?_ (hb2.mono (by have := hb2'.size; simp; omega))⟩
      exact (hb2'.alloc hb2'.size _).alloc (by have := hb2'.size; simp; omega) _
    · have Tb := Tb c (fun _ => rfl)
      have q5 : ¬ (c : Int) = (cap1 : Int) := by omega
      go_wp2_with fail
      go_quiet (fail)
      have T0 := TrsAt.drewN T0.out nq
      have Ta := TrsAt.drewN Ta.out nq
      have Tb := TrsAt.drewN Tb.out nq
      have hb2' := below_drewN hb nq
      generalize w1.drewN nq = w2 at *
      go_wp2_with fail
      refine (H1.out _ _ T0).mono ?_; rintro e w' ⟨rfl, rfl⟩
      go_wp2_with fail
      refine (H3.out _ _ Ta).mono ?_; rintro e w' ⟨rfl, rfl⟩
      go_wp2_with fail
      refine (H4.out _ _ Tb).mono ?_; rintro e w' ⟨rfl, rfl⟩
      go_wp2_with fail
      refine (H7.out _ _ (by simp [go_sem]) (by simp [go_sem])).mono ?_; rintro e w' ⟨rfl, rfl⟩
      go_wp2_with fail
      refine (H2.out _ _ (T0.alloc _)).mono ?_; rintro e w' ⟨rfl, rfl⟩
      go_wp2_with fail
      refine (H5.out _ _ (Ta.alloc _)).mono ?_; rintro e w' ⟨rfl, rfl⟩
      go_wp2_with fail
      refine (H6.out _ _ (Tb.alloc _)).mono ?_; rintro e w' ⟨rfl, rfl⟩
      go_wp2_with fail
      refine (H8.out _ _ (by simp [go_sem]) (by simp [go_sem])).mono ?_; rintro e w' ⟨rfl, rfl⟩
      go_wp2_with fail
      refine (H1.out _ _ ((T0.alloc _).alloc _)).mono ?_; rintro e w' ⟨rfl, rfl⟩
      go_wp2_with fail
      refine (H9.out _).mono ?_; rintro e w' ⟨rfl, rfl⟩
      go_wp2_with fail
      refine (H2.out _ _ ((T0.alloc _).alloc _)).mono ?_; rintro e w' ⟨rfl, rfl⟩
      go_wp2_with fail
      refine (H10.out _).mono ?_; rintro e w' ⟨rfl, rfl⟩
      go_wp2_with fail
      refine (awake_any _).mono ?_; rintro e w' ⟨rfl, hb2⟩
      go_wp2
      go_ret
      refine ⟨rfl, Below.trans ?_ (hb2.mono (by have := hb2'.size; simp; omega))⟩
      exact (hb2'.alloc hb2'.size _).alloc (by have := hb2'.size; simp; omega) _

theorem truthParts_any (ns : List Int) (v : Value) (c : Int) (w : World) (h : IntsAt w v ns) (hl : ns.length ≤ 9223372036854775807) :
    Calls Try.prog 5 #[v, .int .i64 c] w fun e w' => e = .returned (.bool true) ∧ Below w.heap.size w w' := by
  by_cases hs : ns.length ≤ 1000 ∧ 0 ≤ c ∧ c ≤ ns.length
  · obtain ⟨m, rfl⟩ := Int.eq_ofNat_of_zero_le hs.2.1
    exact tp_few ns v m w h hs.1 (by omega)
  · obtain ⟨a, cap, rfl, _⟩ := h
    have hw : 1000 < ns.length ∨ (¬ 1000 < ns.length ∧ (c < 0 ∨ (¬ c < 0 ∧ (ns.length : Int) < c))) := by omega
    clear hs
    rcases hw with hd | ⟨hd, he | ⟨he, hf⟩⟩
    · have hd : decide (1000 < ns.length) = true := decide_eq_true hd
      go_enter Try.func5, Try.ntmps5
      go_wp2_with fail
      refine (awake_any _).mono ?_; rintro e w' ⟨rfl, hb2⟩
      go_wp2
      go_ret
      exact ⟨rfl, hb2⟩
    · have hd : decide (1000 < ns.length) = false := decide_eq_false hd
      have he : decide (c < 0) = true := decide_eq_true he
      go_enter Try.func5, Try.ntmps5
      go_wp2_with fail
      refine (awake_any _).mono ?_; rintro e w' ⟨rfl, hb2⟩
      go_wp2
      go_ret
      exact ⟨rfl, hb2⟩
    · have hd : decide (1000 < ns.length) = false := decide_eq_false hd
      have he : decide (c < 0) = false := decide_eq_false he
      have hf : decide ((ns.length : Int) < c) = true := decide_eq_true hf
      go_enter Try.func5, Try.ntmps5
      go_wp2_with fail
      refine (awake_any _).mono ?_; rintro e w' ⟨rfl, hb2⟩
      go_wp2
      go_ret
      exact ⟨rfl, hb2⟩
end Go.Proofs.Ytpmmccmhmoihgaa
