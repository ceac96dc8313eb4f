/- Contracts of the functions that the statements TruthTable, TruthLaws and TruthParts reach, and the walks of these. No condition. -/
import Derived.Test.YtpmmccmhmoihgaaTa
namespace Go.Proofs.Ytpmmccmhmoihgaa
open Go.RowKit

/-- The slice v reads as the whole numbers ns. -/
def IntsAt (w : World) (v : Value) (ns : List Int) : Prop :=
  ∃ a cap, v = .slice a ns.length cap ∧ ∀ i, i < ns.length → ∃ b off, a = some ⟨b, off, none⟩ ∧ w.cell? ⟨b, off + i, none⟩ = some (.int .i64 (ns.getD i 0))

def kn (t : Int) : Int := if t < 0 ∨ 2 < t then 2 else t

theorem refKnown_any (t : Int) (w : World) : Calls Try.prog 41 #[.int .i64 t] w fun e w' => e = .returned (.int .i64 (kn t)) ∧ w' = w := by
  by_cases h : t < 0
  · have e : kn t = 2 := by unfold kn; rw [if_pos (Or.inl h)]
    rw [e]; clear e
    have d1 : decide (t < 0) = true := decide_eq_true h
    go_enter Try.func41, Try.ntmps41
    go_wp2
    go_ret
    exact ⟨rfl, rfl⟩
  · have d1 : decide (t < 0) = false := decide_eq_false h
    by_cases h2 : 2 < t
    · have e : kn t = 2 := by unfold kn; rw [if_pos (Or.inr h2)]
      rw [e]; clear e
      have d2 : decide (2 < t) = true := decide_eq_true h2
      go_enter Try.func41, Try.ntmps41
      go_wp2
      go_ret
      exact ⟨rfl, rfl⟩
    · have e : kn t = t := by unfold kn; rw [if_neg (by omega)]
      rw [e]; clear e
      have d2 : decide (2 < t) = false := decide_eq_false h2
      go_enter Try.func41, Try.ntmps41
      go_wp2
      go_ret
      exact ⟨rfl, rfl⟩

theorem refNot_any (t : Int) (w : World) : Calls Try.prog 21 #[.int .i64 t] w fun e w' => e = .returned (.int .i64 (if kn t = 0 then 1 else if kn t = 1 then 0 else 2)) ∧ w' = w := by
  have H := fun w => Lib.hid (refKnown_any t w)
  generalize kn t = k at *
  by_cases h0 : k = 0
  · subst h0
    go_enter Try.func21, Try.ntmps21
    go_wp2_with (go_at_call 41; refine ((H _).out).mono ?_; rintro e w' ⟨rfl, rfl⟩)
    go_ret
    exact ⟨rfl, rfl⟩
  by_cases h1 : k = 1
  · subst h1
    go_enter Try.func21, Try.ntmps21
    go_wp2_with (go_at_call 41; refine ((H _).out).mono ?_; rintro e w' ⟨rfl, rfl⟩)
    go_ret
    exact ⟨rfl, rfl⟩
  rw [if_neg h0, if_neg h1]
  have a0 : (k == 0) = false := beq_eq_false_iff_ne.2 h0
  have a1 : (k == 1) = false := beq_eq_false_iff_ne.2 h1
  clear h0 h1
  go_enter Try.func21, Try.ntmps21
  go_wp2_with (go_at_call 41; refine ((H _).out).mono ?_; rintro e w' ⟨rfl, rfl⟩)
  go_ret
  exact ⟨rfl, rfl⟩

def hasB (ns : List Int) (t : Int) : Bool := ns.any fun n => kn n == t

theorem any_snoc (ns : List Int) (t : Int) (k : Nat) (h : k < ns.length) : hasB (ns.take (k + 1)) t = (hasB (ns.take k) t || (kn (ns.getD k 0) == t)) := by
  unfold hasB
  rw [List.take_succ_eq_append_getElem h, List.any_append]
  simp [List.getD_eq_getElem?_getD, h]
theorem any_part (ns : List Int) (t : Int) (k : Nat) (h : hasB (ns.take k) t = true) : hasB ns t = true := by
  unfold hasB at *
  rw [List.any_eq_true] at *
  obtain ⟨x, hx, hy⟩ := h
  exact ⟨x, List.mem_of_mem_take hx, hy⟩

set_option maxHeartbeats 400000 in
theorem refHas_any (ns : List Int) (t : Int) (v : Value) (w : World) (h : IntsAt w v ns) (hl : ns.length ≤ 9223372036854775807) : Calls Try.prog 40 #[v, .int .i64 t] w fun e w' => e = .returned (.bool (hasB ns t)) ∧ w' = w := by
  obtain ⟨a, cap, rfl, hc⟩ := h
  go_enter Try.func40, Try.ntmps40
  go_wp2
  go_loop [5] (fun i => ∃ k : Nat, k ≤ ns.length ∧ i = .int .i64 k ∧ hasB (ns.take k) t = false) (fun i => ns.length - (intOf i).toNat)
  case atStart => exact ⟨0, Nat.zero_le _, rfl, rfl⟩
  case round =>
    obtain ⟨k, hk, rfl, hno⟩ := hrel
    by_cases hlt : k < ns.length
    · obtain ⟨b, off, rfl, hcell⟩ := hc k hlt
      have HS := Lib.hid (any_snoc ns t k hlt)
      have HP := Lib.hid (any_part ns t (k + 1))
      have HNo := Lib.hid hno
      have HN := fun w => Lib.hid (refKnown_any (ns.getD k 0) w)
      clear hc hno
      generalize kn (ns.getD k 0) = y at *
      generalize ns.getD k 0 = n at *
      by_cases hy : y = t
      · obtain rfl : y = t := hy
        have HB := Lib.hid (beq_self_eq_true y)
        go_wp2_with (go_at_call 41; refine ((HN _).out).mono ?_; rintro e w' ⟨rfl, rfl⟩)
        go_ret
        exact ⟨(by rw [HP.out (by rw [HS.out, HB.out, Bool.or_true])] : Ending.returned (.bool true) = Ending.returned (.bool (hasB ns y))), rfl⟩
      · have b1 : (y == t) = false := beq_eq_false_iff_ne.2 hy
        have HB := Lib.hid b1
        clear hy
        go_wp2_with (go_at_call 41; refine ((HN _).out).mono ?_; rintro e w' ⟨rfl, rfl⟩)
        go_round
        case rel => exact ⟨k + 1, by omega, by go_num, by rw [HS.out, HNo.out, HB.out]; rfl⟩
        case measure => simp [intOf]; omega
    · have e : k = ns.length := by omega
      have HT := Lib.hid (List.take_of_length_le (l := ns) (Nat.le_of_eq e.symm))
      have HNo := Lib.hid hno
      clear e hc hno
      have hd : decide (k < ns.length) = false := decide_eq_false hlt
      go_wp2
      go_ret
      exact ⟨(by rw [← HNo.out, HT.out] : Ending.returned (.bool false) = Ending.returned (.bool (hasB ns t))), rfl⟩

def refAnd (ns : List Int) : Int := if hasB ns 1 = true then 1 else if hasB ns 2 = true then 2 else 0
def refOr (ns : List Int) : Int := if hasB ns 0 = true then 0 else if hasB ns 2 = true then 2 else 1

theorem refAnd_any (ns : List Int) (v : Value) (w : World) (h : IntsAt w v ns) (hl : ns.length ≤ 9223372036854775807) : Calls Try.prog 17 #[v] w fun e w' => e = .returned (.int .i64 (refAnd ns)) ∧ w' = w := by
  have H1 := Lib.hid (refHas_any ns 1 v w h hl)
  have H2 := Lib.hid (refHas_any ns 2 v w h hl)
  clear h
  unfold refAnd
  generalize hasB ns 1 = b1 at *
  generalize hasB ns 2 = b2 at *
  cases b1
  · cases b2
    all_goals
      go_enter Try.func17, Try.ntmps17
      go_wp2_with fail
      refine H1.out.mono ?_; rintro e w' ⟨rfl, rfl⟩
      go_wp2_with fail
      refine H2.out.mono ?_; rintro e w' ⟨rfl, rfl⟩
      go_wp2
      go_ret
      exact ⟨rfl, rfl⟩
  · go_enter Try.func17, Try.ntmps17
    go_wp2_with fail
    refine H1.out.mono ?_; rintro e w' ⟨rfl, rfl⟩
    go_wp2
    go_ret
    exact ⟨rfl, rfl⟩

theorem refOr_any (ns : List Int) (v : Value) (w : World) (h : IntsAt w v ns) (hl : ns.length ≤ 9223372036854775807) : Calls Try.prog 19 #[v] w fun e w' => e = .returned (.int .i64 (refOr ns)) ∧ w' = w := by
  have H1 := Lib.hid (refHas_any ns 0 v w h hl)
  have H2 := Lib.hid (refHas_any ns 2 v w h hl)
  clear h
  unfold refOr
  generalize hasB ns 0 = b1 at *
  generalize hasB ns 2 = b2 at *
  cases b1
  · cases b2
    all_goals
      go_enter Try.func19, Try.ntmps19
      go_wp2_with fail
      refine H1.out.mono ?_; rintro e w' ⟨rfl, rfl⟩
      go_wp2_with fail
      refine H2.out.mono ?_; rintro e w' ⟨rfl, rfl⟩
      go_wp2
      go_ret
      exact ⟨rfl, rfl⟩
  · go_enter Try.func19, Try.ntmps19
    go_wp2_with fail
    refine H1.out.mono ?_; rintro e w' ⟨rfl, rfl⟩
    go_wp2
    go_ret
    exact ⟨rfl, rfl⟩

theorem kn_z (t : Int) : zOf (kn t) = (zOf t).known := by
  unfold kn
  by_cases h : t < 0 ∨ 2 < t
  · rw [if_pos h]; unfold zOf; rw [if_neg (by omega : ¬ t = 0), if_neg (by omega : ¬ t = 1), if_neg (by omega : ¬ t = 2)]; rfl
  · rw [if_neg h]
    have : t = 0 ∨ t = 1 ∨ t = 2 := by omega
    rcases this with rfl | rfl | rfl <;> rfl
theorem z_not (t : Int) : zOf (if kn t = 0 then 1 else if kn t = 1 then 0 else 2) = (zOf t).not := by
  unfold kn
  by_cases h : t < 0 ∨ 2 < t
  · simp only [if_pos h]; unfold zOf; rw [if_neg (by omega : ¬ t = 0), if_neg (by omega : ¬ t = 1), if_neg (by omega : ¬ t = 2)]; rfl
  · simp only [if_neg h]
    have : t = 0 ∨ t = 1 ∨ t = 2 := by omega
    rcases this with rfl | rfl | rfl <;> rfl
theorem kn3 (t : Int) : kn t = 0 ∨ kn t = 1 ∨ kn t = 2 := by unfold kn; split <;> omega
theorem z_known (t : Int) : (zOf t).known = if kn t = 0 then .t else if kn t = 1 then .f else .u := by
  rw [← kn_z]; rcases kn3 t with h | h | h <;> rw [h] <;> rfl
theorem foldMin (ns : List Int) : ∀ a : Tr, a.isT = true → (ns.map zOf).foldl Tr.min a = if a = .f ∨ hasB ns 1 = true then .f else if a = .u ∨ hasB ns 2 = true then .u else .t := by
  induction ns with
  | nil => intro a h; cases a <;> simp_all [Tr.isT, hasB]
  | cons n ns ih =>
    intro a h
    have e1 : hasB (n :: ns) 1 = (kn n == 1 || hasB ns 1) := by simp [hasB]
    have e2 : hasB (n :: ns) 2 = (kn n == 2 || hasB ns 2) := by simp [hasB]
    rw [List.map_cons, List.foldl_cons, ih _ (min_isT _ _ h), e1, e2]
    have hz := z_known n
    rcases kn3 n with k | k | k <;> rw [k] at hz ⊢ <;> cases a <;> simp_all [Tr.min, Tr.isT]
theorem foldMax (ns : List Int) : ∀ a : Tr, a.isT = true → (ns.map zOf).foldl Tr.max a = if a = .t ∨ hasB ns 0 = true then .t else if a = .u ∨ hasB ns 2 = true then .u else .f := by
  induction ns with
  | nil => intro a h; cases a <;> simp_all [Tr.isT, hasB]
  | cons n ns ih =>
    intro a h
    have e1 : hasB (n :: ns) 0 = (kn n == 0 || hasB ns 0) := by simp [hasB]
    have e2 : hasB (n :: ns) 2 = (kn n == 2 || hasB ns 2) := by simp [hasB]
    rw [List.map_cons, List.foldl_cons, ih _ (max_isT _ _ h), e1, e2]
    have hz := z_known n
    rcases kn3 n with k | k | k <;> rw [k] at hz ⊢ <;> cases a <;> simp_all [Tr.max, Tr.isT]
theorem z_refAnd (ns : List Int) : zOf (refAnd ns) = andL (ns.map zOf) := by
  unfold andL refAnd; rw [foldMin _ _ rfl]
  cases hasB ns 1 <;> cases hasB ns 2 <;> simp <;> rfl
theorem z_refOr (ns : List Int) : zOf (refOr ns) = orL (ns.map zOf) := by
  unfold orL refOr; rw [foldMax _ _ rfl]
  cases hasB ns 0 <;> cases hasB ns 2 <;> simp <;> rfl

theorem Try.info26 : (Try.prog.info? 26).map (fun i => (i.zero, i.size, i.bytes)) = some (some (.complex .f64 0 0), 1, 16) := by kernel_rfl

theorem take_map_snoc (ns : List Int) (k : Nat) (h : k < ns.length) : (ns.take (k + 1)).map (fun n => (zOf n).v) = (ns.take k).map (fun n => (zOf n).v) ++ [(zOf (ns.getD k 0)).v] := by
  rw [List.take_succ_eq_append_getElem h, List.map_append]; simp [List.getD_eq_getElem?_getD, h]

theorem trsAt_own {w : World} {B : Nat} {v : Value} {zs : List Tr} (h : w.ownsRow B 26 1 v zs.length (zs.map Tr.v)) : TrsAt w v zs := by
  have hc := h
  rcases h.2 with ⟨rfl, hn⟩ | ⟨g, cap, cur, rfl, _⟩
  · exact ⟨none, 0, by rw [hn], fun i hi => by omega⟩
  · refine ⟨_, cap, rfl, fun i hi => ⟨g, 0, rfl, ?_⟩⟩
    have := hc.cells (g := g) rfl i ((zs.getD i .t).v) (by simp [List.getD_eq_getElem?_getD, hi])
    have e : (⟨g, 0, none⟩ : Addr).add i = ⟨g, 0 + i, none⟩ := by unfold Addr.add; split <;> simp_all
    rw [e] at this
    exact this

theorem Tr.v_cx (z : Tr) : ∃ re im, z.v = .complex .f64 re im := by cases z <;> exact ⟨_, _, rfl⟩

set_option maxHeartbeats 400000 in
theorem numbers_any (ns : List Int) (v : Value) (w : World) (h : IntsAt w v ns) (hl : ns.length ≤ 1000) :
    Calls Try.prog 12 #[v] w fun e w' => ∃ r, e = .returned r ∧ w'.ownsRow w.heap.size 26 1 r (ns.map zOf).length ((ns.map zOf).map Tr.v) ∧ Below w.heap.size w w' := by
  obtain ⟨a, cap, rfl, hc⟩ := h
  obtain ⟨i0, hi, hz0, hz1, hz2⟩ := info_parts Try.info26
  go_enter Try.func12, Try.ntmps12
  go_wp2
  go_loopw [3, 4] (fun v i wr => ∃ k : Nat, k ≤ ns.length ∧ i = .int .i64 k ∧ wr.ownsRow w.heap.size 26 1 v k ((ns.take k).map (fun n => (zOf n).v)) ∧ Below w.heap.size w wr) (fun _ i _ => ns.length - (intOf i).toNat)
  case atStart => exact ⟨0, Nat.zero_le _, rfl, World.ownsRow_nil _ _ _ _, Below.refl _ _⟩
  case round =>
    obtain ⟨k, hk, rfl, hown, hb⟩ := hrel
    by_cases hlt : k < ns.length
    · obtain ⟨b, off, rfl, hcell⟩ := hc k hlt
      have hbl : b < w.heap.size := World.block_lt_of_cell? w _ hcell
      have hcell' := (hb.cell (p := ⟨b, off + k, none⟩) hbl).trans hcell
      have HS := Lib.hid (take_map_snoc ns k hlt)
      have HN := fun w => Lib.hid (z_any (ns.getD k 0) w)
      clear hc hcell
      generalize zOf (ns.getD k 0) = z at *
      generalize ns.getD k 0 = n at *
      obtain ⟨re, im, hv⟩ := Tr.v_cx z
      simp only [hv] at HN
      have HV := Lib.hid hv
      clear hv
      go_wp2_with (first
        | (go_at_call 13; refine ((HN _).out).mono ?_; rintro e w' ⟨rfl, rfl⟩)
        | (at_builtin; refine wpList_append_own _ rfl _ _ 24 rfl w.heap.size 26 i0 (.complex .f64 0 0) 1 16 Try.underlying24 hi hz0 hz1 hz2 rfl (by decide) _ _ _ rfl (hown.alloc _) ⟨_, 0, none⟩ 1 1 [.complex .f64 re im] rfl rfl ?c1 ?c2 ?c3 ?c4 ?c5 ?_))
      case c1 =>
        intro j u hj
        match j, hj with
        | 0, hj => simp at hj; subst hj; simp [Addr.add]
      case c2 => intro u hu; simp at hu; subst hu; rfl
      case c3 => unfold maxLen; omega
      case c4 => omega
      case c5 => have := hb.size; simp; omega
      intro v' w1 hown' hgrow _
      have hb1 : Below w.heap.size w w1 := (hb.alloc hb.size _).grown hgrow (by have := hb.size; simp; omega) (fun k hk => (hown.lt k hk).1)
      clear hown hgrow hb
      go_wp2
      go_roundw
      case rel => exact ⟨k + 1, by omega, by go_num, by rw [HS.out, HV.out, List.map_take]; exact hown', hb1⟩
      case measure => simp [intOf]; omega
    · have e : k = ns.length := by omega
      subst e
      have hd : decide (ns.length < ns.length) = false := decide_eq_false hlt
      clear hlt hc
      rw [List.take_length] at hown
      go_wp2
      go_ret
      exact ⟨_, rfl, by rw [List.length_map, List.map_map]; exact hown, hb⟩
end Go.Proofs.Ytpmmccmhmoihgaa
