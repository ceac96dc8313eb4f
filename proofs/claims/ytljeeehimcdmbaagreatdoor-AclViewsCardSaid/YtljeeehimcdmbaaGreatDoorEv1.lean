/- A verified evaluator of the program's code, part 1: definitions and laws. No condition. -/
import Derived.Test.YtljeeehimcdmbaaGreatDoorEv0
import Derived.Laws.StructEq
import Derived.Laws.Small
import Derived.Laws.Tables
import Derived.Laws.NewFold
import Derived.Laws.Append
import Derived.Laws.AppendOwn
set_option linter.unusedVariables false
set_option linter.unusedSimpArgs false
section
/- E: numbers and texts. No condition. -/
namespace Go.E
open Go Go.RowKit

theorem nbeq_eq (a b : Nat) : Nat.beq a b = decide (a = b) := by
  cases h : Nat.beq a b with
  | true => simp [Nat.eq_of_beq_eq_true h]
  | false => simp [Nat.ne_of_beq_eq_false h]
theorem nblt_eq (a b : Nat) : Nat.blt a b = decide (a < b) := by
  cases h : Nat.blt a b with
  | true => simp [(Nat.blt_eq (x := a) (y := b)).mp h]
  | false =>
    have : ¬ a < b := fun hl => by rw [(Nat.blt_eq (x := a) (y := b)).mpr hl] at h; cases h
    simp [this]
theorem nble_eq (a b : Nat) : Nat.ble a b = decide (a ≤ b) := by
  cases h : Nat.ble a b with
  | true => simp [Nat.le_of_ble_eq_true h]
  | false =>
    have : ¬ a ≤ b := fun hl => by rw [Nat.ble_eq_true_of_le hl] at h; cases h
    simp [this]
theorem wS_eq {b : Nat} {k : IntKind} (hs : k.signed = true) (hb : (2 ^ (k.bits - 1) : Int) = b) (h2 : (2 ^ k.bits : Int) = 2 * b) (n : Int) : wS b k n = k.wrap n := by
  cases n with
  | ofNat m =>
    show ifB (Nat.blt m b) (Int.ofNat m) (k.wrap (.ofNat m)) = _
    cases h : Nat.blt m b with
    | false => rfl
    | true =>
      have hm : m < b := by rw [nblt_eq] at h; simpa using h
      show Int.ofNat m = _
      have e : (Int.ofNat m) % (2 ^ k.bits : Int) = Int.ofNat m := Int.emod_eq_of_lt (by simp) (by rw [h2]; simp; omega)
      simp only [IntKind.wrap, e, hs, Bool.true_and, decide_eq_true_eq]
      rw [if_neg (by rw [hb]; simp; omega)]
  | negSucc m =>
    show ifB (Nat.blt m b) (Int.negSucc m) (k.wrap (.negSucc m)) = _
    cases h : Nat.blt m b with
    | false => rfl
    | true =>
      have hm : m < b := by rw [nblt_eq] at h; simpa using h
      show Int.negSucc m = _
      have e : (Int.negSucc m) % (2 ^ k.bits : Int) = Int.negSucc m + 2 * b := by
        rw [h2, ← Int.add_mul_emod_self_left (Int.negSucc m) (2 * b) 1, Int.mul_one]
        exact Int.emod_eq_of_lt (by omega) (by omega)
      simp only [IntKind.wrap, e, hs, Bool.true_and, decide_eq_true_eq]
      rw [if_pos (by rw [hb]; simp; omega), h2]
      omega
theorem wU_eq {b : Nat} {k : IntKind} (hs : k.signed = false) (h2 : (2 ^ k.bits : Int) = b) (n : Int) : wU b k n = k.wrap n := by
  cases n with
  | ofNat m =>
    show Int.ofNat (Nat.mod m b) = _
    simp only [IntKind.wrap, hs, Bool.false_and, Bool.false_eq_true, if_false, h2]
    rfl
  | negSucc m => rfl
theorem wrapI_eq (k : IntKind) (n : Int) : wrapI k n = k.wrap n := by
  cases k with
  | i8 => exact wS_eq rfl (by decide) (by decide) n
  | i16 => exact wS_eq rfl (by decide) (by decide) n
  | i32 => exact wS_eq rfl (by decide) (by decide) n
  | i64 => exact wS_eq rfl (by decide) (by decide) n
  | u8 => exact wU_eq rfl (by decide) n
  | u16 => exact wU_eq rfl (by decide) n
  | u32 => exact wU_eq rfl (by decide) n
  | u64 => exact wU_eq rfl (by decide) n
theorem eqI_eq (a b : Int) : eqI a b = decide (a = b) := by
  cases a with
  | ofNat a => cases b with
    | ofNat b => show Nat.beq a b = _; rw [nbeq_eq]; congr 1; apply propext; simp only [Int.ofNat_eq_natCast]; omega
    | negSucc b => show false = _; simp
  | negSucc a => cases b with
    | ofNat b => show false = _; simp
    | negSucc b => show Nat.beq a b = _; rw [nbeq_eq]; simp
theorem ltI_eq (a b : Int) : ltI a b = decide (a < b) := by
  cases a with
  | ofNat a => cases b with
    | ofNat b => show Nat.blt a b = _; rw [nblt_eq]; simp
    | negSucc b => show false = _; symm; rw [decide_eq_false_iff_not]; simp only [Int.ofNat_eq_natCast]; omega
  | negSucc a => cases b with
    | ofNat b => show true = _; symm; rw [decide_eq_true_eq]; simp only [Int.ofNat_eq_natCast]; omega
    | negSucc b => show Nat.blt b a = _; rw [nblt_eq]; congr 1; apply propext; omega
theorem eqL_eq : ∀ (l m : List Nat), eqL l m = decide (l = m)
  | [], [] => rfl
  | [], _ :: _ => rfl
  | _ :: _, [] => rfl
  | a :: l, b :: m => by
    show ifB (Nat.beq a b) (eqL l m) false = _
    rw [nbeq_eq, eqL_eq l m]
    by_cases h : a = b
    · subst h; simp
    · simp [h]
theorem bytes_inj {a b : List UInt8} (h : a.map UInt8.toNat = b.map UInt8.toNat) : a = b := by
  refine List.map_inj_right (f := UInt8.toNat) (fun x y hxy => UInt8.toNat_inj.1 hxy) |>.1 h
theorem eqL_bytes {l m : List Nat} {s t : ByteArray} (hs : s.data.toList.map UInt8.toNat = l) (ht : t.data.toList.map UInt8.toNat = m) : eqL l m = (s.toList == t.toList) := by
  rw [eqL_eq, ByteArray.toList_eq, ByteArray.toList_eq]
  subst hs ht
  by_cases h : s.data.toList = t.data.toList
  · simp [h]
  · have : ¬ s.data.toList.map UInt8.toNat = t.data.toList.map UInt8.toNat := fun e => h (bytes_inj e)
    simp only [this, decide_false]
    symm
    exact beq_eq_false_iff_ne.2 h
theorem ltL_bytes : ∀ (a b : List UInt8), ltL (a.map UInt8.toNat) (b.map UInt8.toNat) = Op.bytesLess a b
  | [], [] => rfl
  | [], _ :: _ => rfl
  | _ :: _, [] => rfl
  | a :: l, b :: m => by
    show ifB (Nat.blt a.toNat b.toNat) true (ifB (Nat.beq a.toNat b.toNat) (ltL (l.map UInt8.toNat) (m.map UInt8.toNat)) false) = (decide (a < b) || (a == b && Op.bytesLess l m))
    rw [ltL_bytes l m, nblt_eq, nbeq_eq]
    have h1 : decide (a.toNat < b.toNat) = decide (a < b) := by simp [UInt8.lt_iff_toNat_lt]
    have h2 : decide (a.toNat = b.toNat) = (a == b) := by
      rw [Bool.eq_iff_iff]; simp [UInt8.toNat_inj]
    rw [h1, h2, ifB_eq, ifB_eq]
    cases decide (a < b) <;> cases (a == b) <;> simp
theorem kEq_iff (k l : IntKind) : kEq k l = decide (k = l) := by cases k <;> cases l <;> rfl
theorem fEq_iff (k l : FloatKind) : fEq k l = decide (k = l) := by cases k <;> cases l <;> rfl

/-! ### Two numbers -/
theorem small_ok (k : IntKind) : small k ≤ 2 ^ k.bits ∧ (k.signed = true → (2 ^ (k.bits - 1) : Int) = small k) ∧ small k = 2 ^ (k.bits - 1) := by cases k <;> decide
theorem wrap_small {k : IntKind} {m : Nat} (h : m < small k) : k.wrap (Int.ofNat m) = Int.ofNat m := by
  have h2 : (small k : Int) ≤ (2 ^ k.bits : Int) := by exact_mod_cast (small_ok k).1
  have e : (Int.ofNat m) % (2 ^ k.bits : Int) = Int.ofNat m := Int.emod_eq_of_lt (by simp) (by simp; omega)
  simp only [IntKind.wrap, e]
  cases hs : k.signed with
  | false => simp
  | true =>
    rw [(small_ok k).2.1 hs]
    simp only [Bool.true_and, decide_eq_true_eq]
    rw [if_neg (by simp; omega)]
theorem bv_small {k : IntKind} {m : Nat} (h : m < small k) : (BitVec.ofInt k.bits (Int.ofNat m)).toNat = m := by
  have h2 := (small_ok k).1
  simp only [Int.ofNat_eq_natCast, BitVec.ofInt_natCast, BitVec.toNat_ofNat]
  exact Nat.mod_eq_of_lt (by omega)
theorem nat2_inv {k : IntKind} {a b : Int} {f : Nat → Nat → Nat} {v : RV} (h : nat2 k a b f = some v) : ∃ m n, a = .ofNat m ∧ b = .ofNat n ∧ m < small k ∧ n < small k ∧ v = .int k (.ofNat (f m n)) := by
  unfold nat2 at h
  split at h
  · obtain ⟨h1, h2⟩ := ifB_none h
    obtain ⟨h3, h4⟩ := ifB_none h2
    rw [nblt_eq, decide_eq_true_eq] at h1 h3
    rw [ri_eq] at h4
    cases h4
    exact ⟨_, _, rfl, rfl, h1, h3, rfl⟩
  · cases h
theorem capN_eq (n b : Nat) : capN n b = min n b := by
  unfold capN
  rw [nble_eq, ifB_eq]
  by_cases h : n ≤ b
  · simp [h]
  · simp [h]; omega
theorem small_land {k : IntKind} {m n : Nat} (hm : m < small k) (hn : n < small k) : m &&& n < small k ∧ m ||| n < small k ∧ m ^^^ n < small k := by
  rw [(small_ok k).2.2] at *
  exact ⟨Nat.and_lt_two_pow _ hn, Nat.or_lt_two_pow hm hn, Nat.xor_lt_two_pow hm hn⟩
theorem bin_int {P : Program} {w : World} {op : BinOp} {k k' : IntKind} {a b : Int} {t : TypeId} {v : RV} (hk : k = k' ∨ isShift op = true) (h : binI op k a b = some v) (g : Gh) :
    ∃ V, (binOp op t (.int k a) (.int k' b)).run P w = .ok V w ∧ VR g v V := by
  cases op with
  | shl =>
    cases b with
    | negSucc n => cases h
    | ofNat n =>
      have h : ri k (wrapI k (Int.mul a (.ofNat (Nat.pow 2 (capN n k.bits))))) = some v := h
      rw [ri_eq, wrapI_eq, capN_eq] at h
      cases h
      refine ⟨_, ?_, .int _ _⟩
      have e : binOp .shl t (.int k a) (.int k' (.ofNat n)) = pure (.int k (k.wrap (a * 2 ^ min n k.bits))) := by
        simp only [binOp, Op.shift]
        rw [if_neg (by simp)]
        rfl
      rw [e, Sem.run_pure]
      have e2 : (2 : Int) ^ min n k.bits = Int.ofNat (Nat.pow 2 (min n k.bits)) := by simp
      rw [e2]; rfl
  | shr =>
    cases b with
    | negSucc n => cases h
    | ofNat n =>
      cases a with
      | negSucc m => cases h
      | ofNat m =>
        have h : ri k (.ofNat (Nat.div m (Nat.pow 2 (capN n k.bits)))) = some v := h
        rw [ri_eq, capN_eq] at h
        cases h
        refine ⟨_, ?_, .int _ _⟩
        have e : binOp .shr t (.int k (.ofNat m)) (.int k' (.ofNat n)) = pure (.int k ((Int.ofNat m).fdiv (2 ^ min n k.bits))) := by
          simp only [binOp, Op.shift]
          rw [if_neg (by simp)]
          rfl
        rw [e, Sem.run_pure]
        have e2 : (2 : Int) ^ min n k.bits = Int.ofNat (Nat.pow 2 (min n k.bits)) := by simp
        rw [e2, show (Int.ofNat m).fdiv (Int.ofNat (Nat.pow 2 (min n k.bits))) = (Int.ofNat m) / (Int.ofNat (Nat.pow 2 (min n k.bits))) from Int.fdiv_eq_ediv_of_nonneg _ (Int.natCast_nonneg _)]
        rfl
  | _ =>
    have hk : k = k' := by
      rcases hk with hk | hk
      · exact hk
      · cases hk
    subst hk
    first
      | (cases h; done)
      | (obtain ⟨m, n, rfl, rfl, hm, hn, rfl⟩ := nat2_inv h
         refine ⟨_, ?_, .int _ _⟩
         simp only [binOp, Op.intBits, ne_eq, not_true_eq_false, if_false, Sem.run_pure, BitVec.toNat_and, BitVec.toNat_or, BitVec.toNat_xor, bv_small hm, bv_small hn]
         congr 2
         exact wrap_small (by first | exact (small_land hm hn).1 | exact (small_land hm hn).2.1 | exact (small_land hm hn).2.2))
      | (obtain ⟨h1, h2⟩ := ifB_none' (show ifB (eqI b (.ofNat 0)) none _ = some v from h)
         rw [eqI_eq, decide_eq_false_iff_not] at h1
         have h1 : ¬ b = 0 := h1
         simp only [ri_eq, wrapI_eq] at h2
         cases h2
         refine ⟨_, ?_, .int _ _⟩
         simp only [binOp, Op.intDiv, ne_eq, not_true_eq_false, if_false]
         rw [if_neg h1]; rfl)
      | (have h := (show ri k (wrapI k _) = some v from h)
         simp only [ri_eq, wrapI_eq] at h
         cases h
         refine ⟨_, ?_, .int _ _⟩
         simp only [binOp, Op.intArith, ne_eq, not_true_eq_false, if_false, Sem.run_pure]; rfl)
      | (have h := (show rb _ = some v from h)
         simp only [rb_eq] at h
         cases h
         refine ⟨_, ?_, .bool _⟩
         simp only [binOp, Op.intCmp, ne_eq, not_true_eq_false, if_false, Sem.run_pure, eqI_eq, ltI_eq]
         all_goals (congr 2 <;> first
           | (rw [Bool.eq_iff_iff]; simp; done)
           | (rw [Bool.eq_iff_iff]; simp; omega)))
end Go.E
end

section
/- E: two values and an operator. No condition. -/
namespace Go.E
open Go Go.RowKit

theorem VR.str_mk {g : Gh} (s : ByteArray) : VR g (.str (s.data.toList.map UInt8.toNat)) (.string s) := .str _ _ rfl
theorem size_of_bytes {s : ByteArray} {l : List Nat} (h : s.data.toList.map UInt8.toNat = l) : s.size = l.length := by
  rw [← h, List.length_map, Array.length_toList]; rfl
theorem among_ok {l : List Nat} : ∀ {xs : List (List Nat)}, among l xs = true → l ∈ xs
  | [], h => by cases h
  | a :: xs, h => by
    have h : ifB (eqL l a) true (among l xs) = true := h
    cases e : eqL l a with
    | true =>
      rw [eqL_eq, decide_eq_true_eq] at e
      exact e ▸ List.mem_cons_self
    | false =>
      rw [e] at h
      exact List.mem_cons_of_mem _ (among_ok h)
theorem binS_ne {op : BinOp} {l m : List Nat} {v : RV} (hn : l ≠ m) (h : eqNil op false = some v) : binS op l m = some v := by
  unfold eqNil at h
  split at h
  · show rb (eqL l m) = some v
    rw [eqL_eq, decide_eq_false hn]; exact h
  · show rb (not (eqL l m)) = some v
    rw [eqL_eq, decide_eq_false hn]; exact h
  · cases h
theorem binS_eq {op : BinOp} {l : List Nat} {v : RV} (h : eqNil op true = some v) : binS op l l = some v := by
  unfold eqNil at h
  split at h
  · show rb (eqL l l) = some v
    rw [eqL_eq, decide_eq_true rfl]; exact h
  · show rb (not (eqL l l)) = some v
    rw [eqL_eq, decide_eq_true rfl]; exact h
  · cases h
theorem bin_str {P : Program} {w : World} {op : BinOp} {l m : List Nat} {a b : ByteArray} {t : TypeId} {v : RV} (ha : a.data.toList.map UInt8.toNat = l) (hb : b.data.toList.map UInt8.toNat = m) (h : binS op l m = some v) (g : Gh) :
    ∃ V, (binOp op t (.string a) (.string b)).run P w = .ok V w ∧ VR g v V := by
  have e1 := eqL_bytes ha hb
  have e2 : ltL l m = Op.bytesLess a.toList b.toList := by rw [ByteArray.toList_eq, ByteArray.toList_eq, ← ha, ← hb]; exact ltL_bytes _ _
  have e3 : eqL m l = eqL l m := by rw [eqL_eq, eqL_eq]; congr 1; apply propext; exact ⟨Eq.symm, Eq.symm⟩
  have tri : ltL m l = !(ltL l m || eqL l m) := by
    rw [← ha, ← hb]
    exact lt_tri _ _
  cases op with
  | add =>
    obtain ⟨r, h1, h2⟩ := bnd_inv (show bnd (appS l m) _ = some v from h)
    rw [appS_eq] at h1
    cases h1
    obtain ⟨h3, h4⟩ := ifB_none h2
    cases h4
    rw [nblt_eq, decide_eq_true_eq, lenL_zero] at h3
    refine ⟨.string (a ++ b), ?_, .str _ _ ?_⟩
    · simp only [binOp, Op.stringOp]
      rw [if_neg, Sem.run_pure]
      have h5 := size_of_bytes ha
      have h6 := size_of_bytes hb
      simp only [List.length_append] at h3
      simp only [IntKind.max, IntKind.signed, IntKind.bits, if_true]
      omega
    · rw [ByteArray.data_append, Array.toList_append, List.map_append, ha, hb]
  | eql | neq | lss | leq | gtr | geq =>
    have h := (show rb _ = some v from h)
    rw [rb_eq] at h
    cases h
    refine ⟨_, ?_, .bool _⟩
    simp only [binOp, Op.stringOp, Sem.run_pure, ← e1, ← e2, tri, Bool.not_not]
  | _ => cases h
  where
  lt_tri : ∀ (a b : List UInt8), ltL (b.map UInt8.toNat) (a.map UInt8.toNat) = !(ltL (a.map UInt8.toNat) (b.map UInt8.toNat) || eqL (a.map UInt8.toNat) (b.map UInt8.toNat))
    | [], [] => rfl
    | [], _ :: _ => rfl
    | _ :: _, [] => rfl
    | a :: l, b :: m => by
      show ifB (Nat.blt b.toNat a.toNat) true (ifB (Nat.beq b.toNat a.toNat) (ltL (m.map UInt8.toNat) (l.map UInt8.toNat)) false) = !(ifB (Nat.blt a.toNat b.toNat) true (ifB (Nat.beq a.toNat b.toNat) (ltL (l.map UInt8.toNat) (m.map UInt8.toNat)) false) || ifB (Nat.beq a.toNat b.toNat) (eqL (l.map UInt8.toNat) (m.map UInt8.toNat)) false)
      rw [lt_tri l m, nblt_eq, nblt_eq, nbeq_eq, nbeq_eq]
      rcases Nat.lt_trichotomy a.toNat b.toNat with h | h | h
      · simp [h, ifB_eq]; omega
      · simp [h]
      · have h1 : ¬ a.toNat < b.toNat := by omega
        have h2 : ¬ a.toNat = b.toNat := by omega
        simp [h, h1, h2, ifB_eq]

theorem run_equal {P : Program} {w : World} {t : TypeId} {x y : Value} {r : Bool} (h : ∀ d, (Op.equalIn (d + 1) t x y).run P w = .ok r w) : (Op.equal t x y).run P w = .ok r w := h 9999
theorem eqNil_ok {P : Program} {w : World} {op : BinOp} {r : Bool} {t : TypeId} {x y : Value} {v : RV} {g : Gh} (h : eqNil op r = some v)
    (hb : ∀ op', op' = .eql ∨ op' = .neq → binOp op' t x y = match op' with | .eql => (do pure (.bool (← Op.equal t x y))) | _ => (do pure (.bool (!(← Op.equal t x y)))))
    (hr : (Op.equal t x y).run P w = .ok r w) : ∃ V, (binOp op t x y).run P w = .ok V w ∧ VR g v V := by
  unfold eqNil at h
  split at h
  · rw [rb_eq] at h
    cases h
    refine ⟨_, ?_, .bool _⟩
    rw [hb _ (.inl rfl)]
    simp only [Sem.run_bind, hr, Result.andThen_ok, Sem.run_pure]
  · rw [rb_eq] at h
    cases h
    refine ⟨_, ?_, .bool _⟩
    rw [hb _ (.inr rfl)]
    simp only [Sem.run_bind, hr, Result.andThen_ok, Sem.run_pure]
  · cases h

/-- Structs and arrays of plain parts, held against each other. -/
def QOk (P : Program) (Γ : Tys) : Prop := ∀ (t : TypeId) (ty : ETy) (ks : List EK), Γ.ty t = some ty → isAggK ty.k = true → flatK Γ 5 t = some ks → ∀ (g : Gh) (l m : List RV) (xs ys : Array Value) (r : Bool) (w : World), VRs g l xs.toList → VRs g m ys.toList →
  (∀ v ∈ l, v.one = true) → (∀ v ∈ m, v.one = true) → eqKs ks l m = some r → P.eqGuardType P.depth t = false ∧ (Op.equal t (.agg xs) (.agg ys)).run P w = .ok r w
theorem guard_none {P : Program} {w : World} {op : BinOp} {t : TypeId} {x y : Operand} {a b : Value} (h1 : ¬ (a = .nilIface ∧ b = .nilIface)) (h2 : ∀ xs ys, a = .agg xs → b = .agg ys → P.eqGuardType P.depth t = false) : (eqGuard op t x y a b).run P w = .ok () w := by
  by_cases hab : ∃ xs ys, a = .agg xs ∧ b = .agg ys
  · obtain ⟨xs, ys, rfl, rfl⟩ := hab
    exact run_eqGuard_agg w op t x y xs ys (h2 _ _ rfl rfl)
  · unfold eqGuard
    cases op <;> first
      | rfl
      | (cases a <;> first
          | rfl
          | (cases b <;> first
              | rfl
              | exact absurd ⟨rfl, rfl⟩ h1
              | exact absurd ⟨_, _, rfl, rfl⟩ hab))
theorem guard_const {P : Program} {w : World} {op : BinOp} {t : TypeId} {x y : Operand} (hy : isConst y = true) : (eqGuard op t x y .nilIface .nilIface).run P w = .ok () w := by
  cases y with
  | const v => cases op <;> (unfold eqGuard; first | rfl | (simp; done))
  | _ => cases hy
theorem isSlK_inv {k : EK} (h : isSlK k = true) : ∃ e, k = .sl e := by cases k <;> first | exact ⟨_, rfl⟩ | cases h
theorem isMapK_inv {k : EK} (h : isMapK k = true) : ∃ a b, k = .map a b := by cases k <;> first | exact ⟨_, _, rfl⟩ | cases h
theorem isPtrK_inv {k : EK} (h : isPtrK k = true) : ∃ e, k = .ptr e := by cases k <;> first | exact ⟨_, rfl⟩ | cases h
theorem isFnK_inv {k : EK} (h : isFnK k = true) : k = .fn := by cases k <;> first | rfl | cases h
theorem isIfcK_inv {k : EK} (h : isIfcK k = true) : k = .ifc := by cases k <;> first | rfl | cases h
theorem ty_inv {P : Program} {Γ : Tys} (hT : TOk P Γ) {t : TypeId} {ty : ETy} (h : Γ.ty t = some ty) : ∃ d, P.underlying t = some d ∧ KOk ty.k d := by
  obtain ⟨i, d, _, _, _, h4, h5, _⟩ := (hT t ty h).ex
  exact ⟨d, h4, h5⟩
theorem size_inv {P : Program} {Γ : Tys} (hT : TOk P Γ) {t : TypeId} {ty : ETy} (h : Γ.ty t = some ty) : ∃ i, P.info? t = some i ∧ i.size = ty.size ∧ i.bytes = ty.bytes := by
  obtain ⟨i, d, h1, h2, h3, h4, h5, _⟩ := (hT t ty h).ex
  exact ⟨i, h1, h2, h3⟩
theorem ty_sl {P : Program} {Γ : Tys} (hT : TOk P Γ) {t : TypeId} {ty : ETy} (h : Γ.ty t = some ty) {e : TypeId} (hk : ty.k = .sl e) : P.underlying t = some (.slice e) := by
  obtain ⟨d, h1, h2⟩ := ty_inv hT h
  rw [hk] at h2
  cases h2; exact h1
theorem ty_ptr {P : Program} {Γ : Tys} (hT : TOk P Γ) {t : TypeId} {ty : ETy} (h : Γ.ty t = some ty) {e : TypeId} (hk : ty.k = .ptr e) : P.underlying t = some (.pointer e) := by
  obtain ⟨d, h1, h2⟩ := ty_inv hT h
  rw [hk] at h2
  cases h2; exact h1
theorem ty_map {P : Program} {Γ : Tys} (hT : TOk P Γ) {t : TypeId} {ty : ETy} (h : Γ.ty t = some ty) {a b : TypeId} (hk : ty.k = .map a b) : P.underlying t = some (.map a b) := by
  obtain ⟨d, h1, h2⟩ := ty_inv hT h
  rw [hk] at h2
  cases h2; exact h1
theorem ty_ar {P : Program} {Γ : Tys} (hT : TOk P Γ) {t : TypeId} {ty : ETy} (h : Γ.ty t = some ty) {n : Nat} {e : TypeId} (hk : ty.k = .ar n e) : P.underlying t = some (.array n e) := by
  obtain ⟨d, h1, h2⟩ := ty_inv hT h
  rw [hk] at h2
  cases h2; exact h1
theorem ty_st {P : Program} {Γ : Tys} (hT : TOk P Γ) {t : TypeId} {ty : ETy} (h : Γ.ty t = some ty) {fs : List (Nat × TypeId)} (hk : ty.k = .st fs) : ∃ gs : Array Field, P.underlying t = some (.struct gs) ∧ gs.toList.map (fun f => (f.offset, f.type)) = fs := by
  obtain ⟨d, h1, h2⟩ := ty_inv hT h
  rw [hk] at h2
  cases h2 with
  | st fs gs h => exact ⟨gs, h1, h⟩
theorem ty_fn {P : Program} {Γ : Tys} (hT : TOk P Γ) {t : TypeId} {ty : ETy} (h : Γ.ty t = some ty) (hk : ty.k = .fn) : ∃ a b c, P.underlying t = some (.func a b c) := by
  obtain ⟨d, h1, h2⟩ := ty_inv hT h
  rw [hk] at h2
  cases h2; exact ⟨_, _, _, h1⟩
theorem ty_ifc {P : Program} {Γ : Tys} (hT : TOk P Γ) {t : TypeId} {ty : ETy} (h : Γ.ty t = some ty) (hk : ty.k = .ifc) : ∃ m, P.underlying t = some (.interface m) := by
  obtain ⟨d, h1, h2⟩ := ty_inv hT h
  rw [hk] at h2
  cases h2; exact ⟨_, h1⟩
theorem ty_str {P : Program} {Γ : Tys} (hT : TOk P Γ) {t : TypeId} {ty : ETy} (h : Γ.ty t = some ty) (hk : ty.k = .str) : P.underlying t = some .string := by
  obtain ⟨d, h1, h2⟩ := ty_inv hT h
  rw [hk] at h2
  cases h2; exact h1
theorem ty_bool {P : Program} {Γ : Tys} (hT : TOk P Γ) {t : TypeId} {ty : ETy} (h : Γ.ty t = some ty) (hk : ty.k = .bool) : P.underlying t = some .bool := by
  obtain ⟨d, h1, h2⟩ := ty_inv hT h
  rw [hk] at h2
  cases h2; exact h1
theorem ty_int {P : Program} {Γ : Tys} (hT : TOk P Γ) {t : TypeId} {ty : ETy} (h : Γ.ty t = some ty) {k : IntKind} (hk : ty.k = .int k) : P.underlying t = some (.int k) := by
  obtain ⟨d, h1, h2⟩ := ty_inv hT h
  rw [hk] at h2
  cases h2; exact h1

section
variable {P : Program} {Γ : Tys} {g : Gh} {w : World}
theorem bin_ok (hT : TOk P Γ) (hQ : QOk P Γ) {op : BinOp} {t : TypeId} {x y : Operand} {a b v : RV} {A B : Value} (ha : VR g a A) (hb : VR g b B) (h : binV a Γ t (isConst y) op b = some v) :
    (eqGuard op t x y A B).run P w = .ok () w ∧ ∃ V, (binOp op t A B).run P w = .ok V w ∧ VR g v V := by
  cases a with
  | bool p =>
    obtain ⟨q, rfl, h1⟩ := asBool_inv h
    obtain ⟨ty, h2, h3⟩ := bnd_inv h1
    rw [ha.bool_inv, hb.bool_inv]
    refine ⟨guard_none (by simp) (by simp), ?_⟩
    cases hk : ty.k with
    | bool =>
      rw [hk] at h3
      refine eqNil_ok h3 (by rintro _ (rfl | rfl) <;> rfl) (run_equal fun d => ?_)
      rw [run_equalIn_bool w d t p q (ty_bool hT h2 hk)]
      cases p <;> cases q <;> rfl
    | _ => rw [hk] at h3; cases h3
  | int k p =>
    obtain ⟨k', q, rfl, h1⟩ := asInt_inv h
    rw [ha.int_inv, hb.int_inv]
    refine ⟨guard_none (by simp) (by simp), ?_⟩
    cases hk : kEq k k' with
    | true =>
      rw [hk] at h1
      exact bin_int (.inl (kEq_eq hk)) h1 g
    | false =>
      rw [hk] at h1
      obtain ⟨h2, h3⟩ := ifB_none h1
      exact bin_int (.inr h2) h3 g
  | str p =>
    obtain ⟨s1, rfl, e1⟩ := ha.str_inv
    cases b with
    | str q =>
      obtain ⟨s2, rfl, e2⟩ := hb.str_inv
      exact ⟨guard_none (by simp) (by simp), bin_str e1 e2 h g⟩
    | ops n xs =>
      obtain ⟨h1, h2⟩ := ifB_none (show ifB (among p xs) (eqNil op false) none = some v from h)
      obtain ⟨s2, rfl, _, hx⟩ := hb.ops_inv
      exact ⟨guard_none (by simp) (by simp), bin_str e1 rfl (binS_ne (fun e => hx p (among_ok h1) e.symm) h2) g⟩
    | _ => cases h
  | ops n xs =>
    obtain ⟨s1, rfl, o1, hx⟩ := ha.ops_inv
    cases b with
    | str q =>
      obtain ⟨h1, h2⟩ := ifB_none (show ifB (among q xs) (eqNil op false) none = some v from h)
      obtain ⟨s2, rfl, e2⟩ := hb.str_inv
      exact ⟨guard_none (by simp) (by simp), bin_str rfl e2 (binS_ne (hx q (among_ok h1)) h2) g⟩
    | ops m ys =>
      obtain ⟨h1, h2⟩ := ifB_none (show ifB (Nat.beq n m) (eqNil op true) none = some v from h)
      rw [nbeq_eq, decide_eq_true_eq] at h1
      subst h1
      obtain ⟨s2, rfl, o2, _⟩ := hb.ops_inv
      have e : s1 = s2 := by rw [o1] at o2; injection o2
      subst e
      exact ⟨guard_none (by simp) (by simp), bin_str rfl rfl (binS_eq h2) g⟩
    | _ => cases h
  | nils =>
    obtain ⟨ty, h2, h3⟩ := bnd_inv h
    obtain ⟨h4, h5⟩ := ifB_none h3
    obtain ⟨e, hk⟩ := isSlK_inv h4
    have hu := ty_sl hT h2 hk
    rw [ha.nils_inv]
    cases b with
    | nils => rw [hb.nils_inv]; exact ⟨guard_none (by simp) (by simp), eqNil_ok h5 (by rintro _ (rfl | rfl) <;> rfl) (run_equal fun d => by simp [Op.equalIn, run_underlying hu])⟩
    | sl => obtain ⟨_, _, _, _, rfl, _⟩ := hb.sl_inv; exact ⟨guard_none (by simp) (by simp), eqNil_ok h5 (by rintro _ (rfl | rfl) <;> rfl) (run_equal fun d => by simp [Op.equalIn, run_underlying hu])⟩
    | emp => obtain ⟨_, _, rfl, _⟩ := hb.emp_inv; exact ⟨guard_none (by simp) (by simp), eqNil_ok h5 (by rintro _ (rfl | rfl) <;> rfl) (run_equal fun d => by simp [Op.equalIn, run_underlying hu])⟩
    | _ => cases h5
  | sl p1 p2 p3 p4 p5 =>
    obtain ⟨ty, h2, h3⟩ := bnd_inv (show bSl Γ t (isConst y) op b = some v from h)
    obtain ⟨h4, h5⟩ := ifB_none h3
    obtain ⟨e, hk⟩ := isSlK_inv h4
    have hu := ty_sl hT h2 hk
    obtain ⟨_, _, _, _, rfl, _⟩ := ha.sl_inv
    cases b with
    | nils => rw [hb.nils_inv]; exact ⟨guard_none (by simp) (by simp), eqNil_ok h5 (by rintro _ (rfl | rfl) <;> rfl) (run_equal fun d => by simp [Op.equalIn, run_underlying hu])⟩
    | _ => cases h5
  | emp =>
    obtain ⟨ty, h2, h3⟩ := bnd_inv (show bSl Γ t (isConst y) op b = some v from h)
    obtain ⟨h4, h5⟩ := ifB_none h3
    obtain ⟨e, hk⟩ := isSlK_inv h4
    have hu := ty_sl hT h2 hk
    obtain ⟨_, _, rfl, _⟩ := ha.emp_inv
    cases b with
    | nils => rw [hb.nils_inv]; exact ⟨guard_none (by simp) (by simp), eqNil_ok h5 (by rintro _ (rfl | rfl) <;> rfl) (run_equal fun d => by simp [Op.equalIn, run_underlying hu])⟩
    | _ => cases h5
  | nilm =>
    obtain ⟨ty, h2, h3⟩ := bnd_inv (show bNilm Γ t (isConst y) op b = some v from h)
    obtain ⟨h4, h5⟩ := ifB_none h3
    obtain ⟨e1, e2, hk⟩ := isMapK_inv h4
    have hu := ty_map hT h2 hk
    rw [ha.nilm_inv]
    cases b with
    | nilm => rw [hb.nilm_inv]; exact ⟨guard_none (by simp) (by simp), eqNil_ok h5 (by rintro _ (rfl | rfl) <;> rfl) (run_equal fun d => by simp [Op.equalIn, run_underlying hu])⟩
    | map => obtain ⟨_, _, rfl⟩ := hb.map_inv; exact ⟨guard_none (by simp) (by simp), eqNil_ok h5 (by rintro _ (rfl | rfl) <;> rfl) (run_equal fun d => by simp [Op.equalIn, run_underlying hu])⟩
    | _ => cases h5
  | map =>
    obtain ⟨ty, h2, h3⟩ := bnd_inv (show bMap Γ t (isConst y) op b = some v from h)
    obtain ⟨h4, h5⟩ := ifB_none h3
    obtain ⟨e1, e2, hk⟩ := isMapK_inv h4
    have hu := ty_map hT h2 hk
    obtain ⟨_, _, rfl⟩ := ha.map_inv
    cases b with
    | nilm => rw [hb.nilm_inv]; exact ⟨guard_none (by simp) (by simp), eqNil_ok h5 (by rintro _ (rfl | rfl) <;> rfl) (run_equal fun d => by simp [Op.equalIn, run_underlying hu])⟩
    | _ => cases h5
  | nilf =>
    obtain ⟨ty, h2, h3⟩ := bnd_inv (show bNilf Γ t (isConst y) op b = some v from h)
    obtain ⟨h4, h5⟩ := ifB_none h3
    obtain ⟨_, _, _, hu⟩ := ty_fn hT h2 (isFnK_inv h4)
    rw [ha.nilf_inv]
    cases b with
    | nilf => rw [hb.nilf_inv]; exact ⟨guard_none (by simp) (by simp), eqNil_ok h5 (by rintro _ (rfl | rfl) <;> rfl) (run_equal fun d => by simp [Op.equalIn, run_underlying hu])⟩
    | fn => obtain ⟨_, _, _, _, rfl⟩ := hb.fn_inv; exact ⟨guard_none (by simp) (by simp), eqNil_ok h5 (by rintro _ (rfl | rfl) <;> rfl) (run_equal fun d => by simp [Op.equalIn, run_underlying hu])⟩
    | _ => cases h5
  | fn =>
    obtain ⟨ty, h2, h3⟩ := bnd_inv (show bFn Γ t (isConst y) op b = some v from h)
    obtain ⟨h4, h5⟩ := ifB_none h3
    obtain ⟨_, _, _, hu⟩ := ty_fn hT h2 (isFnK_inv h4)
    obtain ⟨_, _, _, _, rfl⟩ := ha.fn_inv
    cases b with
    | nilf => rw [hb.nilf_inv]; exact ⟨guard_none (by simp) (by simp), eqNil_ok h5 (by rintro _ (rfl | rfl) <;> rfl) (run_equal fun d => by simp [Op.equalIn, run_underlying hu])⟩
    | _ => cases h5
  | nilp =>
    obtain ⟨ty, h2, h3⟩ := bnd_inv (show bNilp Γ t (isConst y) op b = some v from h)
    obtain ⟨h4, h5⟩ := ifB_none h3
    obtain ⟨e, hk⟩ := isPtrK_inv h4
    have hu := ty_ptr hT h2 hk
    rw [ha.nilp_inv]
    cases b with
    | nilp => rw [hb.nilp_inv]; exact ⟨guard_none (by simp) (by simp), eqNil_ok h5 (by rintro _ (rfl | rfl) <;> rfl) (run_equal fun d => by simp [Op.equalIn, run_underlying hu])⟩
    | ptr => obtain ⟨_, _, _, rfl⟩ := hb.ptr_inv; exact ⟨guard_none (by simp) (by simp), eqNil_ok h5 (by rintro _ (rfl | rfl) <;> rfl) (run_equal fun d => by simp [Op.equalIn, run_underlying hu])⟩
    | _ => cases h5
  | ptr p off =>
    obtain ⟨ty, h2, h3⟩ := bnd_inv (show bPtr p off Γ t (isConst y) op b = some v from h)
    obtain ⟨B1, o1, m1, rfl⟩ := ha.ptr_inv
    cases hk : ty.k with
    | ptr e =>
      rw [hk] at h3
      have hu := ty_ptr hT h2 hk
      cases b with
      | nilp => rw [hb.nilp_inv]; exact ⟨guard_none (by simp) (by simp), eqNil_ok h3 (by rintro _ (rfl | rfl) <;> rfl) (run_equal fun d => by simp [Op.equalIn, run_underlying hu])⟩
      | ptr q off' =>
        obtain ⟨B2, o2, m2, rfl⟩ := hb.ptr_inv
        obtain ⟨h4, h5⟩ := ifB_none h3
        obtain ⟨te, h6, h7⟩ := bnd_inv h5
        obtain ⟨h8, h9⟩ := ifB_none' h7
        have := Ps.same_eq h4
        subst this
        rw [m1] at m2
        cases m2
        obtain ⟨i, i1, i2, _⟩ := size_inv hT h6
        rw [nbeq_eq, decide_eq_false_iff_not] at h8
        refine ⟨guard_none (by simp) (by simp), eqNil_ok h9 (by rintro _ (rfl | rfl) <;> rfl) (run_equal fun d => ?_)⟩
        have hs : (sameAddr ⟨B1, o1 + off, none⟩ ⟨B1, o1 + off', none⟩).run P w = .ok (Nat.beq off off') w := by
          unfold sameAddr
          simp only [beq_self_eq_true, if_true, Sem.run_pure]
          congr 1
          rw [nbeq_eq, Bool.eq_iff_iff]
          simp
        simp only [Op.equalIn, Sem.run_bind, run_underlying hu, Result.andThen_ok, run_sizeOf i1, i2]
        rw [if_pos h8, hs]
      | _ => cases h3
    | _ => rw [hk] at h3; cases h3
  | ifc tx u =>
    obtain ⟨ty, h2, h3⟩ := bnd_inv (show bIfc Γ t (isConst y) op b = some v from h)
    obtain ⟨h4, h5⟩ := ifB_none h3
    obtain ⟨_, hu⟩ := ty_ifc hT h2 (isIfcK_inv h4)
    obtain ⟨_, _, rfl⟩ := ha.ifc_inv
    cases b with
    | nili => rw [hb.nili_inv]; exact ⟨guard_none (by simp) (by simp), eqNil_ok h5 (by rintro _ (rfl | rfl) <;> rfl) (run_equal fun d => by simp [Op.equalIn, run_underlying hu])⟩
    | _ => cases h5
  | nili =>
    obtain ⟨ty, h2, h3⟩ := bnd_inv (show bNili Γ t (isConst y) op b = some v from h)
    obtain ⟨h4, h5⟩ := ifB_none h3
    obtain ⟨_, hu⟩ := ty_ifc hT h2 (isIfcK_inv h4)
    rw [ha.nili_inv]
    cases b with
    | nili =>
      obtain ⟨h6, h7⟩ := ifB_none h5
      rw [hb.nili_inv]; exact ⟨guard_const h6, eqNil_ok h7 (by rintro _ (rfl | rfl) <;> rfl) (run_equal fun d => by simp [Op.equalIn, run_underlying hu])⟩
    | ifc => obtain ⟨_, _, rfl⟩ := hb.ifc_inv; exact ⟨guard_none (by simp) (by simp), eqNil_ok h5 (by rintro _ (rfl | rfl) <;> rfl) (run_equal fun d => by simp [Op.equalIn, run_underlying hu])⟩
    | _ => cases h5
  | agg l =>
    obtain ⟨m, rfl, h1⟩ := asAgg_inv h
    obtain ⟨ty, h2, h1⟩ := bnd_inv h1
    obtain ⟨h6, h1⟩ := ifB_none h1
    obtain ⟨ks, h7, h3⟩ := bnd_inv h1
    obtain ⟨r, h4, h5⟩ := bnd_inv h3
    obtain ⟨xs, rfl, e1, o1⟩ := ha.agg_inv
    obtain ⟨ys, rfl, e2, o2⟩ := hb.agg_inv
    obtain ⟨q1, q2⟩ := hQ t ty ks h2 h6 h7 g l m xs ys r w e1 e2 o1 o2 h4
    exact ⟨guard_none (by simp) (fun _ _ _ _ => q1), eqNil_ok h5 (by rintro _ (rfl | rfl) <;> rfl) q2⟩
  | flt k p =>
    cases b with
    | flt k' q =>
      obtain ⟨h1, h2⟩ := ifB_none (show ifB (fEq k k') (binF op k p q) none = some v from h)
      have := fEq_eq h1
      subst this
      rw [ha.flt_inv, hb.flt_inv]
      refine ⟨guard_none (by simp) (by simp), ?_⟩
      unfold binF at h2
      cases op <;> first
        | (cases h2; done)
        | (simp only [rb_eq] at h2
           cases h2
           refine ⟨_, ?_, .bool _⟩
           simp only [binOp, Op.floatCmp, ne_eq, not_true_eq_false, if_false, Sem.run_pure]; done)
        | (obtain ⟨r, h3, h4⟩ := bnd_inv h2
           rw [forceN_eq] at h4
           cases h4
           refine ⟨_, ?_, .flt _ _⟩
           simp only [binOp, Op.floatArith, ne_eq, not_true_eq_false, if_false, Sem.run_bind, Sem.run_pure, Result.andThen_ok, h3])
    | _ => cases h
  | cpx k p q =>
    cases b with
    | cpx k' r s =>
      obtain ⟨h1, h2⟩ := ifB_none (show ifB (fEq k k') (binC op k p q r s) none = some v from h)
      have := fEq_eq h1
      subst this
      rw [ha.cpx_inv, hb.cpx_inv]
      refine ⟨guard_none (by simp) (by simp), ?_⟩
      unfold binC at h2
      cases op <;> first
        | (cases h2; done)
        | (simp only [rb_eq] at h2
           cases h2
           refine ⟨_, ?_, .bool _⟩
           simp [binOp, Op.complexOp, Op.Complex.cmp, Op.floatCmp, Go.asBool, Sem.run_bind, Sem.run_pure, Result.andThen_ok]; done)
        | (obtain ⟨x, h3, h4⟩ := bnd_inv h2
           obtain ⟨y, h5, h6⟩ := bnd_inv h4
           rw [forceN_eq, forceN_eq] at h6
           cases h6
           refine ⟨_, ?_, .cpx _ _ _⟩
           simp [binOp, Op.complexOp, Op.Complex.arith, Op.floatArith, Sem.run_bind, Sem.run_pure, Result.andThen_ok, h3, h5]; done)
    | _ => cases h
  | opq q n =>
    cases b with
    | opq q' m =>
      obtain ⟨h1, h2⟩ := ifB_none (show ifB (Nat.beq n m) (ifB (Nat.beq q q') (ifB (Nat.beq q 1) (eqNil op true) (ifB (Nat.beq q 2) (eqNil op true) none)) none) none = some v from h)
      obtain ⟨_, h3⟩ := ifB_none h2
      rw [nbeq_eq, decide_eq_true_eq] at h1
      subst h1
      obtain ⟨oA, kA⟩ := ha.opq_inv
      obtain ⟨oB, _⟩ := hb.opq_inv
      have hAB : A = B := oA.symm.trans oB
      subst hAB
      cases hq1 : Nat.beq q 1 with
      | true =>
        rw [hq1] at h3
        rw [nbeq_eq, decide_eq_true_eq] at hq1
        obtain ⟨s, rfl⟩ := kA.1 hq1
        refine ⟨guard_none (by simp) (by simp), bin_str (l := s.data.toList.map UInt8.toNat) (m := s.data.toList.map UInt8.toNat) rfl rfl ?_ g⟩
        have h3 : eqNil op true = some v := h3
        unfold eqNil at h3
        split at h3
        · show rb (eqL _ _) = some v
          rw [eqL_eq, decide_eq_true rfl]; exact h3
        · show rb (not (eqL _ _)) = some v
          rw [eqL_eq, decide_eq_true rfl]; exact h3
        · cases h3
      | false =>
        rw [hq1] at h3
        obtain ⟨hq2, h4⟩ := ifB_none (show ifB (Nat.beq q 2) (eqNil op true) none = some v from h3)
        rw [nbeq_eq, decide_eq_true_eq] at hq2
        obtain ⟨i, rfl⟩ := kA.2.1 hq2
        refine ⟨guard_none (by simp) (by simp), bin_int (.inl rfl) ?_ g⟩
        unfold eqNil at h4
        split at h4
        · show rb (eqI _ _) = some v
          rw [eqI_eq, decide_eq_true rfl]; exact h4
        · show rb (not (eqI _ _)) = some v
          rw [eqI_eq, decide_eq_true rfl]; exact h4
        · cases h4
    | int k z =>
      obtain ⟨h1, h2⟩ := ifB_none (show ifB (kEq k .i64) (cmpO q op z) none = some v from h)
      have := kEq_eq h1
      subst this
      obtain ⟨oA, kA⟩ := ha.opq_inv
      cases z with
      | negSucc z => cases h2
      | ofNat z =>
        obtain ⟨h3, h4⟩ := ifB_none' (show ifB (Nat.ble q 2) none (ifB (Nat.beq (Nat.mod q 2) 1) (ifB (Nat.ble (Nat.div (Nat.sub q 3) 2) z) (ordV true op) (ifB (Nat.beq (Nat.div (Nat.sub q 3) 2) (Nat.add z 1)) (ordE op) none)) (ifB (Nat.blt z (Nat.div (Nat.sub q 4) 2)) (ordV false op) (ifB (Nat.beq z (Nat.div (Nat.sub q 4) 2)) (ordG op) none))) = some v from h2)
        rw [nble_eq, decide_eq_false_iff_not] at h3
        obtain ⟨i, rfl, hi⟩ := kA.2.2 (by omega)
        rw [hb.int_inv]
        refine ⟨guard_none (by simp) (by simp), bin_int (.inl rfl) ?_ g⟩
        have key : ∀ less : Bool, (if less = true then i < (z : Int) else (z : Int) < i) → ordV less op = some v → binI op .i64 i (.ofNat z) = some v := by
          intro less hl hv
          cases less <;> cases op <;> first
            | (cases hv; done)
            | (simp only [ordV, rb_eq, Bool.not_true, Bool.not_false] at hv
               simp only [if_true, Bool.false_eq_true, if_false] at hl
               cases hv
               first
                 | (show rb (eqI _ _) = _; rw [eqI_eq, rb_eq, decide_eq_false (by simp only [Int.ofNat_eq_natCast]; omega)]; done)
                 | (show rb (not (eqI _ _)) = _; rw [eqI_eq, rb_eq, decide_eq_false (by simp only [Int.ofNat_eq_natCast]; omega)]; rfl; done)
                 | (show rb (ltI _ _) = _; rw [ltI_eq, rb_eq, decide_eq_true (by simp only [Int.ofNat_eq_natCast]; omega)]; done)
                 | (show rb (ltI _ _) = _; rw [ltI_eq, rb_eq, decide_eq_false (by simp only [Int.ofNat_eq_natCast]; omega)]; done)
                 | (show rb (not (ltI _ _)) = _; rw [ltI_eq, rb_eq, decide_eq_true (by simp only [Int.ofNat_eq_natCast]; omega)]; rfl; done)
                 | (show rb (not (ltI _ _)) = _; rw [ltI_eq, rb_eq, decide_eq_false (by simp only [Int.ofNat_eq_natCast]; omega)]; rfl; done))
        cases hq : Nat.beq (Nat.mod q 2) 1 with
        | true =>
          rw [hq] at h4
          have h4 : ifB (Nat.ble (Nat.div (Nat.sub q 3) 2) z) (ordV true op) (ifB (Nat.beq (Nat.div (Nat.sub q 3) 2) (Nat.add z 1)) (ordE op) none) = some v := h4
          rw [nbeq_eq, decide_eq_true_eq] at hq
          have hq : q % 2 = 1 := hq
          rw [if_pos hq] at hi
          cases h5 : Nat.ble (Nat.div (Nat.sub q 3) 2) z with
          | true =>
            rw [h5] at h4
            rw [nble_eq, decide_eq_true_eq] at h5
            have h5 : (q - 3) / 2 ≤ z := h5
            exact key true (by rw [if_pos rfl]; omega) h4
          | false =>
            rw [h5] at h4
            obtain ⟨h6, h7⟩ := ifB_none (show ifB (Nat.beq (Nat.div (Nat.sub q 3) 2) (Nat.add z 1)) (ordE op) none = some v from h4)
            rw [nbeq_eq, decide_eq_true_eq] at h6
            have h6 : (q - 3) / 2 = z + 1 := h6
            cases op <;> first
              | (cases h7; done)
              | (simp only [ordE, rb_eq] at h7
                 cases h7
                 first
                   | (show rb (ltI _ _) = _; rw [ltI_eq, rb_eq, decide_eq_false (by simp only [Int.ofNat_eq_natCast]; omega)]; done)
                   | (show rb (not (ltI _ _)) = _; rw [ltI_eq, rb_eq, decide_eq_false (by simp only [Int.ofNat_eq_natCast]; omega)]; rfl; done))
        | false =>
          rw [hq] at h4
          have h4 : ifB (Nat.blt z (Nat.div (Nat.sub q 4) 2)) (ordV false op) (ifB (Nat.beq z (Nat.div (Nat.sub q 4) 2)) (ordG op) none) = some v := h4
          rw [nbeq_eq, decide_eq_false_iff_not] at hq
          have hq : ¬ q % 2 = 1 := hq
          rw [if_neg hq] at hi
          cases h5 : Nat.blt z (Nat.div (Nat.sub q 4) 2) with
          | true =>
            rw [h5] at h4
            rw [nblt_eq, decide_eq_true_eq] at h5
            have h5 : z < (q - 4) / 2 := h5
            exact key false (by rw [if_neg (by simp)]; omega) h4
          | false =>
            rw [h5] at h4
            obtain ⟨h6, h7⟩ := ifB_none (show ifB (Nat.beq z (Nat.div (Nat.sub q 4) 2)) (ordG op) none = some v from h4)
            rw [nbeq_eq, decide_eq_true_eq] at h6
            have h6 : z = (q - 4) / 2 := h6
            cases op <;> first
              | (cases h7; done)
              | (simp only [ordG, rb_eq] at h7
                 cases h7
                 first
                   | (show rb (ltI _ _) = _; rw [ltI_eq, rb_eq, decide_eq_false (by simp only [Int.ofNat_eq_natCast]; omega)]; done)
                   | (show rb (not (ltI _ _)) = _; rw [ltI_eq, rb_eq, decide_eq_false (by simp only [Int.ofNat_eq_natCast]; omega)]; rfl; done))
    | _ => cases h
  | _ => cases h
end
end Go.E
end

section
/- E: operations on values alone. No condition. -/
namespace Go.E
open Go Go.RowKit

section
variable {P : Program} {cx : Ctx} {n0 : Nat} {g : Gh} {h : Hp} {w : World} {mk : Nat} {e : Env} {a : Act} {F : Fence} {o : Oper} {call : CallK} {R : Type} {y : R} {k : RV → Hp → Option R}

theorem bin_does (hT : TOk P cx.Γ) (hQ : QOk P cx.Γ) (H : HR cx g h w n0) (he : ER g mk e a.tmps) (hd : DR g h.df a.defers) {op : BinOp} {t : TypeId} {x z : Operand} {s : TypeId} (hop : o.op = .binOp op t x z s) (hk : oBin op t x z cx mk call e h k = some y) :
    DoesP g w h y k (fun k' => oBin op t x z cx mk call e h k') ((execOp a.eval o).run P w) := by
  refine does_pure (X := bnd (ev cx mk x e) fun u => bnd (ev cx mk z e) fun v => binV u cx.Γ t (isConst z) op v) (fun k' => ?_) hk fun v hv => ?_
  · unfold oBin
    cases ev cx mk x e with
    | none => rfl
    | some u => cases ev cx mk z e with
      | none => rfl
      | some u' => rfl
  · obtain ⟨u, h1, h2⟩ := bnd_inv hv
    obtain ⟨u', h3, h4⟩ := bnd_inv h2
    obtain ⟨b1, V, b2, b3⟩ := bin_ok (w := w) (x := x) hT hQ (ev_ok H he h1) (ev_ok H he h3) h4
    refine ⟨V, ?_, b3⟩
    unfold execOp
    rw [hop]
    simp only [Sem.run_bind, b1, b2, Result.andThen_ok, Sem.run_pure]
theorem un_does (H : HR cx g h w n0) (he : ER g mk e a.tmps) (hd : DR g h.df a.defers) {op : UnOp} {t : TypeId} {x : Operand} (hop : o.op = .unOp op t x) (hk : oUn op x cx mk call e h k = some y) :
    DoesP g w h y k (fun k' => oUn op x cx mk call e h k') ((execOp a.eval o).run P w) := by
  refine does_pure (X := bnd (ev cx mk x e) fun u => unV op u) (fun k' => ?_) hk fun v hv => ?_
  · unfold oUn
    cases ev cx mk x e with
    | none => rfl
    | some u => rfl
  · obtain ⟨u, h1, h2⟩ := bnd_inv hv
    have hu := ev_ok H he h1
    unfold unV at h2
    cases op with
    | not => cases u with
      | bool b =>
        simp only [rb_eq] at h2
        cases h2
        refine ⟨_, ?_, .bool _⟩
        unfold execOp
        rw [hop]
        simp only [hu.bool_inv, Op.unary, Sem.run_bind, Result.andThen_ok, Sem.run_pure]
      | _ => cases h2
    | neg => cases u with
      | int kk n =>
        simp only [ri_eq, wrapI_eq] at h2
        cases h2
        refine ⟨_, ?_, .int _ _⟩
        unfold execOp
        rw [hop]
        simp only [hu.int_inv, Op.unary, Op.intArith, Sem.run_bind, Result.andThen_ok, Sem.run_pure]
        rfl
      | _ => cases h2
    | _ => cases h2
theorem fldK_inv {β : Type} {Γ : Tys} {t : TypeId} {i : Nat} {k : Nat → TypeId → Option β} {y : β} (hT : TOk P Γ) (h : fldK Γ t i k = some y) : ∃ (gs : Array Field) (f : Field), P.underlying t = some (.struct gs) ∧ gs[i]? = some f ∧ k f.offset f.type = some y := by
  obtain ⟨ty, h1, h2⟩ := bnd_inv h
  cases hk : ty.k with
  | st fs =>
    rw [hk] at h2
    obtain ⟨f, h3, h4⟩ := bnd_inv h2
    obtain ⟨gs, h5, h6⟩ := ty_st hT h1 hk
    obtain ⟨o, u⟩ := f
    rw [at_eq, ← h6, List.getElem?_map] at h3
    cases hg : gs.toList[i]? with
    | none => rw [hg] at h3; cases h3
    | some f =>
      rw [hg] at h3
      cases h3
      rw [Array.getElem?_toList] at hg
      exact ⟨gs, f, h5, hg, h4⟩
  | _ => rw [hk] at h2; cases h2
theorem sizeT_inv {Γ : Tys} {t : TypeId} {s : Nat} (hT : TOk P Γ) (h : sizeT Γ t = some s) : ∃ i, P.info? t = some i ∧ i.size = s := by
  obtain ⟨ty, h1, h2⟩ := bnd_inv h
  cases h2
  obtain ⟨i, i1, i2, _⟩ := size_inv hT h1
  exact ⟨i, i1, i2⟩
theorem run_sizeT {Γ : Tys} {t : TypeId} {s : Nat} (hT : TOk P Γ) (h : sizeT Γ t = some s) : (sizeOf t).run P w = .ok s w := by
  obtain ⟨i, i1, i2⟩ := sizeT_inv hT h
  rw [run_sizeOf i1, i2]
theorem run_size {Γ : Tys} {t : TypeId} {ty : ETy} (hT : TOk P Γ) (h : Γ.ty t = some ty) : (sizeOf t).run P w = .ok ty.size w := by
  obtain ⟨i, i1, i2, _⟩ := size_inv hT h
  rw [run_sizeOf i1, i2]
theorem elemK_inv {β : Type} {Γ : Tys} {t : TypeId} {k : TypeId → ETy → Option β} {y : β} (hT : TOk P Γ) (h : elemK Γ t k = some y) : ∃ el te, P.underlying t = some (.slice el) ∧ Γ.ty el = some te ∧ k el te = some y := by
  obtain ⟨ty, h1, h2⟩ := bnd_inv h
  cases hk : ty.k with
  | sl el =>
    rw [hk] at h2
    obtain ⟨te, h3, h4⟩ := bnd_inv h2
    exact ⟨el, te, ty_sl hT h1 hk, h3, h4⟩
  | _ => rw [hk] at h2; cases h2
theorem arrK_inv {β : Type} {Γ : Tys} {t : TypeId} {k : Nat → ETy → Option β} {y : β} (hT : TOk P Γ) (h : arrK Γ t k = some y) : ∃ n el te, P.underlying t = some (.array n el) ∧ Γ.ty el = some te ∧ k n te = some y := by
  obtain ⟨ty, h1, h2⟩ := bnd_inv h
  cases hk : ty.k with
  | ar n el =>
    rw [hk] at h2
    obtain ⟨te, h3, h4⟩ := bnd_inv h2
    exact ⟨n, el, te, ty_ar hT h1 hk, h3, h4⟩
  | _ => rw [hk] at h2; cases h2
theorem bnd_assoc {α β γ : Type} (x : Option α) (f : α → Option β) (k : β → Option γ) : bnd (bnd x f) k = bnd x fun a => bnd (f a) k := by cases x <;> rfl
theorem ifB_bnd {α β : Type} (c : Bool) (a b : Option α) (k : α → Option β) : bnd (ifB c a b) k = ifB c (bnd a k) (bnd b k) := by cases c <;> rfl
theorem fldK_bnd {α β : Type} {Γ : Tys} {t : TypeId} {i : Nat} {K : Nat → TypeId → Option α} {f : α → Option β} : fldK Γ t i (fun o u => bnd (K o u) f) = bnd (fldK Γ t i K) f := by
  unfold fldK
  cases Γ.ty t with
  | none => rfl
  | some ty =>
    obtain ⟨kk, s, b⟩ := ty
    cases kk with
    | st fs =>
      show bnd (at_ fs i) _ = bnd (bnd (at_ fs i) _) f
      rw [bnd_assoc]
    | _ => rfl
theorem part_ok {Γ : Tys} (hT : TOk P Γ) {t : TypeId} {ty : ETy} (ht : Γ.ty t = some ty) {cs : List RV} {CS : Array Value} {off : Nat} {v : RV} (hcs : VRs g cs CS.toList) (h1 : ∀ v ∈ cs, v.one = true) (hv : partV ty cs off = some v) :
    ∃ V, (part t CS off).run P w = .ok V w ∧ VR g v V := by
  obtain ⟨i, d, i1, i2, _, i4, i5, _⟩ := (hT t ty ht).ex
  unfold partV at hv
  cases hk : isAggK ty.k with
  | true =>
    rw [hk] at hv
    obtain ⟨l, h3, h4⟩ := bnd_inv hv
    cases h4
    rw [dropL_eq] at h3
    obtain ⟨h5, rfl⟩ := takeS_ok h3
    refine ⟨.agg (CS.extract off (off + ty.size)), ?_, .agg ?_ fun v hv => h1 v (List.mem_of_mem_drop (List.mem_of_mem_take hv))⟩
    · unfold part
      simp only [Sem.run_bind, run_isAgg i4 i5, hk, Result.andThen_ok, if_true, run_sizeOf i1, i2, Sem.run_pure]
    · rw [Array.toList_extract, List.extract_eq_take_drop, Nat.add_sub_cancel_left]
      exact (hcs.drop off).take ty.size
  | false =>
    rw [hk] at hv
    have hv : at_ cs off = some v := hv
    rw [at_eq] at hv
    obtain ⟨V, h3, h4⟩ := hcs.at hv
    rw [Array.getElem?_toList] at h3
    refine ⟨V, ?_, h4⟩
    unfold part
    simp only [Sem.run_bind, run_isAgg i4 i5, hk, Result.andThen_ok, Bool.false_eq_true, if_false, h3, Sem.run_pure]
theorem field_does (hT : TOk P cx.Γ) (H : HR cx g h w n0) (he : ER g mk e a.tmps) (hd : DR g h.df a.defers) {t : TypeId} {x : Operand} {i : Nat} (hop : o.op = .field t x i) (hk : oField t x i cx mk call e h k = some y) :
    DoesP g w h y k (fun k' => oField t x i cx mk call e h k') ((execOp a.eval o).run P w) := by
  refine does_pure (X := bnd (ev cx mk x e) fun v => Go.E.asAgg v fun cs => fldK cx.Γ t i fun o t => bnd (cx.Γ.ty t) fun tf => partV tf cs o) (fun k' => ?_) hk fun v hv => ?_
  · unfold oField
    cases ev cx mk x e with
    | none => rfl
    | some c => cases c with
      | agg cs =>
        refine Eq.trans ?_ (fldK_bnd (K := fun o t => bnd (cx.Γ.ty t) fun tf => partV tf cs o) (f := fun v => k' v h))
        show fldK cx.Γ t i (fun o t => bnd (cx.Γ.ty t) fun tf => bnd (partV tf cs o) fun v => k' v h) = _
        congr 1
        funext o u
        rw [bnd_assoc]
      | _ => rfl
  · obtain ⟨u, h1, h2⟩ := bnd_inv hv
    obtain ⟨cs, rfl, h3⟩ := asAgg_inv h2
    obtain ⟨gs, f, f1, f2, f3⟩ := fldK_inv hT h3
    obtain ⟨tf, h4, h5⟩ := bnd_inv f3
    obtain ⟨CS, e1, e2, e3⟩ := (ev_ok H he h1).agg_inv
    obtain ⟨V, p1, p2⟩ := part_ok (w := w) hT h4 e2 e3 h5
    refine ⟨V, ?_, p2⟩
    unfold execOp
    rw [hop]
    simp only [e1, Instr.field, Sem.run_bind, run_underlying f1, Result.andThen_ok, f2, Go.asAgg, Sem.run_pure, p1]
theorem fieldAddr_does (hT : TOk P cx.Γ) (H : HR cx g h w n0) (he : ER g mk e a.tmps) (hd : DR g h.df a.defers) {t : TypeId} {x : Operand} {i : Nat} (hop : o.op = .fieldAddr t x i) (hk : oFieldAddr t x i cx mk call e h k = some y) :
    DoesP g w h y k (fun k' => oFieldAddr t x i cx mk call e h k') ((execOp a.eval o).run P w) := by
  refine does_pure (X := bnd (ev cx mk x e) fun v => asPtr v fun b off => fldK cx.Γ t i fun o u => bnd (sizeT cx.Γ u) fun s => ifB (Nat.beq s 0) none (some (.ptr b (Nat.add off o)))) (fun k' => ?_) hk fun v hv => ?_
  · unfold oFieldAddr
    cases ev cx mk x e with
    | none => rfl
    | some c => cases c with
      | ptr b off =>
        refine Eq.trans ?_ (fldK_bnd (K := fun o u => bnd (sizeT cx.Γ u) fun s => ifB (Nat.beq s 0) none (some (.ptr b (Nat.add off o)))) (f := fun v => k' v h))
        show fldK cx.Γ t i (fun o u => bnd (sizeT cx.Γ u) fun s => ifB (s.beq 0) none (forceN (off.add o) fun o => k' (RV.ptr b o) h)) = _
        congr 1
        funext o u
        rw [bnd_assoc]
        congr 1
        funext s
        rw [forceN_eq]
        cases Nat.beq s 0 <;> rfl
      | _ => rfl
  · obtain ⟨u, h1, h2⟩ := bnd_inv hv
    obtain ⟨b, off, rfl, h3⟩ := asPtr_inv h2
    obtain ⟨gs, f, f1, f2, f3⟩ := fldK_inv hT h3
    obtain ⟨s, h4, h5⟩ := bnd_inv f3
    obtain ⟨h6, h7⟩ := ifB_none' h5
    cases h7
    obtain ⟨B, o', m, e1⟩ := (ev_ok H he h1).ptr_inv
    rw [nbeq_eq, decide_eq_false_iff_not] at h6
    refine ⟨.pointer (some ⟨B, o' + (off + f.offset), none⟩), ?_, .ptr _ m⟩
    unfold execOp
    rw [hop]
    simp only [e1, Instr.fieldAt, Instr.sureAddr, fieldPlace, Sem.run_bind, run_underlying f1, Result.andThen_ok, f2, Sem.run_pure, run_sizeT hT h4, if_neg h6, addr_add, Nat.add_assoc]
theorem indexAddr_does (hT : TOk P cx.Γ) (H : HR cx g h w n0) (he : ER g mk e a.tmps) (hd : DR g h.df a.defers) {t : TypeId} {x i : Operand} (hop : o.op = .indexAddr t x i) (hk : oIndexAddr t x i cx mk call e h k = some y) :
    DoesP g w h y k (fun k' => oIndexAddr t x i cx mk call e h k') ((execOp a.eval o).run P w) := by
  refine does_pure (X := bnd (ev cx mk x e) fun v => bnd (ev cx mk i e) fun i => indexA cx.Γ t v i) (fun k' => ?_) hk fun v hv => ?_
  · unfold oIndexAddr
    cases ev cx mk x e with
    | none => rfl
    | some c => cases ev cx mk i e <;> rfl
  · obtain ⟨u, h1, h2⟩ := bnd_inv hv
    obtain ⟨j, h3, h4⟩ := bnd_inv h2
    have hu := ev_ok H he h1
    have hj := ev_ok H he h3
    unfold indexA at h4
    split at h4
    · rename_i kk n
      have hj := hj.int_inv
      split at h4
      · rename_i b off len cap tt
        obtain ⟨h5, h6⟩ := ifB_none h4
        obtain ⟨el, te, u1, u2, u3⟩ := elemK_inv hT h6
        rw [forceN_eq] at u3
        cases u3
        obtain ⟨B, o', CAP, m, e1, _⟩ := hu.sl_inv
        rw [nblt_eq, decide_eq_true_eq] at h5
        refine ⟨.pointer (some ⟨B, o' + (off + n * te.size), none⟩), ?_, .ptr _ m⟩
        unfold execOp
        rw [hop]
        simp only [e1, hj, Instr.indexAt, asIntOf, Sem.run_bind, run_underlying u1, Result.andThen_ok, Sem.run_pure]
        rw [if_pos (by simp; omega)]
        simp only [Sem.run_bind, run_size hT u2, Result.andThen_ok, Sem.run_pure, addr_add, Int.ofNat_eq_natCast, Int.toNat_natCast, Nat.add_assoc]
      · rename_i b off
        obtain ⟨n', el, te, u1, u2, u3⟩ := arrK_inv hT h4
        obtain ⟨h5, h6⟩ := ifB_none u3
        rw [forceN_eq] at h6
        cases h6
        obtain ⟨B, o', m, e1⟩ := hu.ptr_inv
        rw [nblt_eq, decide_eq_true_eq] at h5
        refine ⟨.pointer (some ⟨B, o' + (off + n * te.size), none⟩), ?_, .ptr _ m⟩
        unfold execOp
        rw [hop]
        simp only [e1, hj, Instr.indexAt, asIntOf, Instr.sureAddr, Sem.run_bind, run_underlying u1, Result.andThen_ok, Sem.run_pure]
        rw [if_pos (by simp; omega)]
        simp only [Sem.run_bind, run_size hT u2, Result.andThen_ok, Sem.run_pure, addr_add, Int.ofNat_eq_natCast, Int.toNat_natCast, Nat.add_assoc]
      · cases h4
    · cases h4
theorem index_does (hT : TOk P cx.Γ) (H : HR cx g h w n0) (he : ER g mk e a.tmps) (hd : DR g h.df a.defers) {t : TypeId} {x i : Operand} (hop : o.op = .index t x i) (hk : oIndex t x i cx mk call e h k = some y) :
    DoesP g w h y k (fun k' => oIndex t x i cx mk call e h k') ((execOp a.eval o).run P w) := by
  refine does_pure (X := bnd (ev cx mk x e) fun v => bnd (ev cx mk i e) fun i => indexV cx.Γ t v i) (fun k' => ?_) hk fun v hv => ?_
  · unfold oIndex
    cases ev cx mk x e with
    | none => rfl
    | some c => cases ev cx mk i e <;> rfl
  · obtain ⟨u, h1, h2⟩ := bnd_inv hv
    obtain ⟨j, h3, h4⟩ := bnd_inv h2
    have hu := ev_ok H he h1
    have hj := ev_ok H he h3
    unfold indexV at h4
    split at h4
    · rename_i kk n
      have hj := hj.int_inv
      split at h4
      · rename_i l
        obtain ⟨ty, h5, h6⟩ := bnd_inv h4
        split at h6
        · rename_i hkk
          obtain ⟨c, h7, h8⟩ := bnd_inv h6
          cases h8
          obtain ⟨s, e1, e2⟩ := hu.str_inv
          have u1 := ty_str hT h5 hkk
          rw [at_eq, ← e2, List.getElem?_map] at h7
          obtain ⟨b, h9, h10⟩ := Option.map_eq_some_iff.1 h7
          rw [Array.getElem?_toList] at h9
          have hlt := (Array.getElem?_eq_some_iff.1 h9).1
          have h11 : s[n]? = some b := by
            have : n < s.size := hlt
            rw [getElem?_pos s n this]
            exact congrArg some (Array.getElem?_eq_some_iff.1 h9).2
          refine ⟨.int .u8 b.toNat, ?_, ?_⟩
          · unfold execOp
            rw [hop]
            simp only [e1, hj, Instr.index, asIntOf, Sem.run_bind, run_underlying u1, Result.andThen_ok, Sem.run_pure]
            rw [if_pos (by simp)]
            simp only [Int.ofNat_eq_natCast, Int.toNat_natCast, h11, Sem.run_pure, Result.andThen_ok]
          · rw [← h10]; exact .int _ _
        · cases h6
      · rename_i cs
        obtain ⟨n', el, te, u1, u2, u3⟩ := arrK_inv hT h4
        obtain ⟨h5, h6⟩ := ifB_none u3
        rw [nblt_eq, decide_eq_true_eq] at h5
        obtain ⟨CS, e1, e2, e3⟩ := hu.agg_inv
        obtain ⟨V, p1, p2⟩ := part_ok (w := w) hT u2 e2 e3 h6
        refine ⟨V, ?_, p2⟩
        unfold execOp
        rw [hop]
        simp only [e1, hj, Instr.index, asIntOf, Sem.run_bind, run_underlying u1, Result.andThen_ok, Sem.run_pure]
        rw [if_pos (by simp; omega)]
        simp only [Sem.run_bind, run_size hT u2, Result.andThen_ok, Int.ofNat_eq_natCast, Int.toNat_natCast]
        have p1 : (part el CS (n * te.size)).run P w = .ok V w := p1
        rw [p1]; rfl
      · cases h4
    · cases h4
end
end Go.E
end

section
/- E: slices of slices, entries, parts. No condition. -/
namespace Go.E
open Go Go.RowKit

/-- An operand that may be missing. -/
inductive VO (g : Gh) : Option RV → Option Value → Prop
  | none : VO g none none
  | some {v : RV} {V : Value} (h : VR g v V) : VO g (some v) (some V)
section
variable {P : Program} {cx : Ctx} {n0 : Nat} {g : Gh} {h : Hp} {w : World} {mk : Nat} {e : Env} {a : Act} {F : Fence} {o : Oper} {call : CallK} {R : Type} {y : R} {k : RV → Hp → Option R}

theorem evO_ok (H : HR cx g h w n0) (he : ER g mk e a.tmps) {x : Option Operand} {v : Option RV} (hv : evO cx mk e x = some v) : VO g v (x.map a.eval) := by
  cases x with
  | none => cases hv; exact .none
  | some x =>
    obtain ⟨u, h1, h2⟩ := bnd_inv hv
    cases h2
    exact .some (ev_ok H he h1)
theorem bound_ok {v : RV} {V : Value} {d n y : Nat} {c : BoundsCode} (hV : VR g v V) (hn : natOf (some v) d = some n) (hle : n ≤ y) : (Instr.sliceBound V y c).run P w = .ok n w := by
  rcases natOf_inv hn with ⟨h, _⟩ | ⟨k, h⟩
  · cases h
  · cases h
    rw [hV.int_inv]
    simp only [Instr.sliceBound, asIntOf, Sem.run_bind, Sem.run_pure, Result.andThen_ok]
    rw [if_pos (by simp; omega)]
    simp
theorem bounds_ok {lo hi mx : Option RV} {LO HI MX : Option Value} (hlo : VO g lo LO) (hhi : VO g hi HI) (hmx : VO g mx MX) {isS : Bool} {len cap x y m : Nat} (h1 : natOf lo 0 = some x) (h2 : natHi hi mx len = some y)
    (h3 : natOf mx cap = some m) (hxy : x ≤ y) (hym : y ≤ m) (hm : m ≤ cap) : (Instr.sliceBounds isS len cap LO HI MX).run P w = .ok (x, y, m) w := by
  unfold Instr.sliceBounds
  cases hmx with
  | none =>
    cases h3
    cases hhi with
    | none =>
      cases h2
      cases hlo with
      | none => cases h1; simp only [Sem.run_bind, Sem.run_pure, Result.andThen_ok]
      | some hl => simp only [Sem.run_bind, Sem.run_pure, Result.andThen_ok, bound_ok hl h1 hxy]
    | some hh =>
      cases hlo with
      | none => cases h1; simp only [Sem.run_bind, Sem.run_pure, Result.andThen_ok, bound_ok hh h2 hym]
      | some hl => simp only [Sem.run_bind, Sem.run_pure, Result.andThen_ok, bound_ok hh h2 hym, bound_ok hl h1 hxy]
  | some hx =>
    cases hhi with
    | none => cases h2
    | some hh =>
      cases hlo with
      | none => cases h1; simp only [Sem.run_bind, Sem.run_pure, Result.andThen_ok, bound_ok hx h3 hm, bound_ok hh h2 hym]
      | some hl => simp only [Sem.run_bind, Sem.run_pure, Result.andThen_ok, bound_ok hx h3 hm, bound_ok hh h2 hym, bound_ok hl h1 hxy]
theorem cutSl_inv {b : Ps} {off cap s x y z : Nat} {t : Bool} {v : RV} (h : cutSl b off cap s x y z t = some v) : x ≤ y ∧ y ≤ z ∧ z ≤ cap ∧ x ≠ z ∧ v = .sl b (off + x * s) (y - x) (z - x) t := by
  unfold cutSl at h
  obtain ⟨h1, h⟩ := ifB_none h
  obtain ⟨h2, h⟩ := ifB_none h
  obtain ⟨h3, h⟩ := ifB_none h
  obtain ⟨h4, h⟩ := ifB_none' h
  simp only [forceN_eq] at h
  cases h
  rw [nble_eq, decide_eq_true_eq] at h1 h2 h3
  rw [nbeq_eq, decide_eq_false_iff_not] at h4
  exact ⟨h1, h2, h3, h4, rfl⟩
theorem cutEnd_inv {x y z cap : Nat} {t : Bool} {v : RV} (h : cutEnd x y z cap t = some v) : x = z ∧ x = y ∧ z ≤ cap ∧ v = .emp t := by
  unfold cutEnd at h
  obtain ⟨h1, h⟩ := ifB_none h
  obtain ⟨h2, h⟩ := ifB_none h
  obtain ⟨h3, h⟩ := ifB_none h
  cases h
  rw [nble_eq, decide_eq_true_eq] at h3
  rw [nbeq_eq, decide_eq_true_eq] at h1 h2
  exact ⟨h1, h2, h3, rfl⟩
theorem cut_le {b : Ps} {off cap s x y z : Nat} {t : Bool} {v : RV} (h : orElse (cutSl b off cap s x y z t) (cutEnd x y z cap t) = some v) : x ≤ y ∧ y ≤ z ∧ z ≤ cap := by
  rcases orElse_or h with h | h
  · obtain ⟨h1, h2, h3, _⟩ := cutSl_inv h; exact ⟨h1, h2, h3⟩
  · obtain ⟨h1, h2, h3, _⟩ := cutEnd_inv h; omega
theorem natOf_none {d n : Nat} (h : natOf none d = some n) : n = d := by cases h; rfl
theorem slice_ok (hT : TOk P cx.Γ) {t : TypeId} {x v : RV} {X : Value} (hx : VR g x X) {lo hi mx : Option RV} {LO HI MX : Option Value} (hlo : VO g lo LO) (hhi : VO g hi HI) (hmx : VO g mx MX) (hv : sliceV cx.Γ t x lo hi mx = some v) :
    ∃ V, (Instr.sliceAt t X LO HI MX).run P w = .ok V w ∧ VR g v V := by
  unfold sliceV at hv
  split at hv
  · rename_i l
    split at hv
    · cases hmx
      obtain ⟨ty, h1, h2⟩ := bnd_inv hv
      split at h2
      · rename_i hk
        rw [forceN_eq] at h2
        obtain ⟨p, h3, h2⟩ := bnd_inv h2
        obtain ⟨q, h4, h2⟩ := bnd_inv h2
        obtain ⟨h5, h2⟩ := ifB_none h2
        obtain ⟨h6, h2⟩ := ifB_none h2
        obtain ⟨r, h7, h8⟩ := bnd_inv h2
        cases h8
        rw [dropL_eq] at h7
        obtain ⟨h9, rfl⟩ := takeS_ok h7
        rw [nble_eq, decide_eq_true_eq] at h5 h6
        rw [lenL_zero] at h6 h4
        obtain ⟨s, rfl, e1⟩ := hx.str_inv
        have u1 := ty_str hT h1 hk
        have hs := size_of_bytes e1
        have hb := bounds_ok (P := P) (w := w) (isS := false) (len := s.size) (cap := s.size) hlo hhi .none h3 (show natHi hi none s.size = some q by rw [hs]; cases hi <;> exact h4) (show natOf none s.size = some s.size from rfl) h5 (by omega) (Nat.le_refl _)
        refine ⟨.string (s.extract p q), ?_, .str _ _ ?_⟩
        · simp only [Instr.sliceAt, Instr.slice, Sem.run_bind, run_underlying u1, Result.andThen_ok, hb, Sem.run_pure, Option.isSome_none, Bool.false_eq_true, if_false]
        · rw [ByteArray.data_extract, Array.toList_extract, List.extract_eq_take_drop, List.map_take, List.map_drop, e1]; rfl
      · cases h2
    · cases hv
  · obtain ⟨p, h3, h2⟩ := bnd_inv hv
    obtain ⟨q, h4, h2⟩ := bnd_inv h2
    obtain ⟨r, h5, h2⟩ := bnd_inv h2
    obtain ⟨h6, h2⟩ := ifB_none h2
    obtain ⟨el, te, u1, u2, u3⟩ := elemK_inv hT h2
    cases u3
    rw [nbeq_eq, decide_eq_true_eq] at h6
    have h6 : p + (q + r) = 0 := h6
    obtain rfl : p = 0 := by omega
    obtain rfl : q = 0 := by omega
    obtain rfl : r = 0 := by omega
    rw [hx.nils_inv]
    have hb := bounds_ok (P := P) (w := w) (isS := true) (len := 0) (cap := 0) hlo hhi hmx h3 h4 h5 (Nat.le_refl _) (Nat.le_refl _) (Nat.le_refl _)
    refine ⟨.slice none 0 0, ?_, .nils⟩
    simp only [Instr.sliceAt, Instr.slice, Sem.run_bind, run_underlying u1, Result.andThen_ok, hb, run_size hT u2, Sem.run_pure, if_true, Nat.sub_zero]
  · rename_i tt
    obtain ⟨p, h3, h2⟩ := bnd_inv hv
    obtain ⟨q, h4, h2⟩ := bnd_inv h2
    obtain ⟨r, h5, h2⟩ := bnd_inv h2
    obtain ⟨h6, h2⟩ := ifB_none h2
    obtain ⟨el, te, u1, u2, u3⟩ := elemK_inv hT h2
    rw [nbeq_eq, decide_eq_true_eq] at h6
    have h6 : p + (q + r) = 0 := h6
    obtain rfl : p = 0 := by omega
    obtain rfl : q = 0 := by omega
    obtain rfl : r = 0 := by omega
    obtain ⟨A, c, rfl, ht⟩ := hx.emp_inv
    cases hmx with
    | none =>
      cases u3
      have hb := bounds_ok (P := P) (w := w) (isS := true) (len := 0) (cap := c) hlo hhi .none h3 h4 (show natOf none c = some c from rfl) (Nat.le_refl _) (Nat.zero_le _) (Nat.le_refl _)
      refine ⟨_, ?_, .emp tt (if c = 0 then A else A.add (0 * te.size)) c ht⟩
      simp only [Instr.sliceAt, Instr.slice, Sem.run_bind, run_underlying u1, Result.andThen_ok, hb, run_size hT u2, Sem.run_pure, Nat.sub_zero]
      by_cases hc : c = 0 <;> simp [hc]
    | @some vm Vm hm =>
      cases u3
      have h5 : natOf (some vm) c = some 0 := by
        rcases natOf_inv h5 with ⟨hh, _⟩ | ⟨kk, hh⟩
        · cases hh
        · rw [hh]; rfl
      have h4 : natHi hi (some vm) 0 = some 0 := h4
      have hb := bounds_ok (P := P) (w := w) (isS := true) (len := 0) (cap := c) hlo hhi (.some hm) h3 h4 h5 (Nat.le_refl _) (Nat.zero_le _) (Nat.zero_le _)
      refine ⟨_, ?_, .emp true A 0 fun _ => rfl⟩
      simp only [Instr.sliceAt, Instr.slice, Sem.run_bind, run_underlying u1, Result.andThen_ok, hb, run_size hT u2, Sem.run_pure, Nat.sub_zero, if_true]
  · rename_i b off len cap tt
    obtain ⟨el, te, u1, u2, u3⟩ := elemK_inv hT hv
    obtain ⟨p, h3, h2⟩ := bnd_inv u3
    obtain ⟨q, h4, h2⟩ := bnd_inv h2
    obtain ⟨B, o', CAP, m, rfl, hc⟩ := hx.sl_inv
    have hcap : cap ≤ CAP := by rw [hc]; cases tt <;> simp
    cases hmx with
    | none =>
      have h2 : orElse (cutSl b off cap te.size p q cap tt) (cutEnd p q cap cap tt) = some v := h2
      obtain ⟨l1, l2, _⟩ := cut_le h2
      have hb := bounds_ok (P := P) (w := w) (isS := true) (len := len) (cap := CAP) hlo hhi .none h3 h4 (show natOf none CAP = some CAP from rfl) l1 (by omega) (Nat.le_refl _)
      rcases orElse_or h2 with h2 | h2
      · obtain ⟨_, _, _, i4, rfl⟩ := cutSl_inv h2
        refine ⟨.slice (some ⟨B, o' + (off + p * te.size), none⟩) (q - p) (CAP - p), ?_, .sl _ _ _ _ _ m ?_⟩
        · simp only [Instr.sliceAt, Instr.slice, Sem.run_bind, run_underlying u1, Result.andThen_ok, hb, run_size hT u2, Sem.run_pure]
          rw [if_neg (by omega)]
          simp only [Option.map_some, addr_add, Nat.add_assoc]
        · rw [hc]; cases tt <;> simp <;> omega
      · obtain ⟨i1, i2, _, rfl⟩ := cutEnd_inv h2
        refine ⟨.slice (some (if CAP = p then ⟨B, o' + off, none⟩ else Addr.add ⟨B, o' + off, none⟩ (p * te.size))) 0 (CAP - p), ?_, .emp _ _ _ fun ht => ?_⟩
        · simp only [Instr.sliceAt, Instr.slice, Sem.run_bind, run_underlying u1, Result.andThen_ok, hb, run_size hT u2, Sem.run_pure]
          subst i2
          by_cases hp : CAP = p <;> simp [hp]
        · rw [hc, ht]; simp; omega
    | @some vm Vm hm =>
      obtain ⟨c, h5, h2⟩ := bnd_inv (show bnd (natOf (some vm) cap) (fun c => orElse (cutSl b off cap te.size p q c true) (cutEnd p q c cap true)) = some v from h2)
      obtain ⟨l1, l2, l3⟩ := cut_le h2
      have h5 : natOf (some vm) CAP = some c := by
        rcases natOf_inv h5 with ⟨hh, _⟩ | ⟨kk, hh⟩
        · cases hh
        · rw [hh]; rfl
      have hb := bounds_ok (P := P) (w := w) (isS := true) (len := len) (cap := CAP) hlo hhi (.some hm) h3 h4 h5 l1 l2 (by omega)
      rcases orElse_or h2 with h2 | h2
      · obtain ⟨_, _, _, i4, rfl⟩ := cutSl_inv h2
        refine ⟨.slice (some ⟨B, o' + (off + p * te.size), none⟩) (q - p) (c - p), ?_, .sl _ _ _ _ _ m rfl⟩
        simp only [Instr.sliceAt, Instr.slice, Sem.run_bind, run_underlying u1, Result.andThen_ok, hb, run_size hT u2, Sem.run_pure]
        rw [if_neg (by omega)]
        simp only [Option.map_some, addr_add, Nat.add_assoc]
      · obtain ⟨i1, i2, _, rfl⟩ := cutEnd_inv h2
        subst i1 i2
        refine ⟨.slice (some ⟨B, o' + off, none⟩) 0 0, ?_, .emp _ _ _ fun _ => rfl⟩
        simp only [Instr.sliceAt, Instr.slice, Sem.run_bind, run_underlying u1, Result.andThen_ok, hb, run_size hT u2, Sem.run_pure, if_true, Nat.sub_self]
  · rename_i b off
    obtain ⟨ty, h1, h2⟩ := bnd_inv hv
    split at h2
    · rename_i n el hk
      have u1 := ty_ar hT h1 hk
      obtain ⟨s, h6, h2⟩ := bnd_inv h2
      obtain ⟨p, h3, h2⟩ := bnd_inv h2
      obtain ⟨q, h4, h2⟩ := bnd_inv h2
      obtain ⟨c, h5, h2⟩ := bnd_inv h2
      obtain ⟨l1, l2, l3⟩ := cut_le h2
      obtain ⟨B, o', m, rfl⟩ := hx.ptr_inv
      have hb := bounds_ok (P := P) (w := w) (isS := false) (len := n) (cap := n) hlo hhi hmx h3 h4 h5 l1 l2 l3
      rcases orElse_or h2 with h2 | h2
      · obtain ⟨_, _, _, i4, rfl⟩ := cutSl_inv h2
        refine ⟨.slice (some ⟨B, o' + (off + p * s), none⟩) (q - p) (c - p), ?_, .sl _ _ _ _ _ m rfl⟩
        simp only [Instr.sliceAt, Instr.sureAddr, Sem.run_bind, run_underlying u1, Result.andThen_ok, hb, run_sizeT hT h6, Sem.run_pure]
        rw [if_neg (by omega)]
        simp only [addr_add, Nat.add_assoc]
      · obtain ⟨i1, i2, _, rfl⟩ := cutEnd_inv h2
        subst i1 i2
        refine ⟨.slice (some ⟨B, o' + off, none⟩) 0 0, ?_, .emp _ _ _ fun _ => rfl⟩
        simp only [Instr.sliceAt, Instr.sureAddr, Sem.run_bind, run_underlying u1, Result.andThen_ok, hb, run_sizeT hT h6, Sem.run_pure, if_true, Nat.sub_self]
    · cases h2
  · cases hv
theorem slice_does (hT : TOk P cx.Γ) (H : HR cx g h w n0) (he : ER g mk e a.tmps) (hd : DR g h.df a.defers) {t : TypeId} {x : Operand} {lo hi mx : Option Operand} (hop : o.op = .slice t x lo hi mx) (hk : oSlice t x lo hi mx cx mk call e h k = some y) :
    DoesP g w h y k (fun k' => oSlice t x lo hi mx cx mk call e h k') ((execOp a.eval o).run P w) := by
  refine does_pure (X := bnd (ev cx mk x e) fun v => bnd (evO cx mk e lo) fun lo => bnd (evO cx mk e hi) fun hi => bnd (evO cx mk e mx) fun mx => sliceV cx.Γ t v lo hi mx) (fun k' => ?_) hk fun v hv => ?_
  · unfold oSlice
    simp only [bnd_assoc]
  · obtain ⟨u, h1, h2⟩ := bnd_inv hv
    obtain ⟨l, h3, h2⟩ := bnd_inv h2
    obtain ⟨i, h4, h2⟩ := bnd_inv h2
    obtain ⟨m, h5, h2⟩ := bnd_inv h2
    obtain ⟨V, p1, p2⟩ := slice_ok (P := P) (w := w) hT (ev_ok H he h1) (evO_ok H he h3) (evO_ok H he h4) (evO_ok H he h5) h2
    refine ⟨V, ?_, p2⟩
    unfold execOp
    rw [hop]
    simp only [Sem.run_bind, p1, Result.andThen_ok, Sem.run_pure]
end
end Go.E
end

section
/- E: values put together of parts; new blocks. No condition. -/
namespace Go.E
open Go Go.RowKit

/-! ### A new block is always there -/
theorem Tr.set1_some {α : Type} (a : α) : ∀ (p : Ps), ∃ t, Tr.set1 a p = some t
  | .h => ⟨_, rfl⟩
  | .o p => by
    obtain ⟨t, h⟩ := Tr.set1_some a p
    exact ⟨.node t none .nil, by show bnd (Tr.set1 a p) _ = _; rw [h]⟩
  | .i p => by
    obtain ⟨t, h⟩ := Tr.set1_some a p
    exact ⟨.node .nil none t, by show bnd (Tr.set1 a p) _ = _; rw [h]⟩
theorem Tr.set_some {α : Type} (a : α) : ∀ (t : Tr α) (p : Ps), ∃ t', t.set a p = some t'
  | .nil, p => Tr.set1_some a p
  | .node l v r, .h => ⟨_, rfl⟩
  | .node l v r, .o p => by
    obtain ⟨t, h⟩ := Tr.set_some a l p
    exact ⟨.node t v r, by show bnd (Tr.set l a p) _ = _; rw [h]⟩
  | .node l v r, .i p => by
    obtain ⟨t, h⟩ := Tr.set_some a r p
    exact ⟨.node l v t, by show bnd (Tr.set r a p) _ = _; rw [h]⟩
theorem Hp.new_eq (h : Hp) (o : RO) : ∃ h', (∀ {β : Type} (k : Ps → Hp → Option β), h.new o k = k h.n h') ∧ (∀ q, h'.get q = if q = h.n then some o else h.get q) ∧ h'.n = h.n.succ ∧ h'.df = h.df := by
  cases h with
  | mk t n d =>
    obtain ⟨t', ht⟩ := Tr.set_some o t n
    refine ⟨⟨t', n.succ, d⟩, fun k => ?_, fun q => Tr.set_ok ht q, rfl, rfl⟩
    show bnd (t.set o n) (fun t => bnd (succS n) fun m => k n ⟨t, m, d⟩) = _
    rw [ht, succS_eq]
theorem Hp.set_eq (h : Hp) (b : Ps) (o : RO) : ∃ h', h.set b o = some h' := by
  cases h with
  | mk t n d =>
    obtain ⟨t', ht⟩ := Tr.set_some o t b
    exact ⟨⟨t', n, d⟩, by show bnd (t.set o b) _ = _; rw [ht]⟩

section
variable {P : Program} {cx : Ctx} {n0 : Nat} {g : Gh} {h : Hp} {w : World} {mk : Nat} {e : Env} {a : Act} {F : Fence} {o : Oper} {call : CallK} {R : Type} {y : R} {k : RV → Hp → Option R}

theorem cells_ok {v : RV} {V : Value} {l : List RV} (h : VR g v V) (hl : cellsOf v = some l) : VRs g l V.cells.toList ∧ ∀ u ∈ l, u.one = true := by
  cases h with
  | agg h h1 => cases hl; exact ⟨h, h1⟩
  | tup h => cases hl
  | opq q n h hk h1 =>
    cases hl
    have hc : V.cells.toList = [V] := by
      cases V <;> first
        | rfl
        | exact absurd rfl (h1.1 _)
    rw [hc]
    exact ⟨VRs.single (.opq q n h hk h1), fun u hu => by
      cases List.mem_singleton.1 hu
      rfl⟩
  | _ =>
    cases hl
    refine ⟨VRs.single (by constructor <;> assumption), fun u hu => ?_⟩
    cases List.mem_singleton.1 hu
    rfl
/-- Parts. -/
inductive PRs (g : Gh) : List (Nat × RV) → List (Nat × Value) → Prop
  | nil : PRs g [] []
  | cons {i : Nat} {v : RV} {V : Value} {l : List (Nat × RV)} {L : List (Nat × Value)} (h : VR g v V) (hs : PRs g l L) : PRs g ((i, v) :: l) ((i, V) :: L)
theorem evParts_ok (H : HR cx g h w n0) (he : ER g mk e a.tmps) : ∀ {l : List (Nat × Operand)} {r : List (Nat × RV)}, evParts cx mk e l = some r → PRs g r (l.map fun p => (p.1, a.eval p.2))
  | [], r, hr => by cases hr; exact .nil
  | (i, x) :: l, r, hr => by
    obtain ⟨v, h1, h2⟩ := bnd_inv hr
    obtain ⟨q, h3, h4⟩ := bnd_inv h2
    cases h4
    exact .cons (ev_ok H he h1) (evParts_ok H he h3)
theorem setAll_get : ∀ (l : List Value) (n off : Nat) (cs : Array Value), off + n + l.length ≤ cs.size →
    ((l.zipIdx n).foldl (fun cs p => cs.setIfInBounds (off + p.2) p.1) cs).toList = cs.toList.take (off + n) ++ (l ++ cs.toList.drop (off + n + l.length))
  | [], n, off, cs, h => by simp
  | v :: l, n, off, cs, h => by
    simp only [List.length_cons] at h
    simp only [List.zipIdx_cons, List.foldl_cons]
    rw [setAll_get l (n + 1) off (cs.setIfInBounds (off + n) v) (by simp only [Array.size_setIfInBounds]; omega)]
    have hl : (cs.setIfInBounds (off + n) v).toList = cs.toList.set (off + n) v := by simp
    rw [hl]
    have hm : (cs.toList.take (off + n)).length = off + n := by simp; omega
    have hm2 : (cs.toList.take (off + n)).length < off + (n + 1) := by omega
    rw [List.set_eq_take_append_cons_drop, if_pos (by simp; omega)]
    rw [List.take_append, List.drop_append, hm, List.take_of_length_le (by omega), List.drop_eq_nil_of_le (as := cs.toList.take (off + n)) (i := off + (n + 1) + l.length) (by omega)]
    rw [show off + (n + 1) - (off + n) = 1 by omega, show off + (n + 1) + l.length - (off + n) = l.length + 1 by omega]
    simp only [List.take_succ_cons, List.take_zero, List.drop_succ_cons, List.drop_drop, List.nil_append, List.append_assoc, List.cons_append, List.length_cons]
    rw [show off + n + 1 + l.length = off + n + (l.length + 1) by omega]
theorem one_over {α : Type} {p : α → Prop} {l r : List α} {m n : Nat} (hl : ∀ v ∈ l, p v) (hr : ∀ v ∈ r, p v) : ∀ v ∈ l.take m ++ (r ++ l.drop n), p v := by
  intro v hv
  rcases List.mem_append.1 hv with hv | hv
  · exact hl v (List.mem_of_mem_take hv)
  · rcases List.mem_append.1 hv with hv | hv
    · exact hr v hv
    · exact hl v (List.mem_of_mem_drop hv)
theorem fill_ok {place place' : Nat → Option (Nat × Nat)} (hp : ∀ i p, place i = some p → place' i = some p) : ∀ {ps : List (Nat × RV)} {PS : List (Nat × Value)} {cs cs' : List RV} {CS : Array Value}, PRs g ps PS → VRs g cs CS.toList → (∀ v ∈ cs, v.one = true) → fillC place ps cs = some cs' →
    ∃ CS', Instr.fill place' CS PS = some CS' ∧ VRs g cs' CS'.toList ∧ (∀ v ∈ cs', v.one = true) ∧ cs'.length = cs.length
  | _, _, cs, cs', CS, .nil, hcs, h1, hf => by cases hf; exact ⟨CS, rfl, hcs, h1, rfl⟩
  | (i, v) :: r, (_, V) :: L, cs, cs', CS, .cons hv hs, hcs, h1, hf => by
    obtain ⟨q, h2, h3⟩ := bnd_inv (show bnd (place i) _ = some cs' from hf)
    obtain ⟨off, s⟩ := q
    obtain ⟨l, h4, h5⟩ := bnd_inv h3
    obtain ⟨h6, h7⟩ := ifB_none h5
    obtain ⟨cs1, h8, h9⟩ := bnd_inv h7
    obtain ⟨i1, rfl⟩ := overAt_ok h8
    obtain ⟨c1, c2⟩ := cells_ok hv h4
    rw [nbeq_eq, decide_eq_true_eq, lenL_zero] at h6
    have hsz : V.cells.size = l.length := by rw [← Array.length_toList, c1.length]
    have hcl : CS.size = cs.length := by rw [← Array.length_toList, hcs.length]
    have hset := setAll_get V.cells.toList 0 off CS (by simp only [Array.length_toList]; omega)
    have hfold : (V.cells.zipIdx.foldl (fun cs (p : Value × Nat) => cs.setIfInBounds (off + p.2) p.1) CS).toList = CS.toList.take off ++ (V.cells.toList ++ CS.toList.drop (off + l.length)) := by
      rw [← Array.foldl_toList, Array.toList_zipIdx, hset, Nat.add_zero, Array.length_toList, hsz]
    obtain ⟨CS', f1, f2, f3, f4⟩ := fill_ok hp (cs := cs.take off ++ (l ++ cs.drop (off + l.length))) (CS := V.cells.zipIdx.foldl (fun cs (p : Value × Nat) => cs.setIfInBounds (off + p.2) p.1) CS) hs (by rw [hfold]; exact ((hcs.drop _).append c1).append (hcs.take off)) (one_over h1 c2) h9
    refine ⟨CS', ?_, f2, f3, by rw [f4]; simp; omega⟩
    unfold Instr.fill
    rw [hp _ _ h2]
    simp only
    rw [if_neg (by simp; omega)]
    exact f1
theorem zero_ok (hT : TOk P cx.Γ) {t : TypeId} {z : List RV} (hz : zeroC cx.Γ t = some z) : ∃ i Z ty, P.info? t = some i ∧ i.zero = some Z ∧ VRs g z Z.cells.toList ∧ (∀ v ∈ z, v.one = true) ∧ cx.Γ.ty t = some ty ∧ z.length = ty.size ∧ i.size = ty.size ∧ i.bytes = ty.bytes ∧ isAggK ty.k = aggV Z := by
  obtain ⟨ty, h1, h2⟩ := bnd_inv (show bnd (cx.Γ.ty t) (fun ty => zeroK (zeroN cx.Γ 8) ty.k) = some z from hz)
  obtain ⟨i, d, i1, i2, i3, i4, i5, _, i6⟩ := (hT t ty h1).ex
  obtain ⟨Z, z1, z2, z3, z4⟩ := i6 z hz
  obtain ⟨z5, z6⟩ := zChk_ok g z3
  exact ⟨i, Z, ty, i1, z1, z5, z6, h1, z4, i2, i3, z2⟩
theorem run_zero {t : TypeId} {i : TypeInfo} {Z : Value} (h1 : P.info? t = some i) (h2 : i.zero = some Z) : (zeroValue t).run P w = .ok Z w := by
  simp only [zeroValue, Sem.run_bind, run_typeInfo h1, Result.andThen_ok, h2, Sem.run_pure]
theorem zeroFs_ty {Γ : Tys} {n : Nat} : ∀ {fs : List (Nat × TypeId)} {z : List RV}, zeroFs (zeroN Γ (n + 1)) fs = some z → ∀ f ∈ fs, ∃ ty, Γ.ty f.2 = some ty
  | [], _, _, f, hf => by cases hf
  | f :: r, z, hz, f', hf => by
    obtain ⟨q, h1, h2⟩ := bnd_inv hz
    obtain ⟨q2, h3, h4⟩ := bnd_inv h2
    cases hf with
    | head =>
      obtain ⟨ty, h5, _⟩ := bnd_inv (show bnd (Γ.ty f.2) (fun ty => zeroK (zeroN Γ n) ty.k) = some q from h1)
      exact ⟨ty, h5⟩
    | tail _ hf => exact zeroFs_ty h3 f' hf
theorem places_ok (hT : TOk P cx.Γ) : ∀ {gs : List Field}, (∀ f ∈ gs, ∃ ty, cx.Γ.ty f.type = some ty) → ∃ pl, gs.mapM (fun f => (P.info? f.type).map fun i => (f.offset, i.size)) = some pl ∧
    ∀ i p, fieldPl cx.Γ (gs.map fun f => (f.offset, f.type)) i = some p → pl[i]? = some p
  | [], _ => ⟨[], rfl, fun i p h => by cases h⟩
  | f :: gs, hf => by
    obtain ⟨ty, hty⟩ := hf f List.mem_cons_self
    obtain ⟨pl, h1, h2⟩ := places_ok hT (gs := gs) fun f' hf' => hf f' (List.mem_cons_of_mem _ hf')
    obtain ⟨i, i1, i2, _⟩ := size_inv hT hty
    refine ⟨(f.offset, i.size) :: pl, ?_, fun j p hj => ?_⟩
    · rw [List.mapM_cons, i1]
      simp [h1]
    · cases j with
      | zero =>
        obtain ⟨s, h5, h6⟩ := bnd_inv (show bnd (sizeT cx.Γ f.type) (fun s => some (f.offset, s)) = some p from hj)
        cases h6
        obtain ⟨ty', h7, h8⟩ := bnd_inv h5
        cases h8
        rw [hty] at h7
        cases h7
        simp [i2]
      | succ j => exact h2 j p hj
theorem build_ok (hT : TOk P cx.Γ) {t : TypeId} {ps : List (Nat × RV)} {PS : Array (Nat × Value)} {z cs : List RV} {ty : ETy} (hps : PRs g ps PS.toList) (hz : zeroC cx.Γ t = some z) (hty : cx.Γ.ty t = some ty)
    (hc : (match ty.k with | .st fs => fillC (fieldPl cx.Γ fs) ps z | .ar _ el => bnd (sizeT cx.Γ el) fun s => fillC (fun i => some (Nat.mul i s, s)) ps z | _ => none) = some cs) :
    ∃ CS, (Instr.build t PS).run P w = .ok (.agg CS) w ∧ VRs g cs CS.toList ∧ ∀ v ∈ cs, v.one = true := by
  obtain ⟨i, Z, ty', z1, z2, z3, z4, z5, _⟩ := zero_ok (P := P) (g := g) hT hz
  rw [hty] at z5
  cases z5
  split at hc
  · rename_i fs hk
    obtain ⟨gs, u1, u2⟩ := ty_st hT hty hk
    have hz' : zeroFs (zeroN cx.Γ 8) fs = some z := by
      obtain ⟨ty2, h1, h2⟩ := bnd_inv (show bnd (cx.Γ.ty t) (fun ty => zeroK (zeroN cx.Γ 8) ty.k) = some z from hz)
      rw [hty] at h1
      cases h1
      rw [hk] at h2
      exact h2
    obtain ⟨pl, p1, p2⟩ := places_ok hT (gs := gs.toList) fun f hf => zeroFs_ty hz' (f.offset, f.type) (by rw [← u2]; exact List.mem_map.2 ⟨f, hf, rfl⟩)
    rw [← u2] at hc
    obtain ⟨CS, f1, f2, f3, _⟩ := fill_ok (place' := fun i => pl.toArray[i]?) (fun i p hp => by rw [List.getElem?_toArray]; exact p2 i p hp) hps z3 z4 hc
    refine ⟨CS, run_build w t PS CS ?_, f2, f3⟩
    unfold Program.built
    rw [z1, u1]
    simp only [z2, p1]
    exact f1
  · rename_i n el hk
    have u1 := ty_ar hT hty hk
    obtain ⟨s, h1, h2⟩ := bnd_inv hc
    obtain ⟨ie, i1, i2⟩ := sizeT_inv hT h1
    obtain ⟨CS, f1, f2, f3, _⟩ := fill_ok (place' := fun i => some (i * ie.size, ie.size)) (fun i p hp => by cases hp; rw [i2]; rfl) hps z3 z4 h2
    refine ⟨CS, run_build w t PS CS ?_, f2, f3⟩
    unfold Program.built
    rw [z1, u1]
    simp only [z2, i1]
    exact f1
  · cases hc
theorem build_does (hT : TOk P cx.Γ) (H : HR cx g h w n0) (he : ER g mk e a.tmps) (hd : DR g h.df a.defers) {t : TypeId} {ps : Array (Nat × Operand)} (hop : o.op = .build t ps) (hk : oBuild t ps cx mk call e h k = some y) :
    DoesP g w h y k (fun k' => oBuild t ps cx mk call e h k') ((execOp a.eval o).run P w) := by
  refine does_pure (X := bnd (evParts cx mk e ps.toList) fun ps => bnd (zeroC cx.Γ t) fun z => bnd (cx.Γ.ty t) fun ty => bnd (match ty.k with | .st fs => fillC (fieldPl cx.Γ fs) ps z | .ar _ el => bnd (sizeT cx.Γ el) fun s => fillC (fun i => some (Nat.mul i s, s)) ps z | _ => none) fun cs => some (.agg cs)) (fun k' => ?_) hk fun v hv => ?_
  · unfold oBuild
    simp only [bnd_assoc]
    congr 1
    funext ps
    congr 1
    funext z
    congr 1
    funext ty
    obtain ⟨kk, s, b⟩ := ty
    cases kk with
    | ar n el =>
      show bnd (sizeT cx.Γ el) _ = bnd (bnd (sizeT cx.Γ el) _) _
      rw [bnd_assoc]
    | _ => rfl
  · obtain ⟨ps', h1, h2⟩ := bnd_inv hv
    obtain ⟨z, h3, h4⟩ := bnd_inv h2
    obtain ⟨ty, h5, h6⟩ := bnd_inv h4
    obtain ⟨cs, h7, h8⟩ := bnd_inv h6
    cases h8
    obtain ⟨CS, b1, b2, b3⟩ := build_ok (w := w) (PS := ps.map fun p => (p.1, a.eval p.2)) hT (by rw [Array.toList_map]; exact evParts_ok H he h1) h3 h5 h7
    refine ⟨.agg CS, ?_, .agg b2 b3⟩
    unfold execOp
    rw [hop]
    simp only [Sem.run_bind, b1, Result.andThen_ok, Sem.run_pure]

/-! ### New blocks -/
/-- A new block of cells. -/
theorem new_post (H : HR cx g h w n0) (hd : DR g h.df a.defers) (h0 : n0 ≤ w.heap.size) {cs : List RV} {CS : Array Value} (hcs : VRs g cs CS.toList) (h1 : ∀ v ∈ cs, v.one = true) {t : TypeId} {v : RV} {V : Value} {h' : Hp}
    (hget : ∀ q, h'.get q = if q = h.n then some (.cells cs t none 0 0 []) else h.get q) (hn : h'.n = h.n.succ) (hdf : h'.df = h.df) (hv : VR (g.add h.n w.heap.size 0 0) v V) : Post cx n0 g w h' v V a.defers (w.alloc (.cells CS t)) := by
  have hle : g.Le (g.add h.n w.heap.size 0 0) := Gh.add_le H.fresh
  obtain ⟨p1, p2⟩ := H.alloc (O := .cells CS t) (x := 0) hget hn ⟨w.heap.size, 0, CS, (0, 0), by simp [Gh.add], h0, by show (w.heap.push _)[w.heap.size]? = _; simp, ⟨rfl, by rw [← Array.length_toList, hcs.length]⟩, by
    rw [List.drop_zero, List.take_of_length_le (by rw [hcs.length]; exact Nat.le_refl _)]; exact hcs.mono hle, h1, Fz.zero _ _ _ _ _⟩
  exact ⟨_, p2, p1, hv, by rw [hdf]; exact hd.mono hle⟩
theorem ptr_new {B : Nat} {h : Hp} {x : Nat} : VR (g.add h.n B 0 x) (.ptr h.n 0) (.pointer (some ⟨B, 0, none⟩)) := by
  have := VR.ptr (g := g.add h.n B 0 x) (b := h.n) (B := B) (o := 0) 0 (by simp [Gh.add])
  exact this
theorem alloc_does (hT : TOk P cx.Γ) (H : HR cx g h w n0) (hd : DR g h.df a.defers) (h0 : n0 ≤ w.heap.size) {t : TypeId} (hop : o.op = .alloc t) (hk : oAlloc t cx mk call e h k = some y) :
    Does F P cx n0 g w a.defers y k (fun k' => oAlloc t cx mk call e h k') ((execOp a.eval o).run P w) := by
  obtain ⟨z, h1, h2⟩ := bnd_inv hk
  obtain ⟨h', n1, n2, n3, n4⟩ := Hp.new_eq h (.cells z t none 0 0 [])
  have hs : ∀ {R' : Type} (k' : RV → Hp → Option R'), outK (newO h z t) k' = k' (.ptr h.n 0) h' := fun k' => by
    unfold outK newO
    rw [n1]
  refine ⟨.ptr h.n 0, h', by rw [← hs k]; exact h2, fun k' => by rw [← hs k']; unfold oAlloc; rw [h1], ?_⟩
  obtain ⟨i, Z, ty, z1, z2, z3, z4, _⟩ := zero_ok (P := P) (g := g) hT h1
  have hr : (execOp a.eval o).run P w = .ok (.value (.pointer (some ⟨w.heap.size, 0, none⟩))) (w.alloc (.cells Z.cells t)) := by
    unfold execOp
    rw [hop]
    simp only [Instr.alloc, newVar, newRow, Sem.run_bind, run_zero z1 z2, Result.andThen_ok, run_newObj_alloc, Sem.run_pure]
  rw [hr]
  exact new_post H hd h0 z3 z4 n2 n3 n4 ptr_new
theorem box_does (H : HR cx g h w n0) (he : ER g mk e a.tmps) (hd : DR g h.df a.defers) (h0 : n0 ≤ w.heap.size) {t : TypeId} {x : Operand} (hop : o.op = .box t x) (hk : oBox t x cx mk call e h k = some y) :
    Does F P cx n0 g w a.defers y k (fun k' => oBox t x cx mk call e h k') ((execOp a.eval o).run P w) := by
  obtain ⟨v, h1, h2⟩ := bnd_inv hk
  obtain ⟨l, h3, h4⟩ := bnd_inv h2
  obtain ⟨h', n1, n2, n3, n4⟩ := Hp.new_eq h (.cells l t none 0 0 [])
  have hs : ∀ {R' : Type} (k' : RV → Hp → Option R'), outK (newO h l t) k' = k' (.ptr h.n 0) h' := fun k' => by
    unfold outK newO
    rw [n1]
  refine ⟨.ptr h.n 0, h', by rw [← hs k]; exact h4, fun k' => by rw [← hs k']; unfold oBox; rw [h1]; show bnd (cellsOf v) _ = _; rw [h3], ?_⟩
  obtain ⟨c1, c2⟩ := cells_ok (ev_ok H he h1) h3
  have hr : (execOp a.eval o).run P w = .ok (.value (.pointer (some ⟨w.heap.size, 0, none⟩))) (w.alloc (.cells (a.eval x).cells t)) := by
    unfold execOp
    rw [hop]
    simp only [Instr.box, newVar, newRow, Sem.run_bind, Result.andThen_ok, run_newObj_alloc, Sem.run_pure]
  rw [hr]
  exact new_post H hd h0 c1 c2 n2 n3 n4 ptr_new
theorem flat_get {α : Type} (l : List α) : ∀ (n i : Nat), (List.replicate n l).flatten[i]? = if i < n * l.length then l[i % l.length]? else none
  | 0, i => by simp
  | n + 1, i => by
    rw [List.replicate_succ, List.flatten_cons]
    by_cases h : i < l.length
    · rw [List.getElem?_append_left h, Nat.mod_eq_of_lt h, if_pos (by rw [Nat.succ_mul]; omega)]
    · rw [List.getElem?_append_right (by omega), flat_get l n]
      have e : (i - l.length) % l.length = i % l.length := (Nat.mod_eq_sub_mod (by omega)).symm
      rw [e, Nat.succ_mul]
      by_cases h2 : i - l.length < n * l.length
      · rw [if_pos h2, if_pos (by omega)]
      · rw [if_neg h2, if_neg (by omega)]
theorem range_flat (Z : Array Value) (n : Nat) : ((Array.range (n * Z.size)).map fun i => Z[i % Z.size]!) = (List.replicate n Z.toList).flatten.toArray := by
  apply Array.ext_getElem?
  intro i
  have e : (List.replicate n Z.toList).flatten.toArray[i]? = (List.replicate n Z.toList).flatten[i]? := by rw [List.getElem?_toArray]
  rw [Array.getElem?_map, e, flat_get, Array.length_toList]
  by_cases h : i < n * Z.size
  · have hz : 0 < Z.size := by
      rcases Nat.eq_zero_or_pos Z.size with h0 | h0
      · rw [h0] at h; simp at h
      · exact h0
    have hm : i % Z.size < Z.size := Nat.mod_lt _ hz
    rw [if_pos h, Array.getElem?_toList]
    simp [h, hm]
  · rw [if_neg h]
    simp [h]
theorem flat_one {α : Type} {p : α → Prop} {l : List α} (h : ∀ v ∈ l, p v) (n : Nat) : ∀ v ∈ (List.replicate n l).flatten, p v := by
  intro v hv
  obtain ⟨m, h1, h2⟩ := List.mem_flatten.1 hv
  rw [(List.mem_replicate.1 h1).2] at h2
  exact h v h2
theorem flat_len {α : Type} (l : List α) (n : Nat) : (List.replicate n l).flatten.length = n * l.length := by simp
end
end Go.E
end

section
/- E: new rows and maps; stores. No condition. -/
namespace Go.E
open Go Go.RowKit

section
variable {P : Program} {cx : Ctx} {n0 : Nat} {g : Gh} {h : Hp} {w : World} {mk : Nat} {e : Env} {a : Act} {F : Fence} {o : Oper} {call : CallK} {R : Type} {y : R} {k : RV → Hp → Option R}

theorem sl_new {B : Nat} {h : Hp} (l c : Nat) : VR (g.add h.n B 0 0) (.sl h.n 0 l c true) (.slice (some ⟨B, 0, none⟩) l c) := by
  have := VR.sl (g := g.add h.n B 0 0) (b := h.n) (B := B) (o := 0) 0 l c true c (by simp [Gh.add]) rfl
  exact this
theorem elemK_bnd {α β : Type} {Γ : Tys} {t : TypeId} {K : TypeId → ETy → Option α} {f : α → Option β} : elemK Γ t (fun o u => bnd (K o u) f) = bnd (elemK Γ t K) f := by
  unfold elemK
  cases Γ.ty t with
  | none => rfl
  | some ty =>
    obtain ⟨kk, s, b⟩ := ty
    cases kk with
    | sl el =>
      show bnd (Γ.ty el) _ = bnd (bnd (Γ.ty el) _) f
      rw [bnd_assoc]
    | _ => rfl
theorem buildSlice_does (hT : TOk P cx.Γ) (H : HR cx g h w n0) (he : ER g mk e a.tmps) (hd : DR g h.df a.defers) (h0 : n0 ≤ w.heap.size) {t : TypeId} {n : Nat} {ps : Array (Nat × Operand)} (hop : o.op = .buildSlice t n ps) (hk : oBuildSlice t n ps cx mk call e h k = some y) :
    Does F P cx n0 g w a.defers y k (fun k' => oBuildSlice t n ps cx mk call e h k') ((execOp a.eval o).run P w) := by
  -- what is drawn up, and where
  have key : ∀ {R' : Type} (k' : RV → Hp → Option R'), oBuildSlice t n ps cx mk call e h k' = bnd (bnd (evParts cx mk e ps.toList) fun ps => elemK cx.Γ t fun el te => bnd (zeroC cx.Γ el) fun z => bnd (repL z n) fun z => bnd (fillC (fun i => some (Nat.mul i te.size, te.size)) ps z) fun cs =>
      ifB (Nat.ble (lenL cs 0) 16777216) (some (cs, el)) none) fun q => h.new (.cells q.1 q.2 none 0 0 []) fun b h => k' (.sl b 0 n n true) h := by
    intro R' k'
    unfold oBuildSlice
    rw [bnd_assoc]
    congr 1
    funext ps
    rw [← elemK_bnd]
    congr 1
    funext el te
    rw [bnd_assoc]
    congr 1
    funext z
    rw [bnd_assoc]
    congr 1
    funext z
    rw [bnd_assoc]
    congr 1
    funext cs
    rw [ifB_bnd]
  rw [key] at hk
  obtain ⟨q, hq, hk2⟩ := bnd_inv hk
  obtain ⟨h', n1, n2, n3, n4⟩ := Hp.new_eq h (.cells q.1 q.2 none 0 0 [])
  rw [n1] at hk2
  refine ⟨.sl h.n 0 n n true, h', hk2, fun k' => (key k').trans (by rw [hq]; exact n1 _), ?_⟩
  obtain ⟨ps', h1, h2⟩ := bnd_inv hq
  obtain ⟨el, te, u1, u2, h3⟩ := elemK_inv hT h2
  obtain ⟨z, h4, h5⟩ := bnd_inv h3
  obtain ⟨zs, h6, h7⟩ := bnd_inv h5
  obtain ⟨cs, h8, h9⟩ := bnd_inv h7
  obtain ⟨h10, h11⟩ := ifB_none h9
  cases h11
  rw [repL_eq] at h6
  cases h6
  obtain ⟨i, Z, ty, z1, z2, z3, z4, z5, z6, z7, _⟩ := zero_ok (P := P) (g := g) hT h4
  rw [u2] at z5
  cases z5
  have hZ : Z.cells.size = te.size := by rw [← Array.length_toList, z3.length, z6]
  obtain ⟨CS, f1, f2, f3, f4⟩ := fill_ok (place' := fun i => some (i * te.size, te.size)) (fun i p hp => hp) (evParts_ok H he h1) (CS := (List.replicate n Z.cells.toList).flatten.toArray) (VRs.flatten z3 n) (flat_one z4 n) h8
  rw [nble_eq, decide_eq_true_eq, lenL_zero, f4, flat_len, z6] at h10
  have hr : (execOp a.eval o).run P w = .ok (.value (.slice (some ⟨w.heap.size, 0, none⟩) n n)) (w.alloc (.cells CS el)) := by
    unfold execOp
    rw [hop]
    simp only [Instr.buildSlice, Sem.run_bind, run_underlying u1, run_size hT u2, Result.andThen_ok]
    rw [if_neg (by omega)]
    by_cases h0' : n * te.size = 0
    · have he' : (List.replicate n Z.cells.toList).flatten.toArray = #[] := by
        apply Array.eq_empty_of_size_eq_zero
        rw [List.size_toArray, flat_len, Array.length_toList, hZ, h0']
      rw [he'] at f1
      rw [if_pos h0']
      have hmap : ((Array.range (n * te.size)).map fun x => (#[] : Array Value)[x % (#[] : Array Value).size]!) = #[] := by rw [h0']; simp
      simp only [Sem.run_pure, Result.andThen_ok, hmap, Array.toList_map, f1, newRow, Sem.run_bind, run_newObj_alloc]
    · rw [if_neg h0']
      have hmap := range_flat Z.cells n
      rw [hZ] at hmap
      simp only [Sem.run_pure, Sem.run_bind, run_zero z1 z2, Result.andThen_ok, hZ, hmap, Array.toList_map, f1, newRow, run_newObj_alloc]
  rw [hr]
  exact new_post H hd h0 f2 f3 n2 n3 n4 (sl_new n n)
theorem map_does (H : HR cx g h w n0) (hd : DR g h.df a.defers) (h0 : n0 ≤ w.heap.size) {t : TypeId} {r : Option Operand} (hop : o.op = .makeMap t r) (hk : oMap t r cx mk call e h k = some y) :
    Does F P cx n0 g w a.defers y k (fun k' => oMap t r cx mk call e h k') ((execOp a.eval o).run P w) := by
  cases r with
  | some x => cases hk
  | none =>
    obtain ⟨h', n1, n2, n3, n4⟩ := Hp.new_eq h (.map [] 0)
    have hs : ∀ {R' : Type} (k' : RV → Hp → Option R'), oMap t none cx mk call e h k' = k' (.map h.n) h' := fun k' => n1 fun b h => k' (.map b) h
    refine ⟨.map h.n, h', by rw [← hs k]; exact hk, fun k' => hs k', ?_⟩
    have hr : (execOp a.eval o).run P w = .ok (.value (.map (some w.heap.size))) (w.alloc (.map #[] 0)) := by
      unfold execOp
      rw [hop]
      simp only [Instr.makeMap, Option.map_none, Sem.run_bind, Sem.run_pure, Result.andThen_ok, run_newObj_alloc]
    rw [hr]
    have hle : g.Le (g.add h.n w.heap.size 0 0) := Gh.add_le H.fresh
    obtain ⟨p1, p2⟩ := H.alloc (O := .map #[] 0) (x := 0) n2 n3 ⟨w.heap.size, #[], by simp [Gh.add], h0, by show (w.heap.push _)[w.heap.size]? = _; simp, .nil⟩
    exact ⟨_, p2, p1, .map (by simp [Gh.add]), by rw [n4]; exact hd.mono hle⟩
theorem makeSlice_does (hT : TOk P cx.Γ) (H : HR cx g h w n0) (he : ER g mk e a.tmps) (hd : DR g h.df a.defers) (h0 : n0 ≤ w.heap.size) {t : TypeId} {x z : Operand} (hop : o.op = .makeSlice t x z) (hk : oMakeSlice t x z cx mk call e h k = some y) :
    Does F P cx n0 g w a.defers y k (fun k' => oMakeSlice t x z cx mk call e h k') ((execOp a.eval o).run P w) := by
  unfold oMakeSlice at hk
  obtain ⟨u, h1, h2⟩ := bnd_inv hk
  obtain ⟨u', h3, h4⟩ := bnd_inv h2
  split at h4
  · rename_i kl l
    split at h4
    · rename_i kc c
      have key : ∀ {R' : Type} (k' : RV → Hp → Option R'), oMakeSlice t x z cx mk call e h k' = bnd (elemK cx.Γ t fun el te => ifB (Nat.ble l c) (ifB (Nat.ble c 1000000) (ifB (Nat.ble te.bytes 100000) (bnd (zeroC cx.Γ el) fun z => bnd (repL z c) fun cs => some (cs, el)) none) none) none)
          fun q => h.new (.cells q.1 q.2 none 0 0 []) fun b h => k' (.sl b 0 l c true) h := by
        intro R' k'
        unfold oMakeSlice
        rw [h1, h3]
        show elemK cx.Γ t _ = _
        rw [← elemK_bnd]
        congr 1
        funext el te
        rw [ifB_bnd, ifB_bnd, ifB_bnd, bnd_assoc]
        congr 3
        congr 1
        funext z
        rw [bnd_assoc]
      rw [show (elemK cx.Γ t fun el te => ifB (Nat.ble l c) (ifB (Nat.ble c 1000000) (ifB (Nat.ble te.bytes 100000) (bnd (zeroC cx.Γ el) fun z => bnd (repL z c) fun cs =>
        h.new (.cells cs el none 0 0 []) fun b h => k (.sl b 0 l c true) h) none) none) none) = oMakeSlice t x z cx mk call e h k by unfold oMakeSlice; rw [h1, h3], key] at h4
      obtain ⟨q, hq, hk2⟩ := bnd_inv h4
      obtain ⟨h', n1, n2, n3, n4⟩ := Hp.new_eq h (.cells q.1 q.2 none 0 0 [])
      rw [n1] at hk2
      refine ⟨.sl h.n 0 l c true, h', hk2, fun k' => (key k').trans (by rw [hq]; exact n1 _), ?_⟩
      obtain ⟨el, te, u1, u2, h5⟩ := elemK_inv hT hq
      obtain ⟨c1, h5⟩ := ifB_none h5
      obtain ⟨c2, h5⟩ := ifB_none h5
      obtain ⟨c3, h5⟩ := ifB_none h5
      obtain ⟨zz, h6, h7⟩ := bnd_inv h5
      rw [repL_eq] at h7
      cases h7
      rw [nble_eq, decide_eq_true_eq] at c1 c2 c3
      obtain ⟨i, Z, ty, z1, z2, z3, z4, z5, z6, z7, z8, _⟩ := zero_ok (P := P) (g := g) hT h6
      rw [u2] at z5
      cases z5
      have hZ : Z.cells.size = te.size := by rw [← Array.length_toList, z3.length, z6]
      have hx := (ev_ok H he h1).int_inv
      have hz := (ev_ok H he h3).int_inv
      have w1 : IntKind.i64.wrap (Int.ofNat l) = Int.ofNat l := wrap_small (by show _ < 9223372036854775808; omega)
      have w2 : IntKind.i64.wrap (Int.ofNat c) = Int.ofNat c := wrap_small (by show _ < 9223372036854775808; omega)
      have hprod : (i.bytes : Int) * Int.ofNat c ≤ 100000 * 1000000 := by
        rw [z8]
        have hm := Nat.mul_le_mul c3 c2
        show (te.bytes : Int) * (c : Int) ≤ _
        rw [← Int.natCast_mul]
        omega
      have hr : (execOp a.eval o).run P w = .ok (.value (.slice (some ⟨w.heap.size, 0, none⟩) l c)) (w.alloc (.cells (List.replicate c Z.cells.toList).flatten.toArray el)) := by
        unfold execOp
        rw [hop]
        simp only [Instr.makeSlice, Sem.run_bind, run_underlying u1, Result.andThen_ok, hx, hz, Go.asInt, asIntOf, Sem.run_pure, run_typeInfo z1, w1, w2]
        rw [if_neg (by
          simp only [Bool.or_eq_true, decide_eq_true_eq, not_or]
          refine ⟨⟨⟨?_, ?_⟩, ?_⟩, ?_⟩
          · simp
          · omega
          · simp
          · simp only [Int.ofNat_eq_natCast]; omega)]
        simp only [Sem.run_bind, run_askRoom, run_size hT u2, Result.andThen_ok, Int.ofNat_eq_natCast, Int.toNat_natCast]
        by_cases h0' : c * te.size = 0
        · rw [if_pos h0']
          have he' : (List.replicate c Z.cells.toList).flatten.toArray = #[] := by
            apply Array.eq_empty_of_size_eq_zero
            rw [List.size_toArray, flat_len, Array.length_toList, hZ, h0']
          have hmap : ((Array.range (c * te.size)).map fun x => (#[] : Array Value)[x % (#[] : Array Value).size]!) = #[] := by rw [h0']; simp
          simp only [Sem.run_pure, Result.andThen_ok, hmap, newRow, Sem.run_bind, run_newObj_alloc, he']
        · rw [if_neg h0']
          have hmap := range_flat Z.cells c
          rw [hZ] at hmap
          simp only [Sem.run_pure, Sem.run_bind, run_zero z1 z2, Result.andThen_ok, hZ, hmap, newRow, run_newObj_alloc]
      rw [hr]
      exact new_post H hd h0 (VRs.flatten z3 c) (flat_one z4 c) n2 n3 n4 (sl_new l c)
    · cases h4
  · cases h4

/-! ### Stores -/
theorem killAll_eq : ∀ (l : List Ps) (h : Hp), ∃ h', killAll l h = some h'
  | [], h => ⟨h, rfl⟩
  | b :: l, h => by
    obtain ⟨h1, e1⟩ := Hp.set_eq h b .dead
    obtain ⟨h2, e2⟩ := killAll_eq l h1
    exact ⟨h2, by show bnd (h.set b .dead) (fun h => killAll l h) = _; rw [e1]; exact e2⟩
theorem over_range {CS : Array Value} {L : List Value} {o off n : Nat} (h1 : off + L.length ≤ n) (h2 : o + n ≤ CS.size) :
    ((over CS (o + off) L).toList.drop o).take n = ((CS.toList.drop o).take n).take off ++ (L ++ ((CS.toList.drop o).take n).drop (off + L.length)) := by
  apply List.ext_getElem?
  intro k
  have hl1 : (((CS.toList.drop o).take n).take off).length = off := by simp; omega
  rw [List.getElem?_take, List.getElem?_drop, Array.getElem?_toList, over_get (by omega)]
  by_cases c1 : k < off
  · rw [List.getElem?_append_left (by omega), List.getElem?_take, if_pos c1, List.getElem?_take, List.getElem?_drop, Array.getElem?_toList, if_neg (show ¬ (o + off ≤ o + k ∧ o + k < o + off + L.length) by omega), Array.getElem?_toList]
  · rw [List.getElem?_append_right (by omega), hl1]
    by_cases c2 : k < off + L.length
    · rw [List.getElem?_append_left (by omega), if_pos (by omega), if_pos (by omega)]
      congr 1
      omega
    · rw [List.getElem?_append_right (by omega), List.getElem?_drop, List.getElem?_take, List.getElem?_drop, Array.getElem?_toList]
      rw [show off + L.length + (k - off - L.length) = k by omega, if_neg (show ¬ (o + off ≤ o + k ∧ o + k < o + off + L.length) by omega), Array.getElem?_toList]
theorem clear_ok {lo hi off n : Nat} (h : clear lo hi off n = true) : hi ≤ lo ∨ off + n ≤ lo ∨ hi ≤ off := by
  unfold clear at h
  rw [nble_eq, nble_eq, nble_eq, ifB_eq, ifB_eq] at h
  simp only [decide_eq_true_eq] at h
  split at h
  · exact .inl (by assumption)
  · split at h
    · rename_i h2; exact .inr (.inl h2)
    · simp at h; exact .inr (.inr h)
theorem storeC_ok (H : HR cx g h w n0) {b : Ps} {off : Nat} {l : List RV} {L : List Value} {h' : Hp} (hl : VRs g l L) (h1 : ∀ v ∈ l, v.one = true) (hs : storeC h b off l = some h') :
    ∃ B o w', g.μ b = some (B, o) ∧ (storeCells ⟨B, o + off, none⟩ L 0).run P w = .ok () w' ∧ HR cx g h' w' n0 ∧ Ext n0 g w g w' ∧ h'.df = h.df := by
  obtain ⟨cs, ty, sz, lo, hi, anc, g1, g2⟩ := getC_ok hs
  obtain ⟨g3, g4⟩ := ifB_none g2
  obtain ⟨cs', g5, g6⟩ := bnd_inv g4
  obtain ⟨hk, g7, g8⟩ := bnd_inv g6
  obtain ⟨B, o, CS, fz, k1, k2, k3, k4, k5, k6, k7⟩ := H.obj b _ g1
  obtain ⟨i1, rfl⟩ := overAt_ok g5
  have hlen := hl.length
  rw [lenL_zero] at g3
  have hsz : o + cs.length ≤ CS.size := by
    have := k5.length
    simp only [List.length_take, List.length_drop, Array.length_toList] at this
    cases sz with
    | none => simp only at k4; omega
    | some s => simp only at k4; omega
  have hclr := clear_ok g3
  have hfz : ∀ k, o + off + 0 ≤ k → k < o + off + 0 + L.length → ¬ (fz.1 ≤ k ∧ k < fz.2) := by
    intro k c1 c2 c3
    have := k7.1 k (by omega) (by omega) c3.1 c3.2
    omega
  have hrun := run_stores (P := P) (B := B) (o := o + off) L 0 CS w k3 (by omega) hfz fun V hV => by
    obtain ⟨j, hj⟩ := List.mem_iff_getElem?.1 hV
    have hlt := (List.getElem?_eq_some_iff.1 hj).1
    obtain ⟨v, hv⟩ : ∃ v, l[j]? = some v := ⟨l[j]'(by omega), by simp⟩
    obtain ⟨V', e1, e2⟩ := hl.at hv
    rw [hj] at e1
    cases e1
    exact e2.notAgg (h1 v (List.mem_of_getElem? hv))
  rw [Nat.add_zero] at hrun
  -- what may lie in the same memory is let go
  obtain ⟨hf, f0⟩ := killAll_eq (anc.filter (· ≠ b)) h
  obtain ⟨f1, f2, f3⟩ := killAll_ok f0
  have H1 := H.let_go _ f1 f2
  obtain ⟨a1, a2, a3⟩ := killAll_ok g7
  obtain ⟨b1, b2, b3⟩ := Hp.set_ok g8
  have hfb : hf.get b = some (.cells cs ty sz lo hi anc) := by rw [f1, if_neg (by simp), g1]
  have hget : ∀ q, h'.get q = if q = b then some (.cells (cs.take off ++ (l ++ cs.drop (off + l.length))) ty sz lo hi []) else hf.get q := by
    intro q
    rw [b1, a1, f1]
    by_cases hq : q = b
    · simp [hq]
    · simp [hq]
  obtain ⟨p1, p2⟩ := H1.put (O := .cells (over CS (o + off) L) ty fz) hfb rfl k1 k2 (fun c cs' ty' hc hm => by
      rw [f1] at hc
      by_cases hcb : c = b
      · rw [hcb, if_neg (by simp), g1] at hc; cases hc
      · rw [if_pos (by simp [hcb]; exact hm)] at hc; cases hc) hget (b2.trans (a2.trans f2.symm)) rfl
    ⟨B, o, over CS (o + off) L, fz, k1, k2, by rw [World.putObj_heap_same (Array.getElem?_eq_some_iff.1 k3).1], by
      have hl2 : (cs.take off ++ (l ++ cs.drop (off + l.length))).length = cs.length := by simp; omega
      rw [hl2, over_size (by omega)]
      exact k4, by
      have hl2 : (cs.take off ++ (l ++ cs.drop (off + l.length))).length = cs.length := by simp; omega
      rw [hl2, over_range (by omega) hsz, hlen]
      exact ((k5.drop _).append hl).append (k5.take off), one_over k6 h1, by
      have hl2 : (cs.take off ++ (l ++ cs.drop (off + l.length))).length = cs.length := by simp; omega
      rw [hl2, over_size (by omega)]
      exact k7⟩
  exact ⟨B, o, _, k1, hrun, p1, p2, b3.trans a3⟩
theorem store_does (hT : TOk P cx.Γ) (H : HR cx g h w n0) (he : ER g mk e a.tmps) (hd : DR g h.df a.defers) {t : TypeId} {x z : Operand} (hop : o.op = .store t x z) (hk : oStore t x z cx mk call e h k = some y) :
    Does F P cx n0 g w a.defers y k (fun k' => oStore t x z cx mk call e h k') ((execOp a.eval o).run P w) := by
  obtain ⟨u, h1, h2⟩ := bnd_inv hk
  obtain ⟨v, h3, h4⟩ := bnd_inv h2
  obtain ⟨b, off, rfl, h5⟩ := asPtr_inv h4
  obtain ⟨s, h6, h7⟩ := bnd_inv h5
  obtain ⟨l, h8, h9⟩ := bnd_inv h7
  obtain ⟨h10, h11⟩ := ifB_none h9
  obtain ⟨h', h12, h13⟩ := bnd_inv h11
  obtain ⟨c1, c2⟩ := cells_ok (ev_ok H he h3) h8
  obtain ⟨B, o', w', m, r1, r2, r3, r4⟩ := storeC_ok (P := P) H c1 c2 h12
  refine ⟨undefV, h', h13, fun k' => ?_, ?_⟩
  · unfold oStore
    rw [h1, h3]
    show bnd (sizeT cx.Γ t) _ = _
    rw [h6]
    show bnd (cellsOf v) _ = _
    rw [h8]
    show ifB (Nat.beq (lenL l 0) s) _ _ = _
    rw [h10]
    show bnd (storeC h b off l) _ = _
    rw [h12]
  · obtain ⟨B', o'', m', e1⟩ := (ev_ok H he h1).ptr_inv
    rw [m] at m'
    cases m'
    rw [nbeq_eq, decide_eq_true_eq, lenL_zero] at h10
    have hr : (execOp a.eval o).run P w = .ok .skip w' := by
      unfold execOp
      rw [hop]
      simp only [e1, Instr.storeAt, Instr.sureAddr, storeVar, Sem.run_bind, Sem.run_pure, Result.andThen_ok, run_sizeT hT h6]
      rw [if_neg (by rw [← Array.length_toList, c1.length, h10]; simp)]
      rw [r1]
      rfl
    rw [hr]
    exact ⟨g, r3, r2, VR.undef, by rw [r4]; exact hd⟩
end
end Go.E
end

section
/- E: appending. No condition. -/
namespace Go.E
open Go Go.RowKit

theorem bytesC_ok (g : Gh) : ∀ {l : List UInt8} {r : List RV}, bytesC (l.map UInt8.toNat) = some r → r.length = l.length ∧ (∀ v ∈ r, v.one = true) ∧ VRs g r (l.map fun b => Value.int .u8 b.toNat)
  | [], r, h => by cases h; exact ⟨rfl, fun v hv => (by cases hv), VRs.nil⟩
  | b :: l, r, h => by
    obtain ⟨q, h1, h2⟩ := bnd_inv (show bnd (bytesC (l.map UInt8.toNat)) (fun l => some (RV.int .u8 (.ofNat b.toNat) :: l)) = some r from h)
    cases h2
    obtain ⟨h3, h4, h5⟩ := bytesC_ok g h1
    refine ⟨by simp [h3], fun v hv => ?_, .cons (.int _ _) h5⟩
    cases hv with
    | head => rfl
    | tail _ hv => exact h4 v hv
theorem cell_heap {w w' : World} (hw : w'.heap = w.heap) (A : Addr) : w'.cell? A = w.cell? A := by unfold World.cell?; rw [hw]
theorem isStrK_inv {k : EK} (h : isStrK k = true) : k = .str := by cases k <;> first | rfl | cases h
theorem isIntK_inv {k : EK} (h : isIntK k = true) : ∃ j, k = .int j := by cases k <;> first | exact ⟨_, rfl⟩ | cases h

section
variable {P : Program} {w : World} {t t2 ty el : TypeId} {i : TypeInfo} {el2 : TypeId} {Y Z : Value} {m len CAP : Nat} {NEW OLD : Array Value} {A : Addr} {base : Option Addr}
theorem run_sizeOf_eq (hi : P.info? el = some i) : (sizeOf el).run P w = .ok i.size w := run_sizeOf hi w
theorem app_room_sl (ht : P.underlying t = some (.slice el)) (h2 : P.underlying t2 = some (.slice el2)) (hi : P.info? el = some i) (hn : (Builtin.lenOf Y).run P w = .ok m w) (hs : (Builtin.firstCells i.size m Y).run P w = .ok NEW w)
    (hle : len + m ≤ CAP) : (Builtin.append_ #[t, t2] ty #[.slice (some A) len CAP, Y]).run P w = ((storeCells (A.add (len * i.size)) NEW.toList 0).run P w).andThen fun _ w' => .ok (.slice (some A) (len + m) CAP) w' := by
  simp [Builtin.append_, run_underlying ht, run_underlying h2, run_sizeOf_eq hi, hn, hle, hs]
theorem app_room_none_sl (ht : P.underlying t = some (.slice el)) (h2 : P.underlying t2 = some (.slice el2)) (hi : P.info? el = some i) (hn : (Builtin.lenOf Y).run P w = .ok m w) (hs : (Builtin.firstCells i.size m Y).run P w = .ok NEW w)
    (hle : len + m ≤ CAP) : (Builtin.append_ #[t, t2] ty #[.slice none len CAP, Y]).run P w = .ok (.slice none (len + m) CAP) w := by
  simp [Builtin.append_, run_underlying ht, run_underlying h2, run_sizeOf_eq hi, hn, hle, hs]
theorem app_grow_sl (ht : P.underlying t = some (.slice el)) (h2 : P.underlying t2 = some (.slice el2)) (hi : P.info? el = some i) (hz : i.zero = some Z) (hn : (Builtin.lenOf Y).run P w = .ok m w)
    (hs : (Builtin.firstCells i.size m Y).run P w.drew = .ok NEW w.drew) (ho : (Builtin.firstCells i.size len (.slice base len CAP)).run P w.drew = .ok OLD w.drew) (hlt : CAP < len + m) (hb : i.bytes ≠ 0)
    (hfit : Builtin.nextslicecap (len + m) CAP * i.bytes ≤ 281474976710656) :
    (Builtin.append_ #[t, t2] ty #[.slice base len CAP, Y]).run P w = .ok (.slice (some ⟨w.heap.size, 0, none⟩) (len + m) (grownCap w (len + m) CAP el))
      (w.drew.alloc (.cells (OLD ++ NEW ++ Builtin.zeroCells Z.cells (grownCap w (len + m) CAP el - (len + m))) el)) := by
  have hnle : ¬ len + m ≤ CAP := by omega
  have h48 : ¬ (281474976710656 < Builtin.nextslicecap (len + m) CAP * i.bytes) := by omega
  (simp [Builtin.append_, run_underlying ht, run_underlying h2, run_sizeOf_eq hi, hn, hnle, hs, ho, hb, h48, typeInfo, hi, zeroValue, hz, newRow, grownCap, Question.forced])
theorem app_room_str (ht : P.underlying t = some (.slice el)) (h2 : P.underlying t2 = some .string) (hi : P.info? el = some i) (hn : (Builtin.lenOf Y).run P w = .ok m w) (hs : (Builtin.firstCells i.size m Y).run P w = .ok NEW w)
    (hle : len + m ≤ CAP) : (Builtin.append_ #[t, t2] ty #[.slice (some A) len CAP, Y]).run P w = ((storeCells (A.add (len * i.size)) NEW.toList 0).run P w).andThen fun _ w' => .ok (.slice (some A) (len + m) CAP) w' := by
  simp [Builtin.append_, run_underlying ht, run_underlying h2, run_sizeOf_eq hi, hn, hle, hs]
theorem app_room_none_str (ht : P.underlying t = some (.slice el)) (h2 : P.underlying t2 = some .string) (hi : P.info? el = some i) (hn : (Builtin.lenOf Y).run P w = .ok m w) (hs : (Builtin.firstCells i.size m Y).run P w = .ok NEW w)
    (hle : len + m ≤ CAP) : (Builtin.append_ #[t, t2] ty #[.slice none len CAP, Y]).run P w = .ok (.slice none (len + m) CAP) w := by
  simp [Builtin.append_, run_underlying ht, run_underlying h2, run_sizeOf_eq hi, hn, hle, hs]
theorem app_grow_str (ht : P.underlying t = some (.slice el)) (h2 : P.underlying t2 = some .string) (hi : P.info? el = some i) (hz : i.zero = some Z) (hn : (Builtin.lenOf Y).run P w = .ok m w)
    (hs : (Builtin.firstCells i.size m Y).run P w.drew = .ok NEW w.drew) (ho : (Builtin.firstCells i.size len (.slice base len CAP)).run P w.drew = .ok OLD w.drew) (hlt : CAP < len + m) (hb : i.bytes ≠ 0)
    (hfit : Builtin.nextslicecap (len + m) CAP * i.bytes ≤ 281474976710656) :
    (Builtin.append_ #[t, t2] ty #[.slice base len CAP, Y]).run P w = .ok (.slice (some ⟨w.heap.size, 0, none⟩) (len + m) (grownCap w (len + m) CAP el))
      (w.drew.alloc (.cells (OLD ++ NEW ++ Builtin.zeroCells Z.cells (grownCap w (len + m) CAP el - (len + m))) el)) := by
  have hnle : ¬ len + m ≤ CAP := by omega
  have h48 : ¬ (281474976710656 < Builtin.nextslicecap (len + m) CAP * i.bytes) := by omega
  (simp [Builtin.append_, run_underlying ht, run_underlying h2, run_sizeOf_eq hi, hn, hnle, hs, ho, hb, h48, typeInfo, hi, zeroValue, hz, newRow, grownCap, Question.forced])
theorem appz_room {k k2 : IntKind} (ht : P.underlying t = some (.slice el)) (h2 : P.underlying t2 = some (.int k2)) (hi : P.info? el = some i) (hz : i.zero = some Z) (hZ : Z.cells.size = i.size) (hm : m ≤ 1000000) (hb : i.bytes ≤ 100000)
    (hle : len + m ≤ CAP) : (Builtin.append_ #[t, t2] ty #[.slice (some A) len CAP, .int k (Int.ofNat m)]).run P w = ((storeCells (A.add (len * i.size)) (Builtin.zeroCells Z.cells m).toList 0).run P w).andThen fun _ w' => .ok (.slice (some A) (len + m) CAP) w' := by
  have w1 : IntKind.i64.wrap (m : Int) = (m : Int) := wrap_small (by show _ < 9223372036854775808; omega)
  have h0 : ¬ ((m : Int) < 0) := by omega
  have h48 : ¬ ((281474976710656 : Int) < (m : Int) * (i.bytes : Int)) := by
    have := Nat.mul_le_mul hm hb
    rw [← Int.natCast_mul]; omega
  by_cases hs : m * i.size = 0
  · have he : Builtin.zeroCells Z.cells m = #[] := by
      apply Array.eq_empty_of_size_eq_zero
      simp only [Builtin.zeroCells, Array.size_map, Array.size_range, hZ, hs]
    simp [Builtin.append_, run_underlying ht, run_underlying h2, run_sizeOf_eq hi, Go.asInt, asIntOf, w1, h0, typeInfo, hi, h48, hle, hs, he]
  · simp [Builtin.append_, run_underlying ht, run_underlying h2, run_sizeOf_eq hi, Go.asInt, asIntOf, w1, h0, typeInfo, hi, h48, hle, hs, zeroValue, hz]
theorem appz_room_none {k k2 : IntKind} (ht : P.underlying t = some (.slice el)) (h2 : P.underlying t2 = some (.int k2)) (hi : P.info? el = some i) (hz : i.zero = some Z) (hZ : Z.cells.size = i.size) (hm : m ≤ 1000000) (hb : i.bytes ≤ 100000)
    (hle : len + m ≤ CAP) : (Builtin.append_ #[t, t2] ty #[.slice none len CAP, .int k (Int.ofNat m)]).run P w = .ok (.slice none (len + m) CAP) w := by
  have w1 : IntKind.i64.wrap (m : Int) = (m : Int) := wrap_small (by show _ < 9223372036854775808; omega)
  have h0 : ¬ ((m : Int) < 0) := by omega
  have h48 : ¬ ((281474976710656 : Int) < (m : Int) * (i.bytes : Int)) := by
    have := Nat.mul_le_mul hm hb
    rw [← Int.natCast_mul]; omega
  by_cases hs : m * i.size = 0
  · simp [Builtin.append_, run_underlying ht, run_underlying h2, run_sizeOf_eq hi, Go.asInt, asIntOf, w1, h0, typeInfo, hi, h48, hle, hs]
  · simp [Builtin.append_, run_underlying ht, run_underlying h2, run_sizeOf_eq hi, Go.asInt, asIntOf, w1, h0, typeInfo, hi, h48, hle, hs, zeroValue, hz]
theorem appz_grow {k k2 : IntKind} (ht : P.underlying t = some (.slice el)) (h2 : P.underlying t2 = some (.int k2)) (hi : P.info? el = some i) (hz : i.zero = some Z) (hZ : Z.cells.size = i.size) (hm : m ≤ 1000000) (hb' : i.bytes ≤ 100000)
    (ho : (Builtin.firstCells i.size len (.slice base len CAP)).run P w.drew = .ok OLD w.drew) (hlt : CAP < len + m) (hb : i.bytes ≠ 0) (h63 : ((len + m : Nat) : Int) ≤ 9223372036854775807)
    (hfit : Builtin.nextslicecap (len + m) CAP * i.bytes ≤ 281474976710656) :
    (Builtin.append_ #[t, t2] ty #[.slice base len CAP, .int k (Int.ofNat m)]).run P w = .ok (.slice (some ⟨w.heap.size, 0, none⟩) (len + m) (grownCap w (len + m) CAP el))
      (w.drew.alloc (.cells (OLD ++ Builtin.zeroCells Z.cells m ++ Builtin.zeroCells Z.cells (grownCap w (len + m) CAP el - (len + m))) el)) := by
  have w1 : IntKind.i64.wrap (m : Int) = (m : Int) := wrap_small (by show _ < 9223372036854775808; omega)
  have h0 : ¬ ((m : Int) < 0) := by omega
  have hnle : ¬ len + m ≤ CAP := by omega
  have h63' : ¬ (9223372036854775807 < ((len : Int) + (m : Int))) := by omega
  have h48' : ¬ (281474976710656 < Builtin.nextslicecap (len + m) CAP * i.bytes) := by omega
  have h48 : ¬ ((281474976710656 : Int) < (m : Int) * (i.bytes : Int)) := by
    have := Nat.mul_le_mul hm hb'
    rw [← Int.natCast_mul]; omega
  by_cases hs : m * i.size = 0
  · have he : Builtin.zeroCells Z.cells m = #[] := by
      apply Array.eq_empty_of_size_eq_zero
      simp only [Builtin.zeroCells, Array.size_map, Array.size_range, hZ, hs]
    simp [Builtin.append_, run_underlying ht, run_underlying h2, run_sizeOf_eq hi, Go.asInt, asIntOf, w1, h0, h48, h63', hnle, hs, he, ho, hb, h48', typeInfo, hi, zeroValue, hz, newRow, grownCap, Question.forced]
  · simp [Builtin.append_, run_underlying ht, run_underlying h2, run_sizeOf_eq hi, Go.asInt, asIntOf, w1, h0, h48, h63', hnle, hs, ho, hb, h48', typeInfo, hi, zeroValue, hz, newRow, grownCap, Question.forced]

/-- What is appended: so many elements, these cells. -/
structure SrcOk (P : Program) (w : World) (t t2 el : TypeId) (i : TypeInfo) (Y : Value) (m : Nat) (NEW : Array Value) : Prop where
  room : ∀ ty A len CAP, len + m ≤ CAP → (Builtin.append_ #[t, t2] ty #[.slice (some A) len CAP, Y]).run P w = ((storeCells (A.add (len * i.size)) NEW.toList 0).run P w).andThen fun _ w' => .ok (.slice (some A) (len + m) CAP) w'
  none : ∀ ty len CAP, len + m ≤ CAP → (Builtin.append_ #[t, t2] ty #[.slice none len CAP, Y]).run P w = .ok (.slice none (len + m) CAP) w
  grow : ∀ ty base len CAP OLD Z, i.zero = some Z → (Builtin.firstCells i.size len (.slice base len CAP)).run P w.drew = .ok OLD w.drew → CAP < len + m → i.bytes ≠ 0 → (len + m) * i.bytes ≤ 70368744177664 →
    (Builtin.append_ #[t, t2] ty #[.slice base len CAP, Y]).run P w = .ok (.slice (some ⟨w.heap.size, 0, Option.none⟩) (len + m) (grownCap w (len + m) CAP el))
      (w.drew.alloc (.cells (OLD ++ NEW ++ Builtin.zeroCells Z.cells (grownCap w (len + m) CAP el - (len + m))) el))
end
section
variable {P : Program} {cx : Ctx} {n0 : Nat} {g : Gh} {h : Hp} {w : World}
theorem info_inv (hT : TOk P cx.Γ) {t : TypeId} {ty : ETy} (h : cx.Γ.ty t = some ty) : ∃ i Z, P.info? t = some i ∧ i.size = ty.size ∧ i.bytes = ty.bytes ∧ i.zero = some Z ∧ Z.cells.size = ty.size := by
  obtain ⟨i, d, h1, h2, h3, h4, h5, ⟨Z, h6, h7⟩, _⟩ := (hT t ty h).ex
  exact ⟨i, Z, h1, h2, h3, h6, h7⟩
theorem fits46 {len m CAP b : Nat} (h : (len + m) * b ≤ 70368744177664) (hlt : CAP < len + m) : Builtin.nextslicecap (len + m) CAP * b ≤ 281474976710656 := growslice_fits hlt (by omega)
theorem zeroCells_flat (Z : Array Value) (n : Nat) : Builtin.zeroCells Z n = (List.replicate n Z.toList).flatten.toArray := range_flat Z n
theorem src_ok (hT : TOk P cx.Γ) (H : HR cx g h w n0) {t t2 el : TypeId} {te ty2 : ETy} {y : RV} {Y : Value} {β : Type} {k : Nat → List RV → Option β} {r : β} (ht : P.underlying t = some (.slice el)) (hte : cx.Γ.ty el = some te) (h2 : cx.Γ.ty t2 = some ty2)
    (hy : VR g y Y) (hs : srcC cx.Γ h el te ty2.k y k = some r) : ∃ m new NEW i, k m new = some r ∧ P.info? el = some i ∧ i.size = te.size ∧ i.bytes = te.bytes ∧ SrcOk P w t t2 el i Y m NEW ∧ VRs g new NEW.toList ∧ (∀ v ∈ new, v.one = true) ∧ new.length = m * te.size := by
  obtain ⟨i, Z, i1, i2, i3, i4, i5⟩ := info_inv hT hte
  have base_sl : ∀ {el2 : TypeId} {m : Nat} {NEW : Array Value}, P.underlying t2 = some (.slice el2) → (Builtin.lenOf Y).run P w = .ok m w → (∀ w', w'.heap = w.heap → (Builtin.firstCells i.size m Y).run P w' = .ok NEW w') → SrcOk P w t t2 el i Y m NEW := fun h2 hn hf =>
    ⟨fun ty A len CAP hle => app_room_sl ht h2 i1 hn (hf w rfl) hle, fun ty len CAP hle => app_room_none_sl ht h2 i1 hn (hf w rfl) hle, fun ty base len CAP OLD Z hz ho hlt hb hb2 => app_grow_sl ht h2 i1 hz hn (hf w.drew rfl) ho hlt hb (fits46 hb2 hlt)⟩
  unfold srcC at hs
  split at hs
  · rename_i kk n
    obtain ⟨h3, hs⟩ := ifB_none hs
    obtain ⟨h4, hs⟩ := ifB_none hs
    obtain ⟨h5, hs⟩ := ifB_none hs
    obtain ⟨z, h6, hs⟩ := bnd_inv hs
    obtain ⟨l, h7, hs⟩ := bnd_inv hs
    rw [repL_eq] at h7
    cases h7
    rw [nble_eq, decide_eq_true_eq] at h4 h5
    obtain ⟨k2, hk⟩ := isIntK_inv h3
    have u2 := ty_int hT h2 hk
    obtain ⟨i', Z', ty', z1, z2, z3, z4, z5, z6, _⟩ := zero_ok (P := P) (g := g) hT h6
    rw [hte] at z5
    cases z5
    rw [i1] at z1
    cases z1
    rw [i4] at z2
    cases z2
    rw [hy.int_inv]
    refine ⟨n, _, Builtin.zeroCells Z.cells n, i, hs, i1, i2, i3, ⟨fun ty A len CAP hle => appz_room ht u2 i1 i4 (by omega) h4 (by omega) hle, fun ty len CAP hle => appz_room_none ht u2 i1 i4 (by omega) h4 (by omega) hle, fun ty base len CAP OLD Z' hz ho hlt hb hb2 => ?_⟩, by rw [zeroCells_flat]; exact z3.flatten n, flat_one z4 n, by rw [flat_len, z6]⟩
    rw [i4] at hz
    cases hz
    refine appz_grow ht u2 i1 i4 (by omega) h4 (by omega) ho hlt hb ?_ (fits46 hb2 hlt)
    have := Nat.mul_le_mul_left (len + n) (Nat.one_le_iff_ne_zero.2 hb)
    omega
  · obtain ⟨h3, hs⟩ := ifB_none hs
    obtain ⟨e2, hk⟩ := isSlK_inv h3
    rw [hy.nils_inv] at base_sl ⊢
    exact ⟨0, [], #[], i, hs, i1, i2, i3, base_sl (ty_sl hT h2 hk) (by simp only [Builtin.lenOf, Sem.run_pure]) (fun w' _ => by simp only [Builtin.firstCells, Sem.run_pure]), .nil, fun v hv => (by cases hv), by simp⟩
  · obtain ⟨h3, hs⟩ := ifB_none hs
    obtain ⟨e2, hk⟩ := isSlK_inv h3
    obtain ⟨A, c, rfl, _⟩ := hy.emp_inv
    exact ⟨0, [], #[], i, hs, i1, i2, i3, base_sl (ty_sl hT h2 hk) (by simp only [Builtin.lenOf, Sem.run_pure]) (fun w' _ => by simp only [Builtin.firstCells, Nat.zero_mul, loadCells, loadCellsFrom, Sem.run_pure]), .nil, fun v hv => (by cases hv), by simp⟩
  · rename_i b off n c tt
    obtain ⟨h3, hs⟩ := ifB_none hs
    obtain ⟨e2, hk⟩ := isSlK_inv h3
    obtain ⟨l, h4, hs⟩ := bnd_inv hs
    obtain ⟨B, o, CAP, m, rfl, _⟩ := hy.sl_inv
    obtain ⟨B', o', L, m', l1, l2, l3, l4⟩ := loadC_ok H h4
    rw [m] at m'
    cases m'
    refine ⟨n, l, L.toArray, i, hs, i1, i2, i3, base_sl (ty_sl hT h2 hk) (by simp only [Builtin.lenOf, Sem.run_pure]) (fun w' hw => ?_), by simpa using l3, l4, l1⟩
    have hl : L.length = n * i.size := by rw [l3.length, l1, i2]; rfl
    simp only [Builtin.firstCells, ← hl]
    exact run_loadCells fun j V hj => (cell_heap hw _).trans (l2 j V hj)
  · rename_i l
    obtain ⟨h3, hs⟩ := ifB_none hs
    have hk := isStrK_inv h3
    obtain ⟨h4, hs⟩ := ifB_none hs
    obtain ⟨c, h5, hs⟩ := bnd_inv hs
    rw [forceN_eq, lenL_zero] at hs
    rw [nbeq_eq, decide_eq_true_eq] at h4
    obtain ⟨s, rfl, e1⟩ := hy.str_inv
    rw [← e1] at h5
    obtain ⟨b1, b2, b3⟩ := bytesC_ok g h5
    have hsz := size_of_bytes e1
    have hx : (Array.map (fun b : UInt8 => Value.int IntKind.u8 (b.toNat : Int)) (s.extract 0 s.size).data) = Array.map (fun b : UInt8 => Value.int IntKind.u8 (b.toNat : Int)) s.data := by
      rw [ByteArray.data_extract]
      have : s.data.extract 0 s.size = s.data := by
        have hs : s.size = s.data.size := rfl
        rw [hs, Array.extract_size]
      rw [this]
    have u2 := ty_str hT h2 hk
    have hn : (Builtin.lenOf (.string s)).run P w = .ok s.size w := by simp only [Builtin.lenOf, Sem.run_pure]
    have hf : ∀ w', (Builtin.firstCells i.size s.size (.string s)).run P w' = .ok (Array.map (fun b : UInt8 => Value.int IntKind.u8 (b.toNat : Int)) s.data) w' := fun w' => by simp only [Builtin.firstCells, hx, Sem.run_pure]
    refine ⟨s.size, c, _, i, by rw [hsz]; exact hs, i1, i2, i3, ⟨fun ty A len CAP hle => app_room_str ht u2 i1 hn (hf w) hle, fun ty len CAP hle => app_room_none_str ht u2 i1 hn (hf w) hle, fun ty base len CAP OLD Z hz ho hlt hb hb2 => app_grow_str ht u2 i1 hz hn (hf w.drew) ho hlt hb (fits46 hb2 hlt)⟩, by rw [Array.toList_map]; exact b3, b2, by rw [b1, h4, Nat.mul_one, Array.length_toList]; rfl⟩
  · cases hs
end
end Go.E
end

section
/- E: append, told of memory. No condition. -/
namespace Go.E
open Go Go.RowKit

/-- A block that grows in its own place: the old one is read alone from now on. -/
theorem HR.regrow {cx : Ctx} {g : Gh} {h h' : Hp} {w : World} {n0 : Nat} (H : HR cx g h w n0) {b : Ps} {o on oo : RO} {B k x : Nat} {O : Obj} (hb : h.get b = some o) (hl : o.live = true) (hμ : g.μ b = some (B, k)) (hB : n0 ≤ B)
    (hanc : ∀ c cs ty, h.get c = some (.old cs ty) → c ∉ o.anc) (hget : ∀ q, h'.get q = if q = h.n then some on else if q = b then some oo else h.get q) (hn : h'.n = h.n.succ) (hon : on.anc = [b])
    (hoo : (∃ cs ty, oo = .old cs ty)) (ho : OR cx (g.add h.n B k x) (w.putObj B O) n0 h.n on) (ho2 : OR cx (g.add h.n B k x) (w.putObj B O) n0 b oo) : HR cx (g.add h.n B k x) h' (w.putObj B O) n0 ∧ Ext n0 g w (g.add h.n B k x) (w.putObj B O) := by
  have hle : g.Le (g.add h.n B k x) := Gh.add_le H.fresh
  have hbn : b ≠ h.n := fun e => by rw [e, H.fresh] at hμ; cases hμ
  have hbk : blk g b = some B := by simp [blk, hμ]
  have hb0 : blk (g.add h.n B k x) h.n = some B := by simp [blk, Gh.add]
  have hbo : ∀ c, c ≠ h.n → blk (g.add h.n B k x) c = blk g c := fun c hc => by simp [blk, Gh.add, hc]
  have hno : ∀ c oc, h.get c = some oc → c ≠ b → oc ≠ .dead → blk g c ≠ some B := by
    intro c oc hc hne hd he
    cases hlc : oc.live with
    | true => exact H.sep c b oc o hc hb hlc hl hne (he.trans hbk.symm)
    | false =>
      cases oc with
      | old cs ty => exact hanc c cs ty hc (H.old b c o cs ty hb hl hc (hbk.trans he.symm))
      | dead => exact hd rfl
      | _ => cases hlc
  have hBlt := H.lt b B k hμ
  have notlive : ∀ {oc : RO}, oc.live = true → oc ≠ .dead := fun {oc} hl e => by rw [e] at hl; cases hl
  have hool : oo.live = false := by obtain ⟨cs, ty, rfl⟩ := hoo; rfl
  refine ⟨⟨fun c oc hc => ?_, fun c c' o1 o2 h1 h2 l1 l2 hne => ?_, fun c c' o1 cs ty h1 l1 h2 he => ?_, fun c C k' hc => ?_, fun c p hc => ?_, fun i c hc => hle.μ _ _ (H.glb i c hc), H.base.step hle.o ⟨rfl, rfl, rfl, by simp, fun k hk => World.putObj_heap_other (by omega)⟩⟩,
    ⟨hle, by simp, fun c C k' hc => ?_, fun C _ hne => World.putObj_heap_other fun e => by
      rcases hne with hne | hne
      · omega
      · exact hne b k (by rw [e]; exact hμ), rfl, rfl, rfl⟩⟩
  · rw [hget] at hc
    by_cases hq : c = h.n
    · rw [if_pos hq] at hc; cases hc; rw [hq]; exact ho
    · rw [if_neg hq] at hc
      by_cases hq2 : c = b
      · rw [if_pos hq2] at hc; cases hc; rw [hq2]; exact ho2
      · rw [if_neg hq2] at hc
        by_cases hd : oc = .dead
        · rw [hd]; trivial
        · exact (H.obj c oc hc).keep hle fun C hC => World.putObj_heap_other fun e => hno c oc hc hq2 hd (by rw [hC, e])
  · rw [hget] at h1 h2
    have other : ∀ c oc, (if c = h.n then some on else if c = b then some oo else h.get c) = some oc → oc.live = true → c ≠ h.n → c ≠ b ∧ h.get c = some oc := fun c oc hc hlc hne => by
      rw [if_neg hne] at hc
      by_cases hq2 : c = b
      · rw [if_pos hq2] at hc; cases hc; rw [hool] at hlc; cases hlc
      · rw [if_neg hq2] at hc; exact ⟨hq2, hc⟩
    by_cases hq : c = h.n
    · by_cases hq' : c' = h.n
      · exact absurd (hq.trans hq'.symm) hne
      · obtain ⟨e1, e2⟩ := other c' o2 h2 l2 hq'
        rw [hq, hb0, hbo c' hq']
        exact fun he => hno c' o2 e2 e1 (notlive l2) he.symm
    · obtain ⟨e1, e2⟩ := other c o1 h1 l1 hq
      by_cases hq' : c' = h.n
      · rw [hq', hb0, hbo c hq]
        exact fun he => hno c o1 e2 e1 (notlive l1) he
      · obtain ⟨e3, e4⟩ := other c' o2 h2 l2 hq'
        rw [hbo c hq, hbo c' hq']
        exact H.sep c c' o1 o2 e2 e4 l1 l2 hne
  · rw [hget] at h1 h2
    by_cases hq : c = h.n
    · rw [if_pos hq] at h1
      cases h1
      rw [hon, List.mem_singleton]
      by_cases hq' : c' = b
      · exact hq'
      · by_cases hq2 : c' = h.n
        · rw [if_pos hq2] at h2; cases h2; cases l1
        · rw [if_neg hq2, if_neg hq'] at h2
          rw [hq, hb0, hbo c' hq2] at he
          exact absurd he.symm (hno c' _ h2 hq' (by simp))
    · rw [if_neg hq] at h1
      by_cases hq1 : c = b
      · rw [if_pos hq1] at h1; cases h1; rw [hool] at l1; cases l1
      · rw [if_neg hq1] at h1
        by_cases hq2 : c' = h.n
        · rw [hq2, hb0, hbo c hq] at he
          exact absurd he (hno c o1 h1 hq1 (notlive l1))
        · rw [if_neg hq2] at h2
          by_cases hq' : c' = b
          · rw [hq', hbo c hq, hbo b hbn, hbk] at he
            exact absurd he (hno c o1 h1 hq1 (notlive l1))
          · rw [if_neg hq'] at h2
            rw [hbo c hq, hbo c' hq2] at he
            exact H.old c c' o1 cs ty h1 l1 h2 he
  · simp only [World.putObj_size]
    by_cases hq : c = h.n
    · simp [Gh.add, hq] at hc; omega
    · simp [Gh.add, hq] at hc; exact H.lt c C k' hc
  · rw [hn, Ps.num_succ]
    by_cases hq : c = h.n
    · rw [hq]; omega
    · simp [Gh.add, hq] at hc
      have := H.dom c p hc; omega
  · by_cases hq : c = h.n
    · simp [Gh.add, hq] at hc
      left
      exact ⟨b, k, by rw [← hc.1]; exact hμ⟩
    · simp [Gh.add, hq] at hc
      exact .inl ⟨c, k', hc⟩

/-- A live block that is read alone from now on. -/
theorem HR.to_old {cx : Ctx} {g : Gh} {h h' : Hp} {w : World} {n0 : Nat} (H : HR cx g h w n0) {b : Ps} {o : RO} {cs : List RV} {ty : TypeId} (hb : h.get b = some o) (hl : o.live = true)
    (hget : ∀ q, h'.get q = if q = b then some (.old cs ty) else h.get q) (hn : h'.n = h.n) (ho : OR cx g w n0 b (.old cs ty)) : HR cx g h' w n0 := by
  have of : ∀ {c oc}, h'.get c = some oc → oc.live = true → c ≠ b ∧ h.get c = some oc := fun {c oc} hc hlc => by
    rw [hget] at hc
    by_cases hq : c = b
    · rw [if_pos hq] at hc; cases hc; cases hlc
    · rw [if_neg hq] at hc; exact ⟨hq, hc⟩
  refine ⟨fun c oc hc => ?_, fun c c' o1 o2 h1 h2 l1 l2 hne => H.sep c c' o1 o2 (of h1 l1).2 (of h2 l2).2 l1 l2 hne, fun c c' o1 cs' ty' h1 l1 h2 he => ?_, H.lt, by rw [hn]; exact H.dom, H.glb, H.base⟩
  · rw [hget] at hc
    by_cases hq : c = b
    · rw [if_pos hq] at hc; cases hc; rw [hq]; exact ho
    · rw [if_neg hq] at hc; exact H.obj c oc hc
  · obtain ⟨e1, e2⟩ := of h1 l1
    rw [hget] at h2
    by_cases hq : c' = b
    · rw [hq] at he; exact absurd he (H.sep c b o1 o e2 hb l1 hl e1)
    · rw [if_neg hq] at h2; exact H.old c c' o1 cs' ty' e2 l1 h2 he
section
variable {P : Program} {cx : Ctx} {n0 : Nat} {g : Gh} {h : Hp} {w : World} {ds : List Deferred}
theorem growV_inv {e : TypeId} {s bytes need lo hi : Nat} {all : List RV} {anc : List Ps} {v : RV} {h' : Hp} (hg : growV h e s bytes all need lo hi anc = some ⟨v, h'⟩) :
    need * bytes ≤ 70368744177664 ∧ bytes ≠ 0 ∧ v = .sl h.n 0 need need false ∧ (∀ q, h'.get q = if q = h.n then some (.cells all e (some s) lo hi anc) else h.get q) ∧ h'.n = h.n.succ ∧ h'.df = h.df := by
  unfold growV at hg
  obtain ⟨h1, hg⟩ := ifB_none hg
  obtain ⟨h2, hg⟩ := ifB_none' hg
  obtain ⟨h1', e1, e2, e3, e4⟩ := Hp.new_ok hg
  cases e1
  rw [nble_eq, decide_eq_true_eq] at h1
  rw [nbeq_eq, decide_eq_false_iff_not] at h2
  exact ⟨h1, h2, rfl, e2, e3, e4⟩
theorem sl_grown {B o x n : Nat} {h : Hp} : VR (g.add h.n B o x) (.sl h.n 0 n n false) (.slice (some ⟨B, o, none⟩) n (n + x)) := by
  have := VR.sl (g := g.add h.n B o x) (b := h.n) (B := B) (o := o) 0 n n false (n + x) (by simp [Gh.add]) (by simp [Gh.add])
  exact this
/-- A new row, with room behind it. -/
theorem grown_post (H : HR cx g h w n0) (hd : DR g h.df ds) (h0 : n0 ≤ w.heap.size) {all : List RV} {ALL REST : Array Value} {s x need lo hi : Nat} {anc : List Ps} {e : TypeId} {h' : Hp} (ha : VRs g all ALL.toList) (h1 : ∀ v ∈ all, v.one = true)
    (hr : REST.size = x * s) (hget : ∀ q, h'.get q = if q = h.n then some (.cells all e (some s) lo hi anc) else h.get q) (hn : h'.n = h.n.succ) (hdf : h'.df = h.df) :
    Post cx n0 g w h' (.sl h.n 0 need need false) (.slice (some ⟨w.heap.size, 0, none⟩) need (need + x)) ds (w.drew.alloc (.cells (ALL ++ REST) e)) := by
  have hle : g.Le (g.add h.n w.heap.size 0 x) := Gh.add_le H.fresh
  obtain ⟨p1, p2⟩ := HR.alloc (w := w.drew) H.drew (O := .cells (ALL ++ REST) e) (x := x) hget hn ⟨w.heap.size, 0, ALL ++ REST, (0, 0), by simp [Gh.add], h0, by show (w.heap.push _)[w.heap.size]? = _; simp, by
    have := ha.length
    simp only [Array.length_toList] at this
    simp [Gh.add, hr, this], by
    rw [List.drop_zero, Array.toList_append, List.take_append_of_le_length (by rw [ha.length]; exact Nat.le_refl _), List.take_of_length_le (by rw [ha.length]; exact Nat.le_refl _)]; exact ha.mono hle, h1, Fz.zero _ _ _ _ _⟩
  refine ⟨_, ⟨p2.le, p2.size, p2.new, p2.keep, p2.os, p2.tape, p2.output⟩, p1, sl_grown, by rw [hdf]; exact hd.mono hle⟩
theorem getC_bnd : True := trivial
theorem append_ok (hT : TOk P cx.Γ) (H : HR cx g h w n0) (hd : DR g h.df ds) (h0 : n0 ≤ w.heap.size) {t t2 ty : TypeId} {x y v : RV} {X Y : Value} {h' : Hp} (hx : VR g x X) (hy : VR g y Y) (ha : appendV cx.Γ h t t2 x y = some ⟨v, h'⟩) :
    ∃ V w', (Builtin.append_ #[t, t2] ty #[X, Y]).run P w = .ok V w' ∧ Post cx n0 g w h' v V ds w' := by
  obtain ⟨ty2, h2, ha1⟩ := bnd_inv ha
  obtain ⟨el, te, u1, hte, ha2⟩ := elemK_inv hT ha1
  obtain ⟨m, new, NEW, i, ha3, i1, i2, i3, src, s1, s2, s3⟩ := src_ok hT H u1 hte h2 hy ha2
  clear ha ha1 ha2
  obtain ⟨i', Z, j1, _, _, j4, j5⟩ := info_inv hT hte
  rw [i1] at j1
  cases j1
  have nilNew : m = 0 → NEW = #[] := fun hm => by
    apply Array.eq_empty_of_size_eq_zero
    rw [← Array.length_toList, s1.length, s3, hm, Nat.zero_mul]
  have rest : ∀ n, (Builtin.zeroCells Z.cells n).size = n * te.size := fun n => by rw [zeroCells_flat, List.size_toArray, flat_len, Array.length_toList, j5]
  split at ha3
  · rw [hx.nils_inv]
    cases hm : Nat.beq m 0 with
    | true =>
      rw [hm] at ha3
      cases ha3
      rw [nbeq_eq, decide_eq_true_eq] at hm
      refine ⟨_, _, src.none ty 0 0 (by omega), ?_⟩
      rw [hm]
      exact Post.same H .nils hd
    | false =>
      rw [hm] at ha3
      rw [nbeq_eq, decide_eq_false_iff_not] at hm
      obtain ⟨g1, g2, rfl, g4, g5, g6⟩ := growV_inv ha3
      have hg := src.grow ty none 0 0 #[] Z j4 (by simp only [Builtin.firstCells, Sem.run_pure]) (by omega) (by omega) (by rw [i3]; simpa using g1)
      refine ⟨_, _, hg, ?_⟩
      simp only [Nat.zero_add, Array.empty_append]
      have hge := grownCap_ge w m 0 el
      have := grown_post (need := m) (x := grownCap w m 0 el - m) (REST := Builtin.zeroCells Z.cells (grownCap w m 0 el - m)) H hd h0 s1 s2 (rest _) g4 g5 g6
      rwa [show m + (grownCap w m 0 el - m) = grownCap w m 0 el by omega] at this
  · obtain ⟨A, c, rfl, hc⟩ := hx.emp_inv
    have hc := hc rfl
    subst hc
    cases hm : Nat.beq m 0 with
    | true =>
      rw [hm] at ha3
      cases ha3
      rw [nbeq_eq, decide_eq_true_eq] at hm
      refine ⟨.slice (some A) 0 0, w, ?_, Post.same H (.emp true A 0 fun _ => rfl) hd⟩
      rw [src.room ty A 0 0 (by omega), nilNew hm, hm]
      rfl
    | false =>
      rw [hm] at ha3
      rw [nbeq_eq, decide_eq_false_iff_not] at hm
      obtain ⟨g1, g2, rfl, g4, g5, g6⟩ := growV_inv ha3
      have hg := src.grow ty (some A) 0 0 #[] Z j4 (by simp only [Builtin.firstCells, Nat.zero_mul, loadCells, loadCellsFrom, Sem.run_pure]) (by omega) (by omega) (by rw [i3]; simpa using g1)
      refine ⟨_, _, hg, ?_⟩
      simp only [Nat.zero_add, Array.empty_append]
      have hge := grownCap_ge w m 0 el
      have := grown_post (need := m) (x := grownCap w m 0 el - m) (REST := Builtin.zeroCells Z.cells (grownCap w m 0 el - m)) H hd h0 s1 s2 (rest _) g4 g5 g6
      rwa [show m + (grownCap w m 0 el - m) = grownCap w m 0 el by omega] at this
  · rename_i b off len cap tt
    rw [forceN_eq] at ha3
    obtain ⟨B, o, CAP, hμ, rfl, hcap⟩ := hx.sl_inv
    have hle : cap ≤ CAP := by rw [hcap]; cases tt <;> simp
    cases hr : Nat.ble (Nat.add len m) cap with
    | true =>
      rw [hr] at ha3
      rw [nble_eq, decide_eq_true_eq] at hr
      have hr : len + m ≤ cap := hr
      have hrun := src.room ty ⟨B, o + off, none⟩ len CAP (by omega)
      cases hm : Nat.beq m 0 with
      | true =>
        rw [hm] at ha3
        cases ha3
        rw [nbeq_eq, decide_eq_true_eq] at hm
        refine ⟨_, w, by rw [hrun, nilNew hm, hm]; rfl, Post.same H ?_ hd⟩
        exact .sl _ _ _ _ _ hμ hcap
      | false =>
        rw [hm] at ha3
        obtain ⟨h1, h2', h3⟩ := bnd_inv ha3
        cases h3
        obtain ⟨B', o', w', m', r1, r2, r3, r4⟩ := storeC_ok (P := P) H s1 s2 h2'
        rw [hμ] at m'
        cases m'
        refine ⟨_, w', ?_, g, r3, r2, .sl _ _ _ _ _ hμ hcap, by rw [r4]; exact hd⟩
        rw [hrun, addr_add, i2, Nat.add_assoc]
        have r1 : (storeCells ⟨B, o + (off + len * te.size), none⟩ NEW.toList 0).run P w = .ok () w' := r1
        rw [r1]
        rfl
    | false =>
      rw [hr] at ha3
      rw [nble_eq, decide_eq_false_iff_not] at hr
      have hr : ¬ len + m ≤ cap := hr
      cases tt with
      | true =>
        obtain ⟨old, k1, ha3⟩ := bnd_inv (show bnd (loadC h b off (Nat.mul len te.size)) _ = some _ from ha3)
        obtain ⟨all, k2, ha3⟩ := bnd_inv ha3
        rw [appS_eq] at k2
        cases k2
        obtain ⟨g1, g2, rfl, g4, g5, g6⟩ := growV_inv ha3
        obtain ⟨B', o', L, m', l1, l2, l3, l4⟩ := loadC_ok H k1
        rw [hμ] at m'
        cases m'
        have hCAP : CAP = cap := hcap
        subst hCAP
        have hl : L.length = len * i.size := by rw [l3.length, l1, i2]; rfl
        have hg := src.grow ty (some ⟨B, o + off, none⟩) len CAP L.toArray Z j4 (by
          simp only [Builtin.firstCells, ← hl]
          exact run_loadCells fun j V hj => (cell_heap rfl _).trans (l2 j V hj)) (by omega) (by omega) (by rw [i3]; exact g1)
        refine ⟨_, _, hg, ?_⟩
        have hge := grownCap_ge w (len + m) CAP el
        have := grown_post (need := len + m) (x := grownCap w (len + m) CAP el - (len + m)) (ALL := L.toArray ++ NEW) (REST := Builtin.zeroCells Z.cells (grownCap w (len + m) CAP el - (len + m))) H hd h0 (all := old ++ new) (by
          rw [Array.toList_append]; exact VRs.append s1 l3) (fun u hu => by
          rcases List.mem_append.1 hu with hu | hu
          · exact l4 u hu
          · exact s2 u hu) (rest _) g4 g5 g6
        rwa [show len + m + (grownCap w (len + m) CAP el - (len + m)) = grownCap w (len + m) CAP el by omega] at this
      | false =>
        obtain ⟨cs, ty', sz, lo, hi, anc, c1, ha3⟩ := getC_ok (show getC h b _ = some _ from ha3)
        obtain ⟨old, k1, ha3⟩ := bnd_inv ha3
        obtain ⟨all, k2, ha3⟩ := bnd_inv ha3
        rw [appS_eq] at k2
        cases k2
        obtain ⟨sz', k3, ha3⟩ := bnd_inv ha3
        subst k3
        obtain ⟨k4, ha3⟩ := ifB_none ha3
        obtain ⟨k5, ha3⟩ := ifB_none ha3
        obtain ⟨k6, ha3⟩ := ifB_none ha3
        obtain ⟨k7, ha3⟩ := ifB_none ha3
        obtain ⟨k7', ha3⟩ := ifB_none ha3
        obtain ⟨h1, k8, ha3⟩ := bnd_inv ha3
        obtain ⟨h3, k9, ha3⟩ := bnd_inv ha3
        obtain ⟨g1, g2, rfl, g4, g5, g6⟩ := growV_inv ha3
        rw [nbeq_eq, decide_eq_true_eq] at k4 k5 k6 k7'
        rw [lenL_zero] at k6
        have k7' := k7'.symm
        subst k4 k5 k7'
        have k6 : cap * te.size = cs.length := k6
        obtain ⟨t1, rfl⟩ := takeS_ok k1
        have t1 : len * te.size ≤ cs.length := t1
        have hlt : cap < len + m := by omega
        have hmul : cap * te.size ≤ (len + m) * te.size := Nat.mul_le_mul_right _ (by omega)
        have hsum : (len + m) * te.size = len * te.size + m * te.size := Nat.add_mul _ _ _
        have hlm := s1.length
        rw [s3] at hlm
        obtain ⟨B', o', CS, fz, q1, q2, q3, q4, q5, q6, q7⟩ := H.obj b _ c1
        rw [hμ] at q1
        obtain ⟨rfl, rfl⟩ : B = B' ∧ o = o' := by cases q1; exact ⟨rfl, rfl⟩
        have hCAP : CAP = cap + g.x b := hcap
        have q4' : CS.size = o + cs.length + g.x b * te.size := q4
        have hNEW : NEW.size = m * te.size := by rw [← Array.length_toList]; exact hlm
        -- what may lie in the same memory is let go
        obtain ⟨hf, f0⟩ := killAll_eq (anc.filter (· ≠ b)) h
        obtain ⟨f1, f2, f3⟩ := killAll_ok f0
        have H1 := H.let_go _ f1 f2
        obtain ⟨a1, a2, a3⟩ := killAll_ok k8
        obtain ⟨b1, b2, b3⟩ := Hp.set_ok k9
        have hfb : hf.get b = some (.cells cs el (some te.size) lo hi anc) := by rw [f1, if_neg (by simp), c1]
        have hn3 : h3.n = hf.n := b2.trans (a2.trans f2.symm)
        have hget3 : ∀ q, h3.get q = if q = b then some (.old (cs.take (len * te.size)) el) else hf.get q := by
          intro q
          rw [b1, a1, f1]
          by_cases hq : q = b
          · simp only [hq, if_true]; rfl
          · simp [hq]
        have hanc : ∀ c cs' ty', hf.get c = some (.old cs' ty') → c ∉ anc := fun c cs' ty' hc hm => by
          rw [f1] at hc
          by_cases hcb : c = b
          · rw [hcb, if_neg (by simp), c1] at hc; cases hc
          · rw [if_pos (by simp [hcb]; exact hm)] at hc; cases hc
        have hold : (cs.take (len * te.size)).length = len * te.size := by simp; omega
        have hone : ∀ u ∈ cs.take (len * te.size) ++ new, u.one = true := fun u hu => by
          rcases List.mem_append.1 hu with hu | hu
          · exact q6 u (List.mem_of_mem_take hu)
          · exact s2 u hu
        have holdv : VRs g (cs.take (len * te.size)) (((CS.toList.drop o).take cs.length).take (len * te.size)) := q5.take _
        by_cases hin : len + m ≤ CAP
        · -- in place
          have hrun := src.room ty ⟨B, o + 0, none⟩ len CAP hin
          have hx4 : (CAP - (len + m)) * te.size + (len + m) * te.size = cap * te.size + g.x b * te.size := by
            rw [← Nat.add_mul, ← Nat.add_mul]; congr 1; omega
          have hxs : o + (len + m) * te.size ≤ CS.size := by omega
          have hclr : hi ≤ lo ∨ len * te.size + m * te.size ≤ lo ∨ hi ≤ len * te.size := clear_ok k7
          have hst := run_stores (P := P) (B := B) (o := o + len * te.size) NEW.toList 0 CS w q3 (by omega) (fun k c1 c2 c3 => by
            have := q7.1 k (by omega) (by omega) c3.1 c3.2
            omega) fun V hV => by
            obtain ⟨j, hj⟩ := List.mem_iff_getElem?.1 hV
            have hltj := (List.getElem?_eq_some_iff.1 hj).1
            obtain ⟨v, hv⟩ : ∃ v, new[j]? = some v := ⟨new[j]'(by omega), by simp⟩
            obtain ⟨V', e1, e2⟩ := s1.at hv
            rw [hj] at e1
            cases e1
            exact e2.notAgg (s2 v (List.mem_of_getElem? hv))
          rw [Nat.add_zero] at hst
          have hov := over_range (CS := CS) (L := NEW.toList) (o := o) (off := len * te.size) (n := (len + m) * te.size) (by omega) hxs
          have htk : ((CS.toList.drop o).take ((len + m) * te.size)).take (len * te.size) = ((CS.toList.drop o).take cs.length).take (len * te.size) := by
            rw [List.take_take, List.take_take]; congr 1; omega
          have hnil : ((CS.toList.drop o).take ((len + m) * te.size)).drop (len * te.size + NEW.toList.length) = [] := List.drop_eq_nil_of_le (by simp; omega)
          rw [htk, hnil, List.append_nil] at hov
          have hle2 : g.Le (g.add hf.n B o (CAP - (len + m))) := Gh.add_le H1.fresh
          obtain ⟨p1, p2⟩ := H1.regrow (b := b) (o := .cells cs el (some te.size) lo hi anc) (on := .cells (cs.take (len * te.size) ++ new) el (some te.size) lo hi [b]) (oo := .old (cs.take (len * te.size)) el) (k := o) (x := CAP - (len + m))
            (O := .cells (over CS (o + len * te.size) NEW.toList) el fz) hfb rfl hμ q2 hanc (fun q => by rw [g4, hn3, hget3]; rfl) (by rw [g5, hn3]) rfl ⟨_, _, rfl⟩
            ⟨B, o, over CS (o + len * te.size) NEW.toList, fz, by simp [Gh.add], q2, by rw [World.putObj_heap_same (Array.getElem?_eq_some_iff.1 q3).1], by
              simp only [Gh.add, if_true, List.length_append, hold, s3]
              rw [over_size (by rw [hlm]; omega), q4']
              omega, by
              rw [List.length_append, hold, s3, ← hsum, hov]
              exact (VRs.append s1 holdv).mono hle2, hone, by
              rw [over_size (by rw [hlm]; omega), List.length_append, hold, s3]
              exact ⟨fun k c1 c2 c3 c4 => by
                have := q7.1 k c1 c2 c3 c4
                omega, q7.2⟩⟩
            ⟨B, o, over CS (o + len * te.size) NEW.toList, fz, hle2.μ _ _ hμ, by rw [World.putObj_heap_same (Array.getElem?_eq_some_iff.1 q3).1], by rw [over_size (by rw [hlm]; omega), hold]; omega, by
              have e1 : (List.drop o (over CS (o + len * te.size) NEW.toList).toList).take (len * te.size) = ((List.drop o (over CS (o + len * te.size) NEW.toList).toList).take ((len + m) * te.size)).take (len * te.size) := by
                rw [List.take_take]; congr 1; omega
              have e2 : List.take (len * te.size) (List.take (len * te.size) (List.take cs.length (List.drop o CS.toList))) = List.take (len * te.size) (List.take cs.length (List.drop o CS.toList)) := by rw [List.take_take, Nat.min_self]
              rw [hold, e1, hov, List.take_append_of_le_length (by rw [holdv.length, hold]; exact Nat.le_refl _), e2]
              exact holdv.mono hle2, fun u hu => q6 u (List.mem_of_mem_take hu)⟩
          refine ⟨.slice (some ⟨B, o, none⟩) (len + m) CAP, _, ?_, _, p2, p1, ?_, by rw [g6, b3, a3]; exact hd.mono hle2⟩
          · rw [hrun, addr_add, i2, Nat.add_zero, hst]
            rfl
          · have := sl_grown (g := g) (B := B) (o := o) (x := CAP - (len + m)) (n := len + m) (h := hf)
            rw [show len + m + (CAP - (len + m)) = CAP by omega] at this
            rw [hn3]
            exact this
        · -- a new block
          have H3 : HR cx g h3 w n0 := H1.to_old hfb rfl hget3 hn3 ⟨B, o, CS, fz, hμ, q3, by rw [hold]; omega, by
            rw [hold]
            have e1 : (List.drop o CS.toList).take (len * te.size) = ((List.drop o CS.toList).take cs.length).take (len * te.size) := by rw [List.take_take]; congr 1; omega
            rw [e1]
            exact holdv, fun u hu => q6 u (List.mem_of_mem_take hu)⟩
          have hL : (((CS.toList.drop o).take cs.length).take (len * te.size)).length = len * i.size := by rw [holdv.length, hold, i2]
          have hg := src.grow ty (some ⟨B, o + 0, none⟩) len CAP (((CS.toList.drop o).take cs.length).take (len * te.size)).toArray Z j4 (by
            simp only [Builtin.firstCells, ← hL]
            refine run_loadCells fun j V hj => (cell_heap (w := w) (w' := w.drew) rfl _).trans ?_
            rw [cell_of q3]
            have hltj := (List.getElem?_eq_some_iff.1 hj).1
            simp only [List.getElem?_take, List.getElem?_drop, Array.getElem?_toList] at hj
            split at hj
            · split at hj
              · rw [← hj]; congr 1
              · cases hj
            · cases hj) (by omega) (by omega) (by rw [i3]; exact g1)
          refine ⟨_, _, hg, ?_⟩
          have hge := grownCap_ge w (len + m) CAP el
          have := grown_post (need := len + m) (x := grownCap w (len + m) CAP el - (len + m)) (ALL := (((CS.toList.drop o).take cs.length).take (len * te.size)).toArray ++ NEW) (REST := Builtin.zeroCells Z.cells (grownCap w (len + m) CAP el - (len + m))) H3 (ds := ds) (by rw [b3, a3]; exact hd) h0 (all := cs.take (len * te.size) ++ new) (by
            rw [Array.toList_append]; exact VRs.append s1 holdv) hone (rest _) g4 g5 g6
          rwa [show len + m + (grownCap w (len + m) CAP el - (len + m)) = grownCap w (len + m) CAP el by omega] at this
  · cases ha3
end
end Go.E
end

section
/- E: what is built in; conversions; functions without a text. No condition. -/
namespace Go.E
open Go Go.RowKit

/-- A live block that is told of otherwise; its cells stay. -/
theorem HR.thaw {cx : Ctx} {g : Gh} {h h' : Hp} {w : World} {n0 : Nat} (H : HR cx g h w n0) {b : Ps} {o o' : RO} {B k : Nat} {CS : Array Value} {ty : TypeId} {fz fz' : Nat × Nat} (hb : h.get b = some o) (hl : o.live = true) (hμ : g.μ b = some (B, k)) (hB : n0 ≤ B)
    (hh : w.heap[B]? = some (.cells CS ty fz)) (hget : ∀ q, h'.get q = if q = b then some o' else h.get q) (hn : h'.n = h.n) (hl' : o'.live = true) (ha : o'.anc = o.anc) (ho : OR cx g (w.putObj B (.cells CS ty fz')) n0 b o') :
    HR cx g h' (w.putObj B (.cells CS ty fz')) n0 ∧ Ext n0 g w g (w.putObj B (.cells CS ty fz')) := by
  have hbk : blk g b = some B := by simp [blk, hμ]
  have hB' := (Array.getElem?_eq_some_iff.1 hh).1
  refine ⟨⟨fun c oc hc => ?_, fun c c' o1 o2 h1 h2 l1 l2 hne => ?_, fun c c' o1 cs ty h1 l1 h2 he => ?_, fun c C k' hc => by simp only [World.putObj_size]; exact H.lt c C k' hc, by rw [hn]; exact H.dom, H.glb, H.base.put hB _⟩,
    ⟨.refl g, by simp, fun c C k' hc => .inl ⟨c, k', hc⟩, fun C _ hne => World.putObj_heap_other fun e => by
      rcases hne with hne | hne
      · omega
      · exact hne b k (by rw [e]; exact hμ), rfl, rfl, rfl⟩⟩
  · rw [hget] at hc
    by_cases hq : c = b
    · rw [if_pos hq] at hc; cases hc; rw [hq]; exact ho
    · rw [if_neg hq] at hc
      by_cases hcB : blk g c = some B
      · cases hlc : oc.live with
        | true => exact absurd (hcB.trans hbk.symm) (H.sep c b oc o hc hb hlc hl hq)
        | false =>
          cases oc with
          | old cs ty =>
            obtain ⟨B1, o1, CS1, fz1, e1, e2, e3, e4, e5⟩ := H.obj c _ hc
            have : B1 = B := by simp [blk, e1] at hcB; exact hcB
            subst this
            rw [hh] at e2
            cases e2
            exact ⟨B1, o1, CS, fz', e1, World.putObj_heap_same hB', e3, e4, e5⟩
          | dead => trivial
          | _ => cases hlc
      · exact (H.obj c oc hc).keep (.refl g) fun C hC => World.putObj_heap_other fun e => hcB (by rw [hC, e])
  · rw [hget] at h1 h2
    by_cases hq : c = b
    · by_cases hq' : c' = b
      · exact absurd (hq.trans hq'.symm) hne
      · rw [if_neg hq'] at h2
        rw [hq]
        exact fun he => H.sep b c' o o2 hb h2 hl l2 (fun e => hq' e.symm) he
    · rw [if_neg hq] at h1
      by_cases hq' : c' = b
      · rw [hq']
        exact fun he => H.sep c b o1 o h1 hb l1 hl hq he
      · rw [if_neg hq'] at h2
        exact H.sep c c' o1 o2 h1 h2 l1 l2 hne
  · rw [hget] at h1 h2
    by_cases hq' : c' = b
    · rw [if_pos hq'] at h2; cases h2; cases hl'
    · rw [if_neg hq'] at h2
      by_cases hq : c = b
      · rw [hq] at he h1
        rw [if_pos rfl] at h1
        cases h1
        rw [ha]
        exact H.old b c' o cs ty hb hl h2 he
      · rw [if_neg hq] at h1
        exact H.old c c' o1 cs ty h1 l1 h2 he
section
variable {P : Program} {cx : Ctx} {n0 : Nat} {g : Gh} {h : Hp} {w : World} {ds : List Deferred} {F : Fence}

theorem two_of {xs : List RV} {x z : RV} {XS : Array Value} (h : VRs g xs XS.toList) (hx : xs = [x, z]) : ∃ X Z, XS = #[X, Z] ∧ VR g x X ∧ VR g z Z := by
  subst hx
  cases XS with
  | mk l =>
    cases h with
    | cons h1 hs => cases hs with
      | cons h2 hs => cases hs; exact ⟨_, _, rfl, h1, h2⟩
theorem one_of {xs : List RV} {x : RV} {XS : Array Value} (h : VRs g xs XS.toList) (hx : xs = [x]) : ∃ X, XS = #[X] ∧ VR g x X := by
  subst hx
  cases XS with
  | mk l =>
    cases h with
    | cons h1 hs => cases hs; exact ⟨_, rfl, h1⟩
theorem three_of {xs : List RV} {x y z : RV} {XS : Array Value} (h : VRs g xs XS.toList) (hx : xs = [x, y, z]) : ∃ X Y Z, XS = #[X, Y, Z] ∧ VR g x X ∧ VR g y Y ∧ VR g z Z := by
  subst hx
  cases XS with
  | mk l =>
    cases h with
    | cons h1 hs => cases hs with
      | cons h2 hs => cases hs with
        | cons h3 hs => cases hs; exact ⟨_, _, _, rfl, h1, h2, h3⟩
theorem head_of {xs : List RV} {x : RV} {r : List RV} {XS : Array Value} (h : VRs g xs XS.toList) (hx : xs = x :: r) : ∃ X, XS[0]? = some X ∧ VR g x X := by
  subst hx
  cases XS with
  | mk l =>
    cases h with
    | cons h1 hs => exact ⟨_, rfl, h1⟩
theorem ts_head {ts : Array TypeId} {t : TypeId} {r : List TypeId} (h : ts.toList = t :: r) : ts[0]? = some t := by
  rw [← Array.getElem?_toList, h]; rfl
theorem ts_two {ts : Array TypeId} {t t2 : TypeId} (h : ts.toList = [t, t2]) : ts = #[t, t2] := by
  cases ts; simp_all
theorem ERs.length : ∀ {es : List (RV × RV × Nat)} {ES : List MapEntry}, ERs g es ES → ES.length = es.length
  | _, _, .nil => rfl
  | _, _, .cons _ _ hs => by simp [ERs.length hs]
theorem run_map (H : HR cx g h w n0) {r : Ps} {es : List (RV × RV × Nat)} {c : Nat} (hr : h.get r = some (.map es c)) : ∃ R ES, g.μ r = some (R, 0) ∧ n0 ≤ R ∧ w.heap[R]? = some (.map ES c) ∧ ERs g es ES.toList ∧ (getObj R).run P w = .ok (.map ES c) w := by
  obtain ⟨R, ES, h1, h2, h3, h4⟩ := H.obj r _ hr
  exact ⟨R, ES, h1, h2, h3, h4, by simp [getObj, Sem.run, h3]⟩
theorem goInt_eq (n : Nat) : VR g (.int .i64 (.ofNat n)) (goInt n) := .int _ _
theorem len_ok (hT : TOk P cx.Γ) (H : HR cx g h w n0) {t ty : TypeId} {ts : Array TypeId} {x v : RV} {XS : Array Value} {X : Value} (ht : ts[0]? = some t) (hX : XS[0]? = some X) (hx : VR g x X) (hv : lenV cx.Γ h t x = some v) :
    ∃ V, (Builtin.len_ ts ty XS).run P w = .ok V w ∧ VR g v V := by
  obtain ⟨tt, h1, h2⟩ := bnd_inv hv
  split at h2
  · rename_i hk
    have u := ty_str hT h1 hk
    split at h2
    · rename_i l
      obtain ⟨s, rfl, e1⟩ := hx.str_inv
      unfold goN at h2
      rw [forceN_eq, lenL_zero] at h2
      cases h2
      refine ⟨goInt s.size, ?_, by rw [size_of_bytes e1]; exact goInt_eq _⟩
      simp only [Builtin.len_, ht, hX, Sem.run_bind, run_underlying u, Result.andThen_ok, Sem.run_pure]
    · rename_i n q l xs
      obtain ⟨s, rfl, hl⟩ := hx.ops_len
      obtain ⟨h3, h4⟩ := ifB_none h2
      cases h4
      have hq : 1002 ≤ q := Nat.le_of_ble_eq_true h3
      obtain ⟨e1, e2⟩ := hl q l xs rfl hq
      refine ⟨goInt s.size, ?_, ?_⟩
      · simp only [Builtin.len_, ht, hX, Sem.run_bind, run_underlying u, Result.andThen_ok, Sem.run_pure]
      · have e3 : goInt s.size = .int .i64 s.size := rfl
        rw [e3]
        exact .opq _ _ e1 e2 ⟨fun _ h => (by cases h), fun _ h => (by cases h)⟩
    · cases h2
  · rename_i el hk
    have u := ty_sl hT h1 hk
    split at h2
    · cases h2
      rw [hx.nils_inv] at hX
      exact ⟨goInt 0, by simp only [Builtin.len_, ht, hX, Sem.run_bind, run_underlying u, Result.andThen_ok, Sem.run_pure]; rfl, goInt_eq _⟩
    · cases h2
      obtain ⟨A, c, rfl, _⟩ := hx.emp_inv
      exact ⟨goInt 0, by simp only [Builtin.len_, ht, hX, Sem.run_bind, run_underlying u, Result.andThen_ok, Sem.run_pure]; rfl, goInt_eq _⟩
    · rename_i n _ _
      cases h2
      obtain ⟨B, o, CAP, _, rfl, _⟩ := hx.sl_inv
      exact ⟨goInt n, by simp only [Builtin.len_, ht, hX, Sem.run_bind, run_underlying u, Result.andThen_ok, Sem.run_pure], goInt_eq _⟩
    · cases h2
  · rename_i a b hk
    have u := ty_map hT h1 hk
    split at h2
    · cases h2
      rw [hx.nilm_inv] at hX
      exact ⟨goInt 0, by simp only [Builtin.len_, ht, hX, Sem.run_bind, run_underlying u, Result.andThen_ok, Sem.run_pure], goInt_eq _⟩
    · rename_i r
      obtain ⟨es, c, h3, h4⟩ := getM_ok h2
      unfold goN at h4
      rw [forceN_eq, lenL_zero] at h4
      cases h4
      obtain ⟨R, ES, r1, _, _, r4, r5⟩ := run_map (P := P) H h3
      obtain ⟨R', r1', rfl⟩ := hx.map_inv
      rw [r1] at r1'
      cases r1'
      refine ⟨goInt ES.size, ?_, by rw [← Array.length_toList, r4.length]; exact goInt_eq _⟩
      simp only [Builtin.len_, ht, hX, Sem.run_bind, run_underlying u, r5, Result.andThen_ok, Sem.run_pure]
    · cases h2
  · rename_i n el hk
    have u := ty_ar hT h1 hk
    cases h2
    exact ⟨goInt n, by simp only [Builtin.len_, ht, hX, Sem.run_bind, run_underlying u, Result.andThen_ok, Sem.run_pure], goInt_eq _⟩
  · cases h2
theorem numsS_ok : ∀ {cs : List RV} {l : List Nat}, numsS cs = some l → ∃ bs : List UInt8, bs.map UInt8.toNat = l ∧ cs = bs.map fun b => RV.int .u8 (.ofNat b.toNat)
  | [], l, h => by cases h; exact ⟨[], rfl, rfl⟩
  | c :: cs, l, h => by
    unfold numsS at h
    split at h
    · rename_i heq; cases heq
    · rename_i n r heq
      cases heq
      obtain ⟨h1, h2⟩ := ifB_none h
      obtain ⟨q, h3, h4⟩ := bnd_inv h2
      cases h4
      obtain ⟨bs, e1, e2⟩ := numsS_ok h3
      rw [nblt_eq, decide_eq_true_eq] at h1
      refine ⟨UInt8.ofNat n :: bs, ?_, ?_⟩
      · simp only [List.map_cons, e1, UInt8.toNat_ofNat']
        rw [Nat.mod_eq_of_lt h1]
      · simp only [List.map_cons, ← e2, UInt8.toNat_ofNat']
        rw [Nat.mod_eq_of_lt h1]
    · cases h
theorem run_loadBytes {B : Nat} : ∀ (bs : List UInt8) (o : Nat) (acc : ByteArray), (∀ (j : Nat) (b : UInt8), bs[j]? = some b → w.cell? ⟨B, o + j, none⟩ = some (.int .u8 b.toNat)) →
    ∃ s, (loadBytes ⟨B, o, none⟩ acc bs.length).run P w = .ok s w ∧ s.data.toList = acc.data.toList ++ bs
  | [], o, acc, _ => ⟨acc, by simp [loadBytes], by simp⟩
  | b :: bs, o, acc, hc => by
    have h0 := hc 0 b rfl
    rw [Nat.add_zero] at h0
    obtain ⟨s, h1, h2⟩ := run_loadBytes bs (o + 1) (acc.push b) fun j c hj => by
      have := hc (j + 1) c (by simpa using hj)
      rwa [show o + (j + 1) = o + 1 + j by omega] at this
    refine ⟨s, ?_, by rw [h2]; simp [ByteArray.data_push]⟩
    simp only [List.length_cons, loadBytes, Sem.run_bind, run_load1 h0, Result.andThen_ok, addr_add]
    have : ((b.toNat : Int)).toNat.toUInt8 = b := by simp
    rw [this]
    exact h1
/-- Frozen bounds, wider. -/
def frz (fz : Nat × Nat) (o n : Nat) : Nat × Nat := if fz.1 == fz.2 then (o, o + n) else (min fz.1 o, max fz.2 (o + n))
theorem freeze_eq {B o n : Nat} {CS : Array Value} {ty : TypeId} {fz : Nat × Nat} (hh : w.heap[B]? = some (.cells CS ty fz)) (hn : n ≠ 0) : w.freeze ⟨B, o, none⟩ n = w.putObj B (.cells CS ty (frz fz o n)) := by
  unfold World.freeze World.putObj
  rw [if_neg hn]
  congr 1
  apply Array.ext_getElem?
  intro k
  rw [Array.getElem?_modify, Array.getElem?_setIfInBounds]
  by_cases hk : B = k
  · subst hk
    have hB := (Array.getElem?_eq_some_iff.1 hh).1
    have hB' : w.heap[B] = .cells CS ty fz := (Array.getElem?_eq_some_iff.1 hh).2
    simp [hB, hB', frz]
  · simp [hk]
theorem liesAt_row {d : Nat} {ty : TypeId} {count o n : Nat} (hs : P.cellsOf ty = 1) (hd : P.depth = d + 1) (hle : o + n ≤ count) : liesAt P P.depth ty count o ty n = true := by
  have hf : ∀ k, sameLayout P (k + 1) ty ty = true := fun k => by unfold sameLayout; simp
  have hr : rowAt P (sameLayout P P.depth · ty) P.depth ty count o n = true := by
    rw [hd]
    unfold rowAt
    simp only [hs, hf, Nat.one_ne_zero, if_false, Nat.div_one, Nat.mod_one, beq_self_eq_true, hle, decide_true, Bool.and_self, Bool.true_or]
  have : liesAt P (d + 1) ty count o ty n = true := by
    unfold liesAt
    rw [hr]
    simp
  rw [hd]; exact this
theorem depth_pos (P : Program) : ∃ d, P.depth = d + 1 := ⟨_, rfl⟩
theorem cellsOf_eq {t : TypeId} {i : TypeInfo} (h : P.info? t = some i) : P.cellsOf t = i.size := by unfold Program.cellsOf; rw [h]; rfl
theorem Fz.freeze {fz : Nat × Nat} {o n len hi m : Nat} (h : Fz fz o n len 0 hi) (hml : m ≤ len) (hn : o + len ≤ n) : Fz (frz fz o m) o n len 0 (max m hi) := by
  obtain ⟨h1, h2, h3⟩ := h
  unfold frz
  by_cases he : fz.1 = fz.2
  · rw [if_pos (by simpa using he)]
    refine ⟨fun i c1 c2 c3 c4 => ?_, by simp, fun _ _ => by simp only; omega⟩
    simp only at c3 c4
    omega
  · rw [if_neg (by simpa using he)]
    have hf := h3 rfl (by omega)
    refine ⟨fun i c1 c2 c3 c4 => ?_, by simp only; omega, fun _ _ => by simp only; omega⟩
    simp only at c3 c4
    by_cases hi1 : i < o + m
    · omega
    · by_cases hi2 : fz.1 ≤ i
      · have := h1 i c1 c2 hi2 (by omega)
        omega
      · have := h1 fz.1 (by omega) hf (Nat.le_refl _) (by omega)
        omega
theorem uString_ok (hT : TOk P cx.Γ) (H : HR cx g h w n0) (hd : DR g h.df ds) {b : Ps} {off n : Nat} {u pt it ty : TypeId} {v : RV} {h' : Hp} {B o : Nat} {kk : IntKind} (hμ : g.μ b = some (B, o)) (hp : P.underlying pt = some (.pointer u)) (hn : n ≤ 1000000000) (hs : uString cx.Γ h u b off n = some ⟨v, h'⟩) :
    ∃ V w', (Builtin.unsafeString_ #[pt, it] ty #[.pointer (some ⟨B, o + off, none⟩), .int kk (Int.ofNat n)]).run P w = .ok V w' ∧ Post cx n0 g w h' v V ds w' := by
  have hmax : ¬ ((Int.ofNat n) > IntKind.i64.max) := by
    simp only [IntKind.max, IntKind.signed, IntKind.bits, if_true, Int.ofNat_eq_natCast]; omega
  have hneg : ¬ ((Int.ofNat n) < 0) := by simp
  unfold uString at hs
  cases h0 : Nat.beq n 0 with
  | true =>
    rw [h0] at hs
    cases hs
    rw [nbeq_eq, decide_eq_true_eq] at h0
    refine ⟨.string .empty, w, ?_, Post.same H (.str [] .empty rfl) hd⟩
    show (Bind.bind (Go.asInt (.int kk (Int.ofNat n))) _ : Sem _).run P w = _
    simp only [Go.asInt, asIntOf, Sem.run_bind, Sem.run_pure, Result.andThen_ok, if_neg hneg, if_neg hmax]
    show Sem.run P (ite (Int.ofNat n = 0) _ _) w = _
    rw [if_pos (by rw [h0]; rfl)]
    rfl
  | false =>
    rw [h0] at hs
    rw [nbeq_eq, decide_eq_false_iff_not] at h0
    obtain ⟨cs, ty0, sz, lo, hi, anc, c1, c2⟩ := getC_ok (show getC h b _ = some _ from hs)
    obtain ⟨ty', c3, c4⟩ := bnd_inv c2
    obtain ⟨c5, c6⟩ := ifB_none c4
    obtain ⟨c7, c8⟩ := ifB_none c6
    obtain ⟨c9, c10⟩ := ifB_none c8
    obtain ⟨l, c11, c12⟩ := bnd_inv c10
    obtain ⟨l', c13, c14⟩ := bnd_inv c12
    obtain ⟨c15, c16⟩ := ifB_none c14
    obtain ⟨h1, c17, c18⟩ := bnd_inv c16
    cases c18
    rw [nbeq_eq, decide_eq_true_eq] at c5 c7 c9 c15
    subst c7 c9 c15
    obtain ⟨B', o', CS, fz, q1, q2, q3, q4, q5, q6, q7⟩ := H.obj b _ c1
    rw [hμ] at q1
    obtain ⟨rfl, rfl⟩ : B = B' ∧ o = o' := by cases q1; exact ⟨rfl, rfl⟩
    obtain ⟨t1, rfl⟩ := takeS_ok c11
    obtain ⟨bs, e1, e2⟩ := numsS_ok c13
    obtain ⟨i, i1, i2, _⟩ := size_inv hT c3
    have hsz : o + cs.length ≤ CS.size := by
      have := q5.length
      simp only [List.length_take, List.length_drop, Array.length_toList] at this
      cases sz with
      | none => simp only at q4; omega
      | some s => simp only at q4; omega
    have hbl : bs.length = n := by
      have := congrArg List.length e2
      simp at this
      omega
    have hcell : ∀ (j : Nat) (c : UInt8), bs[j]? = some c → w.cell? ⟨B, o + 0 + j, none⟩ = some (.int .u8 c.toNat) := fun j c hj => by
      rw [cell_of q3]
      have hlt := (List.getElem?_eq_some_iff.1 hj).1
      have : cs[j]? = some (.int .u8 (.ofNat c.toNat)) := by
        have h2 : (cs.take n)[j]? = some (.int .u8 (.ofNat c.toNat)) := by rw [e2, List.getElem?_map, hj]; rfl
        rw [List.getElem?_take, if_pos (by omega)] at h2
        exact h2
      obtain ⟨V, v1, v2⟩ := cells_at q5 this
      rw [Nat.add_zero, v1, v2.int_inv]
      rfl
    obtain ⟨s, s1, s2⟩ := run_loadBytes (P := P) (w := w) bs (o + 0) .empty hcell
    rw [hbl] at s1
    obtain ⟨d, hdp⟩ := depth_pos P
    have hlies : liesAt P P.depth ty0 (CS.size / P.cellsOf ty0) (o + 0) ty0 n = true := by
      have hc1 : P.cellsOf ty0 = 1 := by rw [cellsOf_eq i1, i2, c5]
      rw [hc1, Nat.div_one]
      exact liesAt_row hc1 hdp (by omega)
    have hshape : (shape B).run P w = .ok (some (ty0, CS.size)) w := by simp [World.shape?, q3]
    have hrun : (Builtin.unsafeString_ #[pt, it] ty #[.pointer (some ⟨B, o + 0, none⟩), .int kk (Int.ofNat n)]).run P w = .ok (.string s) (w.putObj B (.cells CS ty0 (frz fz o n))) := by
      show (Bind.bind (Go.asInt (.int kk (Int.ofNat n))) _ : Sem _).run P w = _
      simp only [Go.asInt, asIntOf, Sem.run_bind, Sem.run_pure, Result.andThen_ok, if_neg hneg, if_neg hmax]
      show Sem.run P (ite (Int.ofNat n = 0) _ _) w = _
      rw [if_neg (by simp; omega)]
      simp only [elemOf, List.getElem_toArray, List.getElem_cons_zero, variablesAt, Sem.run_bind, run_underlying hp, run_program, hshape, Result.andThen_ok, Sem.run_pure, Int.ofNat_eq_natCast, Int.toNat_natCast, hlies, if_true, s1, run_freeze]
      rw [Nat.add_zero, freeze_eq q3 h0]
    obtain ⟨b1, b2, b3⟩ := Hp.set_ok c17
    have hmx : ifB (Nat.ble hi n) n hi = max n hi := by
      rw [nble_eq, ifB_eq]
      by_cases hx : hi ≤ n
      · simp [hx]; try omega
      · simp [hx]; try omega
    obtain ⟨p1, p2⟩ := H.thaw (o' := .cells cs ty0 sz 0 (ifB (Nat.ble hi n) n hi) anc) (fz' := frz fz o n) c1 rfl hμ q2 q3 b1 b2 rfl rfl
      ⟨B, o, CS, frz fz o n, hμ, q2, by rw [World.putObj_heap_same (Array.getElem?_eq_some_iff.1 q3).1], q4, q5, q6, by rw [hmx]; exact q7.freeze t1 hsz⟩
    refine ⟨_, _, hrun, g, p2, p1, .str _ _ ?_, by rw [b3]; exact hd⟩
    rw [s2]
    exact e1
end
end Go.E
end
