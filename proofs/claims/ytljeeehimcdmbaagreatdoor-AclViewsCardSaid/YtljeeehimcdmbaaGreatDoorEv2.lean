/- A verified evaluator of the program's code, part 2: definitions and laws. No condition. -/
import Derived.Test.YtljeeehimcdmbaaGreatDoorEv1
import Derived.ChangeKeysEq
import Derived.MapKept
import Derived.WideKeyRuns
import Derived.Laws.BytesString
import Derived.Lib.OthersKept
import Derived.Laws.IdiomRangeMap
import Derived.Lib.Bytealg
set_option linter.unusedVariables false
set_option linter.unusedSimpArgs false
section
/- E: structs, arrays and keys held against each other. No condition. -/
namespace Go.E
open Go Go.RowKit

theorem eqKs_ok : ∀ {ks : List EK} {l m : List RV} {r : Bool}, eqKs ks l m = some r → l.length = ks.length ∧ m.length = ks.length
  | [], [], [], _, _ => ⟨rfl, rfl⟩
  | [], [], _ :: _, _, h => by cases h
  | [], _ :: _, _, _, h => by cases h
  | _ :: _, [], _, _, h => by cases h
  | _ :: _, _ :: _, [], _, h => by cases h
  | k :: ks, a :: l, b :: m, r, h => by
    obtain ⟨x, _, h2⟩ := bnd_inv (show bnd (eqK k a b) (fun x => bnd (eqKs ks l m) fun y => some (ifB x y false)) = some r from h)
    obtain ⟨y, h3, _⟩ := bnd_inv h2
    obtain ⟨h4, h5⟩ := eqKs_ok h3
    exact ⟨by simp [h4], by simp [h5]⟩
theorem eqKs_app : ∀ {k1 k2 : List EK} {l m : List RV} {r : Bool}, eqKs (k1 ++ k2) l m = some r →
    ∃ r1 r2, eqKs k1 (l.take k1.length) (m.take k1.length) = some r1 ∧ eqKs k2 (l.drop k1.length) (m.drop k1.length) = some r2 ∧ r = (r1 && r2)
  | [], k2, l, m, r, h => ⟨true, r, rfl, by simpa using h, by simp⟩
  | k :: k1, k2, [], m, r, h => by cases h
  | k :: k1, k2, _ :: _, [], r, h => by cases h
  | k :: k1, k2, a :: l, b :: m, r, h => by
    obtain ⟨x, h1, h2⟩ := bnd_inv (show bnd (eqK k a b) (fun x => bnd (eqKs (k1 ++ k2) l m) fun y => some (ifB x y false)) = some r from h)
    obtain ⟨y, h3, h4⟩ := bnd_inv h2
    cases h4
    obtain ⟨r1, r2, e1, e2, e3⟩ := eqKs_app h3
    refine ⟨ifB x r1 false, r2, ?_, by simpa using e2, ?_⟩
    · show bnd (eqK k a b) (fun x => bnd (eqKs k1 (l.take k1.length) (m.take k1.length)) fun y => some (ifB x y false)) = _
      rw [h1, bnd_mk, e1, bnd_mk]
    · subst e3
      cases x <;> simp
theorem flatS_ok {n : Nat} {o : Option (List EK)} {l : List EK} (h : flatS n o = some l) : o = some l ∧ l.length = n := by
  obtain ⟨a, h1, h2⟩ := bnd_inv h
  obtain ⟨h3, h4⟩ := ifB_none h2
  cases h4
  rw [nbeq_eq, decide_eq_true_eq, lenL_zero] at h3
  exact ⟨h1, h3⟩
theorem flatK_inv {Γ : Tys} {d : Nat} {t : TypeId} {ks : List EK} (h : flatK Γ (d + 1) t = some ks) : ∃ ty, Γ.ty t = some ty ∧ flatE (flatK Γ d) ty.k = some ks ∧ ks.length = ty.size := by
  obtain ⟨ty, h1, h2⟩ := bnd_inv (show bnd (Γ.ty t) (fun ty => flatS ty.size (flatE (flatK Γ d) ty.k)) = some ks from h)
  obtain ⟨h3, h4⟩ := flatS_ok h2
  exact ⟨ty, h1, h3, h4⟩
theorem flatFs_cons {z : TypeId → Option (List EK)} {f : Nat × TypeId} {r : List (Nat × TypeId)} {n : Nat} {ks : List EK} (h : flatFs z (f :: r) n = some ks) : f.1 = n ∧ ∃ k1 k2, z f.2 = some k1 ∧ flatFs z r (n + k1.length) = some k2 ∧ ks = k1 ++ k2 := by
  obtain ⟨h1, h2⟩ := ifB_none (show ifB (Nat.beq f.1 n) (bnd (z f.2) fun l => forceN (lenL l n) fun n => bnd (flatFs z r n) fun m => appS l m) none = some ks from h)
  obtain ⟨k1, h3, h4⟩ := bnd_inv h2
  rw [forceN_eq, lenL_eq] at h4
  obtain ⟨k2, h5, h6⟩ := bnd_inv h4
  rw [appS_eq] at h6
  cases h6
  rw [nbeq_eq, decide_eq_true_eq] at h1
  exact ⟨h1, k1, k2, h3, h5, rfl⟩
/-- What is asked of the program of a type of plain parts. -/
noncomputable def qChk (P : Program) (t : TypeId) : Bool := !(P.eqGuardType P.depth t) && (match P.underlying t with
  | some (.struct fs) => fs.toList.all (fun f => f.name != "_") && !(P.stoodInHeld t)
  | _ => true)
noncomputable def qAll (P : Program) (Γ : Tys) : Bool := Γ.allP fun p _ => Option.rec true (fun _ => qChk P p.num) (flatK Γ 5 p.num)
theorem flatFs_mono {z z' : TypeId → Option (List EK)} (hz : ∀ t ks, z t = some ks → z' t = some ks) : ∀ {fs : List (Nat × TypeId)} {n : Nat} {ks : List EK}, flatFs z fs n = some ks → flatFs z' fs n = some ks
  | [], _, _, h => h
  | f :: r, n, ks, h => by
    obtain ⟨h1, k1, k2, h2, h3, rfl⟩ := flatFs_cons h
    have h4 := flatFs_mono hz h3
    show ifB (Nat.beq f.1 n) (bnd (z' f.2) fun l => forceN (lenL l n) fun n => bnd (flatFs z' r n) fun m => appS l m) none = _
    have hb : Nat.beq f.1 n = true := by rw [nbeq_eq, decide_eq_true_eq]; exact h1
    rw [hb, ifB_true, hz _ _ h2, bnd_mk, forceN_eq, lenL_eq, h4, bnd_mk, appS_eq]
theorem flatSt_ok {z : TypeId → Option (List EK)} {fs : List (Nat × TypeId)} {ks : List EK} (h : flatSt z fs = some ks) : flatFs z fs 0 = some ks := by
  cases fs with
  | nil => cases h
  | cons f r => exact h
theorem flatK_mono {Γ : Tys} : ∀ {d : Nat} {t : TypeId} {ks : List EK}, flatK Γ d t = some ks → flatK Γ (d + 1) t = some ks
  | 0, _, _, h => by cases h
  | d + 1, t, ks, h => by
    obtain ⟨ty, h1, h2, h3⟩ := flatK_inv h
    have ih : ∀ t ks, flatK Γ d t = some ks → flatK Γ (d + 1) t = some ks := fun t ks h => flatK_mono h
    have h4 : flatE (flatK Γ (d + 1)) ty.k = some ks := by
      cases hk : ty.k with
      | ar n e =>
        rw [hk] at h2
        obtain ⟨l, h5, h6⟩ := bnd_inv (show bnd (flatK Γ d e) (fun l => repL l n) = some ks from h2)
        show bnd (flatK Γ (d + 1) e) (fun l => repL l n) = some ks
        rw [ih _ _ h5, bnd_mk]
        exact h6
      | st fs =>
        rw [hk] at h2
        have h2 : flatSt (flatK Γ d) fs = some ks := h2
        cases fs with
        | nil => cases h2
        | cons f r => exact flatFs_mono ih (flatSt_ok h2)
      | _ => rw [hk] at h2; exact h2
    show bnd (Γ.ty t) (fun ty => flatS ty.size (flatE (flatK Γ (d + 1)) ty.k)) = some ks
    rw [h1, bnd_mk, h4]
    show ifB (Nat.beq (lenL ks 0) ty.size) (some ks) none = some ks
    rw [lenL_zero, h3, nbeq_eq]
    simp
theorem flatK_five {Γ : Tys} {t : TypeId} {ks : List EK} : ∀ (j : Nat) {d : Nat}, d + j = 5 → flatK Γ d t = some ks → flatK Γ 5 t = some ks
  | 0, d, hd, h => by obtain rfl : d = 5 := hd; exact h
  | j + 1, d, hd, h => flatK_five j (d := d + 1) (by omega) (flatK_mono h)
theorem q_of {P : Program} {Γ : Tys} (h : qAll P Γ = true) {d : Nat} (hd : d ≤ 5) {t : TypeId} {ks : List EK} (ht : flatK Γ d t = some ks) : qChk P t = true := by
  have h5 := flatK_five (5 - d) (by omega) ht
  obtain ⟨ty, h1, _, _⟩ := flatK_inv h5
  have := Tr.allP_ok h (show Γ.get (toPs t) = some ty from h1)
  rw [toPs_num, h5] at this
  exact this
section
variable {P : Program} {Γ : Tys} {g : Gh} {w : World}
/-- A value whose cells are told of. -/
def VW (g : Gh) (ty : ETy) (l : List RV) (V : Value) : Prop := (isAggK ty.k = true ∧ ∃ xs, V = .agg xs ∧ VRs g l xs.toList ∧ ∀ v ∈ l, v.one = true) ∨ (isAggK ty.k = false ∧ ∃ v, l = [v] ∧ VR g v V)
theorem flatE_one {z : TypeId → Option (List EK)} {k : EK} {ks : List EK} (h : flatE z k = some ks) (hk : isAggK k = false) : ks = [k] ∧ isScal k = true := by
  cases k <;> first
    | (cases hk; done)
    | (cases h; done)
    | (cases h; exact ⟨rfl, rfl⟩)
theorem part_flat (hT : TOk P Γ) {t : TypeId} {ty : ETy} (ht : Γ.ty t = some ty) {d : Nat} {k1 : List EK} (hk : flatK Γ d t = some k1) {l : List RV} {xs : Array Value} {n : Nat} (hl : VRs g l xs.toList) (h1 : ∀ v ∈ l, v.one = true)
    (hn : ((l.drop n).take k1.length).length = k1.length) : ∃ V, (part t xs n).run P w = .ok V w ∧ VW g ty ((l.drop n).take k1.length) V := by
  cases d with
  | zero => cases hk
  | succ d =>
  obtain ⟨ty', e1, e2, e3⟩ := flatK_inv hk
  rw [ht] at e1
  cases e1
  cases hagg : isAggK ty.k with
  | true =>
    have hlen : ty.size ≤ (l.drop n).length := by rw [← e3, ← hn, List.length_take]; omega
    have hp : partV ty l n = some (.agg ((l.drop n).take ty.size)) := by
      unfold partV
      rw [hagg, ifB_true, dropL_eq]
      cases htk : takeS (l.drop n) ty.size with
      | none =>
        exfalso
        have : ∀ (l : List RV) (n : Nat), n ≤ l.length → takeS l n ≠ none := by
          intro l
          induction l with
          | nil => intro n hn h; cases n with
            | zero => cases h
            | succ n => simp at hn
          | cons a l ih => intro n hn h; cases n with
            | zero => cases h
            | succ n =>
              have h : bnd (takeS l n) (fun r => some (a :: r)) = none := h
              cases hh : takeS l n with
              | none => exact ih n (by simpa using hn) hh
              | some r => rw [hh] at h; cases h
        exact this _ _ hlen htk
      | some r => rw [(takeS_ok htk).2, bnd_mk]
    obtain ⟨V, p1, p2⟩ := part_ok (w := w) hT ht hl h1 hp
    obtain ⟨cs, rfl, p3, p4⟩ := p2.agg_inv
    rw [e3]
    exact ⟨_, p1, .inl ⟨hagg, cs, rfl, p3, p4⟩⟩
  | false =>
    obtain ⟨rfl, _⟩ := flatE_one e2 hagg
    simp only [List.length_singleton] at hn ⊢
    have hv : ∃ v, (l.drop n).take 1 = [v] ∧ l[n]? = some v := by
      cases hd : l.drop n with
      | nil => rw [hd] at hn; simp at hn
      | cons a r =>
        refine ⟨a, rfl, ?_⟩
        have := congrArg (·[0]?) hd
        simpa using this
    obtain ⟨v, hv1, hv2⟩ := hv
    have hp : partV ty l n = some v := by
      unfold partV
      rw [hagg, ifB_false, at_eq]
      exact hv2
    obtain ⟨V, p1, p2⟩ := part_ok (w := w) hT ht hl h1 hp
    exact ⟨V, p1, .inr ⟨hagg, v, hv1, p2⟩⟩
theorem eqK_run {t : TypeId} {D : TypeDesc} {k : EK} (hu : P.underlying t = some D) (hD : KOk k D) {a b : RV} {A B : Value} (ha : VR g a A) (hb : VR g b B) {r : Bool} (h : eqK k a b = some r) (d : Nat) : (Op.equalIn (d + 1) t A B).run P w = .ok r w := by
  cases k with
  | bool =>
    cases hD
    obtain ⟨x, rfl, h⟩ := asBool_inv h
    obtain ⟨y, rfl, h⟩ := asBool_inv h
    cases h
    rw [ha.bool_inv, hb.bool_inv, run_equalIn_bool w d t x y hu]
    cases x <;> cases y <;> rfl
  | int k =>
    cases hD
    obtain ⟨k1, x, rfl, h⟩ := asInt_inv h
    obtain ⟨k2, y, rfl, h⟩ := asInt_inv h
    obtain ⟨h1, h2⟩ := ifB_none h
    cases h2
    obtain rfl := kEq_eq h1
    rw [ha.int_inv, hb.int_inv, run_equalIn_int w d t k1 k x y hu]
    congr 1
    rw [eqI_eq]
    rfl
  | str =>
    cases hD
    obtain ⟨x, rfl, h⟩ := asStr_inv h
    obtain ⟨y, rfl, h⟩ := asStr_inv h
    cases h
    obtain ⟨s1, rfl, e1⟩ := ha.str_inv
    obtain ⟨s2, rfl, e2⟩ := hb.str_inv
    simp only [Op.equalIn, Sem.run_bind, run_underlying hu, Result.andThen_ok, Sem.run_pure]
    congr 1
    rw [beq_toListBytes]
    exact (eqL_bytes e1 e2).symm
  | _ => cases h
/-- Values of one type of plain parts. -/
theorem flat_equal (hT : TOk P Γ) (hQ : qAll P Γ = true) : ∀ (d : Nat), d ≤ 5 → ∀ (t : TypeId) (ty : ETy) (ks : List EK), Γ.ty t = some ty → flatK Γ d t = some ks → ∀ (l m : List RV) (V W : Value) (r : Bool), VW g ty l V → VW g ty m W → eqKs ks l m = some r →
    ∀ k w, (Op.equalIn (d + k) t V W).run P w = .ok r w
  | 0, _, _, _, _, _, h, _, _, _, _, _, _, _, _, _, _ => by cases h
  | d + 1, hd, t, ty, ks, ht, hf, l, m, V, W, r, hV, hW, he, k, w => by
    have ih := flat_equal hT hQ d (by omega)
    have hq := q_of hQ hd hf
    obtain ⟨ty', e1, e2, e3⟩ := flatK_inv hf
    rw [ht] at e1
    cases e1
    rw [show d + 1 + k = (d + k) + 1 by omega]
    -- one part against another one
    have one : ∀ (t' : TypeId) (k1 : List EK) (n : Nat) (xs ys : Array Value) (r1 : Bool), flatK Γ d t' = some k1 → VRs g l xs.toList → (∀ v ∈ l, v.one = true) → VRs g m ys.toList → (∀ v ∈ m, v.one = true) → eqKs k1 ((l.drop n).take k1.length) ((m.drop n).take k1.length) = some r1 →
        ∃ A B, (part t' xs n).run P w = .ok A w ∧ (part t' ys n).run P w = .ok B w ∧ (Op.equalIn (d + k) t' A B).run P w = .ok r1 w := by
      intro t' k1 n xs ys r1 h1 x1 x2 y1 y2 h2
      have hty : ∃ ty', Γ.ty t' = some ty' := by
        cases d with
        | zero => cases h1
        | succ d => obtain ⟨ty', a, _⟩ := flatK_inv h1; exact ⟨ty', a⟩
      obtain ⟨ty', hty⟩ := hty
      obtain ⟨n1, n2⟩ := eqKs_ok h2
      obtain ⟨A, a1, a2⟩ := part_flat (w := w) hT hty h1 x1 x2 n1
      obtain ⟨B, b1, b2⟩ := part_flat (w := w) hT hty h1 y1 y2 n2
      exact ⟨A, B, a1, b1, ih t' ty' k1 hty h1 _ _ A B r1 a2 b2 h2 k w⟩
    rcases hV with ⟨hagg, xs, rfl, x1, x2⟩ | ⟨hagg, v, rfl, x1⟩
    · obtain ⟨ys, rfl, y1, y2⟩ : ∃ ys, W = .agg ys ∧ VRs g m ys.toList ∧ ∀ v ∈ m, v.one = true := by
        rcases hW with ⟨_, h⟩ | ⟨h, _⟩
        · exact h
        · rw [hagg] at h; cases h
      cases hk : ty.k with
      | st fs =>
        rw [hk] at e2
        have e2 : flatFs (flatK Γ d) fs 0 = some ks := flatSt_ok e2
        obtain ⟨gs, u1, u2⟩ := ty_st hT ht hk
        simp only [qChk, u1, Bool.and_eq_true, Bool.not_eq_true'] at hq
        have hfs : P.fieldsOf t = gs := by simp [Program.fieldsOf, u1]
        rw [run_equalIn_struct w (d + k) t xs ys (by rw [hfs]; exact u1) hq.2.2, hfs]
        have key : ∀ (gs : List Field) (n : Nat) (ks : List EK) (r : Bool), (∀ f ∈ gs, (f.name != "_") = true) → flatFs (flatK Γ d) (gs.map fun f => (f.offset, f.type)) n = some ks → eqKs ks (l.drop n) (m.drop n) = some r → (Op.eqFields (d + k) xs ys gs).run P w = .ok r w := by
          intro gs
          induction gs with
          | nil =>
            intro n ks r _ h1 h2
            cases h1
            obtain ⟨n1, n2⟩ := eqKs_ok h2
            rw [List.length_eq_zero_iff.1 n1, List.length_eq_zero_iff.1 n2] at h2
            cases h2
            simp [Op.eqFields]
          | cons f gs ih2 =>
            intro n ks r hn h1 h2
            obtain ⟨f1, k1, k2, f2, f3, rfl⟩ := flatFs_cons h1
            obtain ⟨r1, r2, q1, q2, rfl⟩ := eqKs_app h2
            have f1 : f.offset = n := f1
            rw [List.drop_drop, List.drop_drop] at q2
            obtain ⟨A, B, p1, p2, p3⟩ := one f.type k1 n xs ys r1 f2 x1 x2 y1 y2 q1
            have := ih2 (n + k1.length) k2 r2 (fun f hf => hn f (List.mem_cons_of_mem _ hf)) f3 q2
            have hne : f.name ≠ "_" := by simpa using hn f List.mem_cons_self
            subst f1
            simp only [Op.eqFields, hne, ne_eq, not_false_eq_true, if_true, Sem.run_bind, p1, p2, p3, Result.andThen_ok]
            cases r1 with
            | true => simpa using this
            | false => simp
        exact key gs.toList 0 ks r (fun f hf => List.all_eq_true.1 hq.2.1 f hf) (by rw [u2]; exact e2) (by simpa using he)
      | ar n e =>
        rw [hk] at e2
        obtain ⟨k1, h1, h2⟩ := bnd_inv (show bnd (flatK Γ d e) (fun l => repL l n) = some ks from e2)
        rw [repL_eq] at h2
        cases h2
        have u1 := ty_ar hT ht hk
        have hi : ∃ te i, Γ.ty e = some te ∧ P.info? e = some i ∧ P.cellsOf e = k1.length := by
          cases d with
          | zero => cases h1
          | succ d =>
            obtain ⟨te, a, _, b⟩ := flatK_inv h1
            obtain ⟨i, i1, i2, _⟩ := size_inv hT a
            exact ⟨te, i, a, i1, by simp [Program.cellsOf, i1, i2, b]⟩
        obtain ⟨te, i, _, hi, hc⟩ := hi
        rw [run_equalIn_array w (d + k) xs ys u1 hi, hc, List.range_eq_range']
        have key : ∀ (n s : Nat) (r : Bool), eqKs (List.replicate n k1).flatten (l.drop (s * k1.length)) (m.drop (s * k1.length)) = some r → (Op.eqItems (d + k) e k1.length xs ys (List.range' s n)).run P w = .ok r w := by
          intro n
          induction n with
          | zero =>
            intro s r h2
            have h2 : eqKs [] _ _ = some r := h2
            obtain ⟨n1, n2⟩ := eqKs_ok h2
            rw [List.length_eq_zero_iff.1 n1, List.length_eq_zero_iff.1 n2] at h2
            cases h2
            simp [Op.eqItems]
          | succ n ih2 =>
            intro s r h2
            rw [List.replicate_succ, List.flatten_cons] at h2
            obtain ⟨r1, r2, q1, q2, rfl⟩ := eqKs_app h2
            rw [List.drop_drop, List.drop_drop, ← Nat.succ_mul] at q2
            obtain ⟨A, B, p1, p2, p3⟩ := one e k1 (s * k1.length) xs ys r1 h1 x1 x2 y1 y2 q1
            have := ih2 (s + 1) r2 q2
            rw [List.range'_succ]
            simp only [Op.eqItems, Sem.run_bind, p1, p2, p3, Result.andThen_ok]
            cases r1 with
            | true => simpa using this
            | false => simp
        exact key n 0 r (by simpa using he)
      | _ => rw [hk] at hagg; cases hagg
    · obtain ⟨u, rfl, y1⟩ : ∃ u, m = [u] ∧ VR g u W := by
        rcases hW with ⟨h, _⟩ | ⟨_, h⟩
        · rw [hagg] at h; cases h
        · exact h
      obtain ⟨rfl, _⟩ := flatE_one e2 hagg
      obtain ⟨D, u1, u2⟩ := ty_inv hT ht
      obtain ⟨x, h1, h2⟩ := bnd_inv (show bnd (eqK ty.k v u) (fun x => bnd (eqKs [] [] []) fun y => some (ifB x y false)) = some r from he)
      cases h2
      have := eqK_run (w := w) u1 u2 x1 y1 h1 (d + k)
      rw [this]
      cases x <;> rfl
theorem q_ok (hT : TOk P Γ) (hQ : qAll P Γ = true) : QOk P Γ := by
  intro t ty ks h1 h2 h3 g l m xs ys r w e1 e2 o1 o2 h4
  have hq := q_of hQ (Nat.le_refl 5) h3
  simp only [qChk, Bool.and_eq_true, Bool.not_eq_true'] at hq
  exact ⟨hq.1, flat_equal hT hQ 5 (Nat.le_refl 5) t ty ks h1 h3 l m _ _ r (.inl ⟨h2, xs, rfl, e1, o1⟩) (.inl ⟨h2, ys, rfl, e2, o2⟩) h4 9995 w⟩

/-! ### Keys -/
/-- What a key is, and what its type. -/
structure KeyI (P : Program) (Γ : Tys) (g : Gh) (t : TypeId) (ks : List EK) (k : RV) : Prop where
  ty : ∃ ty, Γ.ty t = some ty ∧ flatK Γ 5 t = some ks ∧ ((∃ l n e te, k = .agg l ∧ ty.k = .ar n e ∧ Γ.ty e = some te ∧ isScal te.k = true) ∨ ((∀ l, k ≠ .agg l) ∧ isScal ty.k = true ∧ ks = [ty.k]))
  self : ∃ b, keyEq ks k k = some b
theorem scal_notAgg {k : EK} (h : isScal k = true) : isAggK k = false := by cases k <;> first | rfl | cases h
theorem keyK_inv {β : Type} {t : TypeId} {k : RV} {c : List EK → Option β} {y : β} (h : keyK Γ t k c = some y) : ∃ ks, KeyI P Γ g t ks k ∧ c ks = some y := by
  obtain ⟨ty, h1, h2⟩ := bnd_inv h
  obtain ⟨ks, h3, h4⟩ := bnd_inv h2
  obtain ⟨b, h5, h6⟩ := bnd_inv h4
  obtain ⟨ty', e1, e2, _⟩ := flatK_inv h3
  rw [h1] at e1
  cases e1
  split at h6
  · rename_i l
    split at h6
    · rename_i n e hk
      obtain ⟨te, h7, h8⟩ := bnd_inv h6
      obtain ⟨h9, h10⟩ := ifB_none h8
      exact ⟨ks, ⟨⟨ty, h1, h3, .inl ⟨l, n, e, te, rfl, hk, h7, h9⟩⟩, b, h5⟩, h10⟩
    · cases h6
  · rename_i hne
    obtain ⟨h9, h10⟩ := ifB_none h6
    exact ⟨ks, ⟨⟨ty, h1, h3, .inr ⟨hne, h9, (flatE_one e2 (scal_notAgg h9)).1⟩⟩, b, h5⟩, h10⟩
end
end Go.E
end

section
/- E: maps. No condition. -/
namespace Go.E
open Go Go.RowKit

/-- Where a key is among entries. -/
def FindI (ks : List EK) (k : RV) (es : List (RV × RV × Nat)) : Option Nat → Prop
  | none => ∀ (i : Nat) (e : RV × RV × Nat), es[i]? = some e → keyEq ks k e.1 = some false
  | some i => ∃ e, es[i]? = some e ∧ keyEq ks k e.1 = some true ∧ ∀ (j : Nat) (e' : RV × RV × Nat), j < i → es[j]? = some e' → keyEq ks k e'.1 = some false
theorem FindI.nil (ks : List EK) (k : RV) : FindI ks k [] none := fun i e h => by simp at h
theorem FindI.here {ks : List EK} {k : RV} {e : RV × RV × Nat} {es : List (RV × RV × Nat)} (h : keyEq ks k e.1 = some true) : FindI ks k (e :: es) (some 0) := ⟨e, rfl, h, fun j _ hj => by omega⟩
theorem FindI.there {ks : List EK} {k : RV} {e : RV × RV × Nat} {es : List (RV × RV × Nat)} (h : keyEq ks k e.1 = some false) : ∀ {o : Option Nat}, FindI ks k es o → FindI ks k (e :: es) (o.map (· + 1))
  | none, hf => fun i e' hi => by
    cases i with
    | zero => simp at hi; subst hi; exact h
    | succ i => exact hf i e' (by simpa using hi)
  | some i, ⟨e1, h1, h2, h3⟩ => ⟨e1, by simpa using h1, h2, fun j e' hj he => by
    cases j with
    | zero => simp at he; subst he; exact h
    | succ j => exact h3 j e' (by simp at hj ⊢; omega) (by simpa using he)⟩
theorem findE_ok {ks : List EK} {k : RV} : ∀ {es : List (RV × RV × Nat)} {x : Option (RV × RV × Nat)}, findE ks k es = some x → ∃ o, FindI ks k es o ∧ (o = none → x = none) ∧ ∀ i, o = some i → x = es[i]?
  | [], x, h => by cases h; exact ⟨none, .nil _ _, fun _ => rfl, fun _ h => by cases h⟩
  | e :: es, x, h => by
    obtain ⟨b, h1, h2⟩ := bnd_inv (show bnd (keyEq ks k e.1) (fun b => ifB b (some (some e)) (findE ks k es)) = some x from h)
    cases b with
    | true => cases h2; exact ⟨some 0, .here h1, (fun h => nomatch h), fun i hi => by cases hi; rfl⟩
    | false =>
      obtain ⟨o, o1, o2, o3⟩ := findE_ok (show findE ks k es = some x from h2)
      refine ⟨o.map (· + 1), .there h1 o1, fun h => o2 (by simpa using h), fun i hi => ?_⟩
      cases o with
      | none => cases hi
      | some j => cases hi; simpa using o3 j rfl
theorem setE_ok {ks : List EK} {k v : RV} : ∀ {es : List (RV × RV × Nat)} {x : Option (List (RV × RV × Nat))}, setE ks k v es = some x → ∃ o, FindI ks k es o ∧ (o = none → x = none) ∧ ∀ i, o = some i → ∃ e, es[i]? = some e ∧ x = some (es.set i (k, v, e.2.2))
  | [], x, h => by cases h; exact ⟨none, .nil _ _, fun _ => rfl, fun _ h => by cases h⟩
  | e :: es, x, h => by
    obtain ⟨b, h1, h2⟩ := bnd_inv (show bnd (keyEq ks k e.1) (fun b => ifB b (some (some ((k, v, e.2.2) :: es))) (bnd (setE ks k v es) fun x => some (Option.rec none (fun l => some (e :: l)) x))) = some x from h)
    cases b with
    | true => cases h2; exact ⟨some 0, .here h1, (fun h => nomatch h), fun i hi => by cases hi; exact ⟨e, rfl, rfl⟩⟩
    | false =>
      obtain ⟨u, h3, h4⟩ := bnd_inv (show bnd (setE ks k v es) (fun x => some (Option.rec none (fun l => some (e :: l)) x)) = some x from h2)
      obtain ⟨o, o1, o2, o3⟩ := setE_ok h3
      cases h4
      refine ⟨o.map (· + 1), .there h1 o1, fun h => by rw [o2 (by simpa using h)], fun i hi => ?_⟩
      cases o with
      | none => cases hi
      | some j =>
        cases hi
        obtain ⟨e', q1, rfl⟩ := o3 j rfl
        exact ⟨e', by simpa using q1, rfl⟩
theorem delE_ok {ks : List EK} {k : RV} : ∀ {es l : List (RV × RV × Nat)}, delE ks k es = some l → ∃ o, FindI ks k es o ∧ (o = none → l = es) ∧ ∀ i, o = some i → l = es.eraseIdx i
  | [], l, h => by cases h; exact ⟨none, .nil _ _, fun _ => rfl, fun _ h => by cases h⟩
  | e :: es, l, h => by
    obtain ⟨b, h1, h2⟩ := bnd_inv (show bnd (keyEq ks k e.1) (fun b => ifB b (some es) (bnd (delE ks k es) fun l => some (e :: l))) = some l from h)
    cases b with
    | true => cases h2; exact ⟨some 0, .here h1, (fun h => nomatch h), fun i hi => by cases hi; rfl⟩
    | false =>
      obtain ⟨u, h3, h4⟩ := bnd_inv (show bnd (delE ks k es) (fun l => some (e :: l)) = some l from h2)
      obtain ⟨o, o1, o2, o3⟩ := delE_ok h3
      cases h4
      refine ⟨o.map (· + 1), .there h1 o1, fun h => by rw [o2 (by simpa using h)], fun i hi => ?_⟩
      cases o with
      | none => cases hi
      | some j => cases hi; rw [o3 j rfl]; rfl
theorem ERs.at {g : Gh} : ∀ {l : List (RV × RV × Nat)} {L : List MapEntry} {i : Nat} {e : RV × RV × Nat}, ERs g l L → l[i]? = some e → ∃ E, L[i]? = some E ∧ VR g e.1 E.key ∧ VR g e.2.1 E.val ∧ E.born = e.2.2
  | _, _, i, e, .nil, h => by simp at h
  | _, _, 0, e, .cons hk hv hs, h => by simp at h; subst h; exact ⟨_, rfl, hk, hv, rfl⟩
  | _, _, i + 1, e, .cons hk hv hs, h => by
    obtain ⟨E, h1, h2⟩ := hs.at (i := i) (by simpa using h)
    exact ⟨E, by simpa using h1, h2⟩
theorem ERs.set {g : Gh} {k v : RV} {K V : Value} (hk : VR g k K) (hv : VR g v V) : ∀ {l : List (RV × RV × Nat)} {L : List MapEntry} {i : Nat} {e : RV × RV × Nat}, ERs g l L → l[i]? = some e → ERs g (l.set i (k, v, e.2.2)) (L.modify i fun E => { E with key := K, val := V })
  | _, _, i, e, .nil, h => by simp at h
  | _, _, 0, e, .cons hk' hv' hs, h => by simp at h; subst h; exact .cons hk hv hs
  | _, _, i + 1, e, .cons hk' hv' hs, h => by
    have := ERs.set hk hv hs (i := i) (by simpa using h)
    simp only [List.set_cons_succ, List.modify_succ_cons]
    exact .cons hk' hv' this
theorem ERs.push {g : Gh} {k v : RV} {n : Nat} {K V : Value} (hk : VR g k K) (hv : VR g v V) : ∀ {l : List (RV × RV × Nat)} {L : List MapEntry}, ERs g l L → ERs g (l ++ [(k, v, n)]) (L ++ [{ key := K, val := V, born := n }])
  | _, _, .nil => .cons hk hv .nil
  | _, _, .cons hk' hv' hs => .cons hk' hv' (ERs.push hk hv hs)
theorem ERs.erase {g : Gh} : ∀ {l : List (RV × RV × Nat)} {L : List MapEntry} (i : Nat), ERs g l L → ERs g (l.eraseIdx i) (L.eraseIdx i)
  | _, _, _, .nil => .nil
  | _, _, 0, .cons hk hv hs => hs
  | _, _, i + 1, .cons hk hv hs => .cons hk hv (hs.erase i)

section
variable {P : Program} {Γ : Tys} {g : Gh} {w : World}
theorem eqK_now {k : EK} {D : TypeDesc} (hD : KOk k D) {a b : RV} {A B : Value} (ha : VR g a A) (hb : VR g b B) {r : Bool} (h : eqK k a b = some r) : Instr.sameNow D A B = some r := by
  cases k with
  | bool =>
    cases hD
    obtain ⟨x, rfl, h⟩ := asBool_inv h
    obtain ⟨y, rfl, h⟩ := asBool_inv h
    cases h
    rw [ha.bool_inv, hb.bool_inv]
    cases x <;> cases y <;> rfl
  | int k =>
    cases hD
    obtain ⟨k1, x, rfl, h⟩ := asInt_inv h
    obtain ⟨k2, y, rfl, h⟩ := asInt_inv h
    obtain ⟨h1, h2⟩ := ifB_none h
    cases h2
    obtain rfl := kEq_eq h1
    rw [ha.int_inv, hb.int_inv]
    simp only [Instr.sameNow, if_true]
    congr 1
    rw [eqI_eq]
    rfl
  | str =>
    cases hD
    obtain ⟨x, rfl, h⟩ := asStr_inv h
    obtain ⟨y, rfl, h⟩ := asStr_inv h
    cases h
    obtain ⟨s1, rfl, e1⟩ := ha.str_inv
    obtain ⟨s2, rfl, e2⟩ := hb.str_inv
    simp only [Instr.sameNow]
    congr 1
    rw [beq_toListBytes]
    exact (eqL_bytes e1 e2).symm
  | _ => cases h
theorem eqK_bits {k : EK} {a b : RV} {A B : Value} (ha : VR g a A) (hb : VR g b B) (h : eqK k a b = some true) (n : Nat) : Instr.sameBits n B A = true := by
  cases k with
  | bool =>
    obtain ⟨x, rfl, h⟩ := asBool_inv h
    obtain ⟨y, rfl, h⟩ := asBool_inv h
    rw [ha.bool_inv, hb.bool_inv]
    cases x <;> cases y <;> first | (cases h; done) | (cases n <;> rfl)
  | int k =>
    obtain ⟨k1, x, rfl, h⟩ := asInt_inv h
    obtain ⟨k2, y, rfl, h⟩ := asInt_inv h
    obtain ⟨h1, h2⟩ := ifB_none h
    obtain rfl := kEq_eq h1
    rw [eqI_eq] at h2
    have : x = y := by simpa using h2
    subst this
    rw [ha.int_inv, hb.int_inv]
    cases n <;> simp [Instr.sameBits]
  | str =>
    obtain ⟨x, rfl, h⟩ := asStr_inv h
    obtain ⟨y, rfl, h⟩ := asStr_inv h
    obtain ⟨s1, rfl, e1⟩ := ha.str_inv
    obtain ⟨s2, rfl, e2⟩ := hb.str_inv
    have : (s1 == s2) = true := by
      rw [beq_toListBytes, ← eqL_bytes e1 e2]
      exact Option.some.inj h
    have := (MapKept.bytes_beq s1 s2).1 this
    subst this
    cases n <;> simp [Instr.sameBits, MapKept.bytes_beq]
  | _ => cases h
theorem eqKs_bits (n : Nat) : ∀ {ks : List EK} {l m : List RV} {L M : List Value}, VRs g l L → VRs g m M → eqKs ks l m = some true → ((M.zip L).all fun (x, y) => Instr.sameBits n x y) = true
  | [], [], [], _, _, .nil, .nil, _ => rfl
  | [], _ :: _, _, _, _, _, _, h => by cases h
  | [], [], _ :: _, _, _, _, _, h => by cases h
  | _ :: _, [], _, _, _, _, _, h => by cases h
  | _ :: _, _ :: _, [], _, _, _, _, h => by cases h
  | k :: ks, a :: l, b :: m, _, _, .cons ha hl, .cons hb hm, h => by
    obtain ⟨x, h1, h2⟩ := bnd_inv (show bnd (eqK k a b) (fun x => bnd (eqKs ks l m) fun y => some (ifB x y false)) = some true from h)
    obtain ⟨y, h3, h4⟩ := bnd_inv h2
    cases x with
    | false => cases h4
    | true =>
      have h4 : some y = some true := h4
      cases h4
      simp only [List.zip_cons_cons, List.all_cons, Bool.and_eq_true]
      exact ⟨eqK_bits ha hb h1 n, eqKs_bits n hl hm h3⟩
theorem key_bits {ks : List EK} {a b : RV} {A B : Value} (ha : VR g a A) (hb : VR g b B) (h : keyEq ks a b = some true) (n : Nat) : Instr.sameBits (n + 1) B A = true := by
  unfold keyEq at h
  split at h
  · rename_i l
    obtain ⟨m, rfl, h1⟩ := asAgg_inv h
    obtain ⟨xs, rfl, x1, _⟩ := ha.agg_inv
    obtain ⟨ys, rfl, y1, _⟩ := hb.agg_inv
    have hs := eqKs_ok h1
    have := eqKs_bits n x1 y1 h1
    have hsz : ys.size = xs.size := by rw [← Array.length_toList, ← Array.length_toList, x1.length, y1.length, hs.1, hs.2]
    simp only [Instr.sameBits, hsz, beq_self_eq_true, Bool.true_and]
    exact this
  · have hs := eqKs_ok h
    cases ks with
    | nil => cases h
    | cons k ks =>
      cases ks with
      | cons => simp at hs
      | nil =>
        obtain ⟨x, h1, h2⟩ := bnd_inv (show bnd (eqK k a b) (fun x => bnd (eqKs [] [] []) fun y => some (ifB x y false)) = some true from h)
        cases x with
        | false => cases h2
        | true => exact eqK_bits ha hb h1 (n + 1)
theorem keyStays {old new : Value} (h : Instr.sameBits 10000 old new = true) : (Instr.keyThatStays old new).run P w = .ok new w := by
  unfold Instr.keyThatStays
  rw [if_pos h, Sem.run_pure]
theorem find_run (hT : TOk P Γ) (hQ : qAll P Γ = true) {t : TypeId} {ks : List EK} {k : RV} {K : Value} (hI : KeyI P Γ g t ks k) (hk : VR g k K) {es : List (RV × RV × Nat)} {L : List MapEntry} (hE : ERs g es L) {o : Option Nat} (hf : FindI ks k es o) :
    ∃ res, (Instr.findKey t K L).run P w = .ok res w ∧ (o = none → res = none) ∧ ∀ i, o = some i → ∃ E, L[i]? = some E ∧ res = some (i, E.val) := by
  obtain ⟨⟨ty, h1, h2, h3⟩, _⟩ := hI
  rcases h3 with ⟨l, n, e, te, rfl, hty, h4, h5⟩ | ⟨hne, h4, rfl⟩
  · have u := ty_ar hT h1 hty
    rw [run_findKey_eq w (by rw [u]) K L]
    have hagg : isAggK ty.k = true := by rw [hty]; rfl
    obtain ⟨xs, rfl, x1, x2⟩ := hk.agg_inv
    have key : ∀ (es : List (RV × RV × Nat)) (L : List MapEntry) (i : Nat) (o : Option Nat), ERs g es L → FindI ks (.agg l) es o → ∃ res, (Instr.findAsking t (.agg xs) L i).run P w = .ok res w ∧ (o = none → res = none) ∧ ∀ j, o = some j → ∃ E, L[j]? = some E ∧ res = some (i + j, E.val) := by
      intro es L i o hE
      induction hE generalizing i o with
      | nil =>
        intro hf
        cases o with
        | none => exact ⟨none, by simp [Instr.findAsking], fun _ => rfl, fun _ h => by cases h⟩
        | some j => obtain ⟨e, h, _⟩ := hf; simp at h
      | @cons kk v n K' V es L hk' hv hs ih =>
        intro hf
        -- is the first one it?
        have first : ∀ b, keyEq ks (.agg l) kk = some b → (Op.equal t (.agg xs) K').run P w = .ok b w := by
          intro b hb
          obtain ⟨m, rfl, hb⟩ := asAgg_inv (show Go.E.asAgg kk (fun m => eqKs ks l m) = some b from hb)
          obtain ⟨ys, rfl, y1, y2⟩ := hk'.agg_inv
          exact flat_equal hT hQ 5 (Nat.le_refl 5) t ty ks h1 h2 l m _ _ b (.inl ⟨hagg, xs, rfl, x1, x2⟩) (.inl ⟨hagg, ys, rfl, y1, y2⟩) hb 9995 w
        cases o with
        | none =>
          have hb := first false (hf 0 _ rfl)
          obtain ⟨res, r1, r2, _⟩ := ih (i + 1) none (fun j e he => hf (j + 1) e (by simpa using he))
          exact ⟨res, by simp [Instr.findAsking, hb, r1], r2, fun _ h => by cases h⟩
        | some j =>
          obtain ⟨e0, q1, q2, q3⟩ := hf
          cases j with
          | zero =>
            simp at q1
            subst q1
            have hb := first true q2
            exact ⟨some (i, V), by simp [Instr.findAsking, hb], (fun h => nomatch h), fun j hj => by cases hj; exact ⟨_, rfl, rfl⟩⟩
          | succ j =>
            have hb := first false (q3 0 _ (by omega) rfl)
            obtain ⟨res, r1, _, r3⟩ := ih (i + 1) (some j) ⟨e0, by simpa using q1, q2, fun m e' hm he => q3 (m + 1) e' (by omega) (by simpa using he)⟩
            refine ⟨res, by simp [Instr.findAsking, hb, r1], (fun h => nomatch h), fun m hm => ?_⟩
            cases hm
            obtain ⟨E, e1, e2⟩ := r3 j rfl
            exact ⟨E, by simpa using e1, by rw [e2]; congr 2; omega⟩
    obtain ⟨res, r1, r2, r3⟩ := key es L 0 o hE hf
    exact ⟨res, r1, r2, fun i hi => by
      obtain ⟨E, e1, e2⟩ := r3 i hi
      exact ⟨E, e1, by rw [e2]; simp⟩⟩
  · obtain ⟨D, u1, u2⟩ := ty_inv hT h1
    have hkey : ∀ (b : RV) (r : Bool), keyEq [ty.k] k b = some r → eqK ty.k k b = some r := by
      intro b r hb
      have hb : eqKs [ty.k] [k] [b] = some r := by
        unfold keyEq at hb
        split at hb
        · exact absurd rfl (hne _)
        · exact hb
      obtain ⟨x, h1, h2⟩ := bnd_inv (show bnd (eqK ty.k k b) (fun x => bnd (eqKs [] [] []) fun y => some (ifB x y false)) = some r from hb)
      cases h2
      rw [h1]
      cases x <;> rfl
    have key : ∀ (es : List (RV × RV × Nat)) (L : List MapEntry) (i : Nat) (o : Option Nat), ERs g es L → FindI [ty.k] k es o → ∃ res, Instr.findNow D K L i = some res ∧ (o = none → res = none) ∧ ∀ j, o = some j → ∃ E, L[j]? = some E ∧ res = some (i + j, E.val) := by
      intro es L i o hE
      induction hE generalizing i o with
      | nil =>
        intro hf
        cases o with
        | none => exact ⟨none, by simp [Instr.findNow], fun _ => rfl, fun _ h => by cases h⟩
        | some j => obtain ⟨e, h, _⟩ := hf; simp at h
      | @cons kk v n K' V es L hk' hv hs ih =>
        intro hf
        have first : ∀ b, keyEq [ty.k] k kk = some b → Instr.sameNow D K K' = some b := fun b hb => eqK_now u2 hk hk' (hkey kk b hb)
        cases o with
        | none =>
          have hb := first false (hf 0 _ rfl)
          obtain ⟨res, r1, r2, _⟩ := ih (i + 1) none (fun j e he => hf (j + 1) e (by simpa using he))
          exact ⟨res, by simp [Instr.findNow, hb, r1], r2, fun _ h => by cases h⟩
        | some j =>
          obtain ⟨e0, q1, q2, q3⟩ := hf
          cases j with
          | zero =>
            simp at q1
            subst q1
            have hb := first true q2
            exact ⟨some (i, V), by simp [Instr.findNow, hb], (fun h => nomatch h), fun j hj => by cases hj; exact ⟨_, rfl, rfl⟩⟩
          | succ j =>
            have hb := first false (q3 0 _ (by omega) rfl)
            obtain ⟨res, r1, _, r3⟩ := ih (i + 1) (some j) ⟨e0, by simpa using q1, q2, fun m e' hm he => q3 (m + 1) e' (by omega) (by simpa using he)⟩
            refine ⟨res, by simp [Instr.findNow, hb, r1], (fun h => nomatch h), fun m hm => ?_⟩
            cases hm
            obtain ⟨E, e1, e2⟩ := r3 j rfl
            exact ⟨E, by simpa using e1, by rw [e2]; congr 2; omega⟩
    obtain ⟨res, r1, r2, r3⟩ := key es L 0 o hE hf
    exact ⟨res, MapKept.run_findKey u1 r1, r2, fun i hi => by
      obtain ⟨E, e1, e2⟩ := r3 i hi
      exact ⟨E, e1, by rw [e2]; simp⟩⟩
theorem check_scal {t : TypeId} {ty : ETy} (hT : TOk P Γ) (ht : Γ.ty t = some ty) (h : isScal ty.k = true) (e : Bool) (n : Nat) (K : Value) : (Instr.checkKey e (n + 1) t K).run P w = .ok () w := by
  obtain ⟨D, u1, u2⟩ := ty_inv hT ht
  unfold Instr.checkKey
  simp only [Sem.run_bind, run_underlying u1, Result.andThen_ok]
  cases hk : ty.k <;> rw [hk] at h u2 <;> first | (cases h; done) | (cases u2; simp)
theorem check_run (hT : TOk P Γ) {t : TypeId} {ks : List EK} {k : RV} {K : Value} (hI : KeyI P Γ g t ks k) (hk : VR g k K) (e : Bool) : (Instr.checkKey e 10000 t K).run P w = .ok () w := by
  obtain ⟨⟨ty, h1, h2, h3⟩, b, h4⟩ := hI
  rcases h3 with ⟨l, n, el, te, rfl, hty, h5, h6⟩ | ⟨hne, h5, rfl⟩
  · have u := ty_ar hT h1 hty
    obtain ⟨xs, rfl, x1, x2⟩ := hk.agg_inv
    obtain ⟨ty', e1, e2, _⟩ := flatK_inv h2
    rw [h1] at e1
    cases e1
    rw [hty] at e2
    obtain ⟨k1, f1, f2⟩ := bnd_inv (show bnd (flatK Γ 4 el) (fun l => repL l n) = some ks from e2)
    obtain ⟨te', e1, e3, e4⟩ := flatK_inv f1
    rw [h5] at e1
    cases e1
    obtain ⟨rfl, _⟩ := flatE_one e3 (scal_notAgg h6)
    rw [repL_eq] at f2
    cases f2
    obtain ⟨i, i1, i2, _⟩ := size_inv hT h5
    have hlen : l.length = n := by
      obtain ⟨m, e1, h4⟩ := asAgg_inv (show Go.E.asAgg (.agg l) (fun m => eqKs (List.replicate n [te.k]).flatten l m) = some b from h4)
      have := (eqKs_ok h4).1
      simpa using this
    have hsz : i.size = 1 := by rw [i2, ← e4]; rfl
    rw [show (10000 : Nat) = 9999 + 1 from rfl]
    unfold Instr.checkKey
    simp only [Sem.run_bind, run_underlying u, Result.andThen_ok]
    simp only [Std.Legacy.Range.forIn_eq_forIn_range', Std.Legacy.Range.size, Nat.sub_zero, Nat.add_one_sub_one, Nat.div_one]
    have key : ∀ (n s : Nat), s + n ≤ l.length → (forIn (List.range' s n) PUnit.unit fun i (_ : PUnit) => do Instr.checkKey e 9999 el (← part el xs (i * (← sizeOf el))); pure (ForInStep.yield PUnit.unit) : Sem PUnit).run P w = .ok () w := by
      intro n
      induction n with
      | zero => intro s _; simp
      | succ n ih =>
        intro s hs
        rw [List.range'_succ]
        have hn : ((l.drop s).take [te.k].length).length = [te.k].length := by simp; omega
        obtain ⟨V, p1, _⟩ := part_flat (w := w) hT h5 f1 x1 x2 hn
        simp only [List.forIn_cons, Sem.run_bind, run_sizeOf i1, hsz, Nat.mul_one, p1, Result.andThen_ok, check_scal hT h5 h6, Sem.run_pure]
        exact ih (s + 1) (by omega)
    rw [key n 0 (by omega)]
    simp
  · exact check_scal hT h1 h5 e 9999 K
end
end Go.E
end

section
/- E: what maps tell, and how they change. No condition. -/
namespace Go.E
open Go Go.RowKit
section
variable {P : Program} {cx : Ctx} {n0 : Nat} {g : Gh} {h : Hp} {w : World} {mk : Nat} {e : Env} {a : Act} {F : Fence} {o : Oper} {call : CallK} {R : Type} {y : R} {k : RV → Hp → Option R}
theorem mapK_inv {β : Type} {Γ : Tys} {t : TypeId} {k : TypeId → TypeId → Option β} {y : β} (hT : TOk P Γ) (h : mapK Γ t k = some y) : ∃ a b, P.underlying t = some (.map a b) ∧ k a b = some y := by
  obtain ⟨ty, h1, h2⟩ := bnd_inv h
  split at h2
  · rename_i a b hk
    exact ⟨a, b, ty_map hT h1 hk, h2⟩
  · cases h2
theorem oneV_inv {ty : ETy} {cs : List RV} {z : RV} (h : oneV ty cs = some z) : (isAggK ty.k = true ∧ z = .agg cs) ∨ (isAggK ty.k = false ∧ cs = [z]) := by
  unfold oneV at h
  cases hk : isAggK ty.k with
  | true => rw [hk] at h; cases h; exact .inl ⟨rfl, rfl⟩
  | false =>
    rw [hk] at h
    cases cs with
    | nil => cases h
    | cons a r =>
      cases r with
      | nil => cases h; exact .inr ⟨rfl, rfl⟩
      | cons => cases h
theorem zeroV_ok (hT : TOk P cx.Γ) {t : TypeId} {z : RV} (hz : zeroV cx.Γ t = some z) : ∃ Z, (zeroValue t).run P w = .ok Z w ∧ VR g z Z := by
  obtain ⟨ty, h1, h2⟩ := bnd_inv hz
  obtain ⟨cs, h3, h4⟩ := bnd_inv h2
  obtain ⟨i, Z, ty', z1, z2, z3, z4, z5, z6, z7, _, z8⟩ := zero_ok (P := P) (g := g) hT h3
  rw [h1] at z5
  cases z5
  refine ⟨Z, run_zero z1 z2, ?_⟩
  rcases oneV_inv h4 with ⟨hk, rfl⟩ | ⟨hk, rfl⟩
  · rw [hk] at z8
    cases Z <;> first
      | (cases z8; done)
      | exact .agg z3 z4
  · rw [hk] at z8
    cases Z <;> first
      | (cases z8; done)
      | (cases z3 with | cons h _ => exact h)
theorem run_getMap {R : Nat} {ES : Array MapEntry} {c : Nat} (h : w.heap[R]? = some (.map ES c)) : (getObj R).run P w = .ok (.map ES c) w := by simp [getObj, Sem.run, h]
theorem run_setMap {R : Nat} {ES : Array MapEntry} {c : Nat} (O : Obj) (h : w.heap[R]? = some (.map ES c)) : (setObj R O).run P w = .ok () (w.putObj R O) := by simp [setObj, Sem.run, h, World.putObj]
theorem lookup_does (hT : TOk P cx.Γ) (hQ : qAll P cx.Γ = true) (H : HR cx g h w n0) (he : ER g mk e a.tmps) (hd : DR g h.df a.defers) {t : TypeId} {x i : Operand} {ok : Bool} (hop : o.op = .lookup t x i ok) (hk : oLookup t x i ok cx mk call e h k = some y) :
    DoesP g w h y k (fun k' => oLookup t x i ok cx mk call e h k') ((execOp a.eval o).run P w) := by
  refine does_pure (X := bnd (ev cx mk x e) fun v => bnd (ev cx mk i e) fun i => lookupV cx.Γ h t v i ok) (fun k' => ?_) hk fun v hv => ?_
  · unfold oLookup
    rw [bnd_assoc]
    congr 1
    funext v
    rw [bnd_assoc]
  · obtain ⟨m, h1, h2⟩ := bnd_inv hv
    obtain ⟨kv, h3, h4⟩ := bnd_inv h2
    obtain ⟨kt, et, u1, h5⟩ := mapK_inv hT h4
    obtain ⟨ks, hI, h6⟩ := keyK_inv (P := P) (g := g) h5
    have hM := ev_ok H he h1
    have hK := ev_ok H he h3
    have fin : ∀ {r : Sem (Value × Bool)} {V : Value} {b : Bool} {z : RV}, r.run P w = .ok (V, b) w → VR g z V → v = ifB ok (.tup [z, .bool b]) z → ((do let (v, okk) ← r; pure (if ok then .tuple #[v, .bool okk] else v) : Sem Value)).run P w = .ok (if ok then .tuple #[V, .bool b] else V) w ∧ VR g v (if ok then .tuple #[V, .bool b] else V) := by
      intro r V b z hr hz hv
      refine ⟨by simp only [Sem.run_bind, hr, Result.andThen_ok, Sem.run_pure], ?_⟩
      subst hv
      cases ok with
      | true => exact .tup (.cons hz (.cons (.bool b) .nil))
      | false => exact hz
    have top : ∀ {V : Value}, (Instr.lookup t (a.eval x) (a.eval i) ok).run P w = .ok V w → (execOp a.eval o).run P w = .ok (.value V) w := fun hr => by
      unfold execOp
      rw [hop]
      simp only [Sem.run_bind, hr, Result.andThen_ok, Sem.run_pure]
    split at h6
    · obtain ⟨z, h7, h8⟩ := bnd_inv h6
      cases h8
      obtain ⟨Z, z1, z2⟩ := zeroV_ok (P := P) (g := g) (w := w) hT h7
      obtain ⟨res, r1, r2, _⟩ := find_run (w := w) hT hQ hI hK ERs.nil (FindI.nil ks kv)
      rw [r2 rfl] at r1
      have hc := check_run (w := w) hT hI hK (#[] : Array MapEntry).isEmpty
      refine ⟨_, top ?_, (fin (r := (pure (Z, false) : Sem (Value × Bool))) rfl z2 rfl).2⟩
      rw [hM.nilm_inv]
      unfold Instr.lookup
      simp only [Sem.run_bind, run_underlying u1, Result.andThen_ok, Sem.run_pure, hc, r1, z1]
    · rename_i r
      obtain ⟨R, m1, m2⟩ := hM.map_inv
      obtain ⟨es, c, g1, g2⟩ := getM_ok h6
      obtain ⟨R', ES, k1, k2, k3, k4⟩ := H.obj r _ g1
      rw [m1] at k1
      cases k1
      obtain ⟨q, q1, q2⟩ := bnd_inv g2
      obtain ⟨oi, f1, f2, f3⟩ := findE_ok q1
      obtain ⟨res, r1, r2, r3⟩ := find_run (w := w) hT hQ hI hK k4 f1
      have hc := check_run (w := w) hT hI hK ES.isEmpty
      cases oi with
      | none =>
        rw [f2 rfl] at q2
        rw [r2 rfl] at r1
        obtain ⟨z, h7, h8⟩ := bnd_inv (show bnd (zeroV cx.Γ et) (fun z => some (ifB ok (.tup [z, .bool false]) z)) = some v from q2)
        cases h8
        obtain ⟨Z, z1, z2⟩ := zeroV_ok (P := P) (g := g) (w := w) hT h7
        refine ⟨_, top ?_, (fin (r := (pure (Z, false) : Sem (Value × Bool))) rfl z2 rfl).2⟩
        rw [m2]
        unfold Instr.lookup
        simp only [Sem.run_bind, run_underlying u1, Result.andThen_ok, Sem.run_pure, run_getMap k3, hc, r1, z1]
      | some j =>
        obtain ⟨E, e1, e2⟩ := r3 j rfl
        rw [e2] at r1
        obtain ⟨en, p1, _⟩ := f1
        rw [f3 j rfl, p1] at q2
        cases q2
        obtain ⟨E', e1', _, e4, _⟩ := k4.at p1
        rw [e1] at e1'
        cases e1'
        refine ⟨_, top ?_, (fin (r := (pure (E.val, true) : Sem (Value × Bool))) rfl e4 rfl).2⟩
        rw [m2]
        unfold Instr.lookup
        simp only [Sem.run_bind, run_underlying u1, Result.andThen_ok, Sem.run_pure, run_getMap k3, hc, r1]
    · cases h6
/-- A map's new entries. -/
theorem HR.putMap (H : HR cx g h w n0) {r : Ps} {es es' : List (RV × RV × Nat)} {c c' : Nat} {R : Nat} {ES ES' : Array MapEntry} {h' : Hp} (g1 : h.get r = some (.map es c)) (m1 : g.μ r = some (R, 0)) (k2 : n0 ≤ R) (k3 : w.heap[R]? = some (.map ES c)) (hs : h.set r (.map es' c') = some h') (hE : ERs g es' ES'.toList) :
    HR cx g h' (w.putObj R (.map ES' c')) n0 ∧ Ext n0 g w g (w.putObj R (.map ES' c')) ∧ h'.df = h.df := by
  obtain ⟨s1, s2, s3⟩ := Hp.set_ok hs
  obtain ⟨x1, x2⟩ := H.put (O := .map ES' c') g1 rfl m1 k2 (by
    intro c cs ty hc
    simp [RO.anc]) s1 s2 rfl ⟨R, ES', m1, k2, by
      have hlt := (Array.getElem?_eq_some_iff.1 k3).1
      simp [World.putObj, hlt], hE⟩
  exact ⟨x1, x2, s3⟩
theorem mapSet_does (hT : TOk P cx.Γ) (hQ : qAll P cx.Γ = true) (H : HR cx g h w n0) (he : ER g mk e a.tmps) (hd : DR g h.df a.defers) {t : TypeId} {x i z : Operand} (hop : o.op = .mapUpdate t x i z ∨ o.op = .insert t x i z) (hk : oMapSet t x i z cx mk call e h k = some y) :
    Does F P cx n0 g w a.defers y k (fun k' => oMapSet t x i z cx mk call e h k') ((execOp a.eval o).run P w) := by
  obtain ⟨m, h1, h2⟩ := bnd_inv hk
  obtain ⟨kv, h3, h4⟩ := bnd_inv h2
  obtain ⟨v, h5, h6⟩ := bnd_inv h4
  obtain ⟨h', h7, h8⟩ := bnd_inv h6
  refine ⟨undefV, h', h8, fun k' => by
    unfold oMapSet
    rw [h1]
    show bnd (ev cx mk i e) _ = _
    rw [h3]
    show bnd (ev cx mk z e) _ = _
    rw [h5]
    show bnd (mapSet cx.Γ h t m kv v) _ = _
    rw [h7], ?_⟩
  have hM := ev_ok H he h1
  have hK := ev_ok H he h3
  have hV := ev_ok H he h5
  obtain ⟨kt, et, u1, h9⟩ := mapK_inv hT h7
  obtain ⟨ks, hI, h10⟩ := keyK_inv (P := P) (g := g) h9
  have top : ∀ {w' : World}, (Instr.mapUpdate t (a.eval x) (a.eval i) (a.eval z)).run P w = .ok () w' → (execOp a.eval o).run P w = .ok .skip w' := fun hr => by
    unfold execOp
    rcases hop with hop | hop <;> (rw [hop]; simp only [Sem.run_bind, hr, Result.andThen_ok, Sem.run_pure])
  split at h10
  · rename_i r
    obtain ⟨R, m1, m2⟩ := hM.map_inv
    obtain ⟨es, c, g1, g2⟩ := getM_ok h10
    obtain ⟨R', ES, k1, k2, k3, k4⟩ := H.obj r _ g1
    rw [m1] at k1
    cases k1
    obtain ⟨q, q1, q2⟩ := bnd_inv g2
    obtain ⟨oi, f1, f2, f3⟩ := setE_ok q1
    obtain ⟨res, r1, r2, r3⟩ := find_run (w := w) hT hQ hI hK k4 f1
    have hc := check_run (w := w) hT hI hK false
    cases oi with
    | none =>
      rw [f2 rfl] at q2
      rw [r2 rfl] at r1
      obtain ⟨es2, q3, q4⟩ := bnd_inv (show bnd (appS es [(kv, v, c)]) (fun es => forceN (Nat.succ c) fun c => h.set r (.map es c)) = some h' from q2)
      rw [appS_eq] at q3
      cases q3
      rw [forceN_eq] at q4
      obtain ⟨x1, x2, x3⟩ := H.putMap (ES' := ES.push { key := a.eval i, val := a.eval z, born := c }) g1 m1 k2 k3 q4 (by rw [Array.toList_push]; exact ERs.push hK hV k4)
      rw [top (w' := w.putObj R (.map (ES.push { key := a.eval i, val := a.eval z, born := c }) (c + 1))) (by
        rw [m2]
        unfold Instr.mapUpdate
        simp only [Sem.run_bind, run_underlying u1, Result.andThen_ok, run_getMap k3, hc, r1, run_setMap _ k3])]
      exact ⟨g, x2, x1, .undef, by rw [x3]; exact hd⟩
    | some j =>
      obtain ⟨E, e1, e2⟩ := r3 j rfl
      rw [e2] at r1
      obtain ⟨en, p1, p2⟩ := f3 j rfl
      rw [p2] at q2
      obtain ⟨x1, x2, x3⟩ := H.putMap (ES' := ES.modify j fun e => { e with key := a.eval i, val := a.eval z }) g1 m1 k2 k3 (show h.set r (.map (es.set j (kv, v, en.2.2)) c) = some h' from q2) (by rw [Array.toList_modify]; exact ERs.set hK hV k4 p1)
      obtain ⟨E', e1', e3, _, _⟩ := k4.at p1
      rw [e1] at e1'
      cases e1'
      obtain ⟨en', p1', p3, _⟩ := f1
      rw [p1] at p1'
      cases p1'
      have hst := keyStays (P := P) (w := w) (key_bits hK e3 p3 9999)
      rw [top (w' := w.putObj R (.map (ES.modify j fun e => { e with key := a.eval i, val := a.eval z }) c)) (by
        rw [m2]
        unfold Instr.mapUpdate
        rw [Array.getElem?_toList] at e1
        simp only [Sem.run_bind, run_underlying u1, Result.andThen_ok, run_getMap k3, hc, r1, e1, Option.map_some, Option.getD_some, hst, run_setMap _ k3])]
      exact ⟨g, x2, x1, .undef, by rw [x3]; exact hd⟩
  · cases h10
theorem delete_run (hT : TOk P cx.Γ) (hQ : qAll P cx.Γ = true) (H : HR cx g h w n0) {ds : List Deferred} (hd : DR g h.df ds) {t t2 : TypeId} {ty : TypeId} {ts : Array TypeId} (hts : ts.toList = [t, t2]) {r : Ps} {kv : RV} {X K : Value} (hM : VR g (.map r) X) (hK : VR g kv K) {v : RV} {h' : Hp}
    (hb : (mapK cx.Γ t fun kt _ => keyK cx.Γ kt kv fun ks => getM h r fun es c => bnd (delE ks kv es) fun es => bnd (h.set r (.map es c)) fun h => some (⟨undefV, h⟩ : Out)) = some ⟨v, h'⟩) : ∃ V w', (Builtin.delete_ ts ty #[X, K]).run P w = .ok V w' ∧ Post cx n0 g w h' v V ds w' := by
  obtain ⟨kt, et, u1, h9⟩ := mapK_inv hT hb
  obtain ⟨ks, hI, h10⟩ := keyK_inv (P := P) (g := g) h9
  obtain ⟨R, m1, m2⟩ := hM.map_inv
  obtain ⟨es, c, g1, g2⟩ := getM_ok h10
  obtain ⟨R', ES, k1, k2, k3, k4⟩ := H.obj r _ g1
  rw [m1] at k1
  cases k1
  obtain ⟨q, q1, q2⟩ := bnd_inv g2
  obtain ⟨h2, q3, q4⟩ := bnd_inv q2
  cases q4
  obtain ⟨oi, f1, f2, f3⟩ := delE_ok q1
  obtain ⟨res, r1, r2, r3⟩ := find_run (w := w) hT hQ hI hK k4 f1
  have hc := check_run (w := w) hT hI hK ES.isEmpty
  have ht := ts_two hts
  subst ht
  cases oi with
  | none =>
    rw [r2 rfl] at r1
    rw [f2 rfl] at q3
    obtain ⟨x1, x2, x3⟩ := H.putMap (ES' := ES) g1 m1 k2 k3 q3 k4
    refine ⟨.tuple #[], w.putObj R (.map ES c), ?_, g, x2, x1, .undef, by rw [x3]; exact hd⟩
    rw [m2]
    unfold Builtin.delete_
    simp only [List.getElem?_toArray, List.getElem?_cons_zero, List.getElem?_cons_succ, Sem.run_bind, run_underlying u1, Result.andThen_ok, run_getMap k3, hc, r1, run_setMap _ k3, Sem.run_pure]
  | some j =>
    obtain ⟨E, e1, e2⟩ := r3 j rfl
    rw [e2] at r1
    rw [f3 j rfl] at q3
    obtain ⟨x1, x2, x3⟩ := H.putMap (ES' := ES.eraseIdxIfInBounds j) g1 m1 k2 k3 q3 (by
      have hlt := (List.getElem?_eq_some_iff.1 e1).1
      unfold Array.eraseIdxIfInBounds
      rw [dif_pos (by simpa using hlt), Array.toList_eraseIdx]
      exact ERs.erase j k4)
    refine ⟨.tuple #[], w.putObj R (.map (ES.eraseIdxIfInBounds j) c), ?_, g, x2, x1, .undef, by rw [x3]; exact hd⟩
    rw [m2]
    unfold Builtin.delete_
    simp only [List.getElem?_toArray, List.getElem?_cons_zero, List.getElem?_cons_succ, Sem.run_bind, run_underlying u1, Result.andThen_ok, run_getMap k3, hc, r1, run_setMap _ k3, Sem.run_pure]
end
end Go.E
end

section
/- E: what is built in, all. No condition. -/
namespace Go.E
open Go Go.RowKit

section
variable {P : Program} {cx : Ctx} {n0 : Nat} {g : Gh} {h : Hp} {w : World} {ds : List Deferred} {F : Fence}

theorem minmax_ok {b : Bool} {x y v : RV} {X Y : Value} (hx : VR g x X) (hy : VR g y Y) (h : minmax b x y = some v) : ∃ V, (if b then Builtin.max2 X Y else Builtin.min2 X Y).run P w = .ok V w ∧ VR g v V := by
  unfold minmax at h
  split at h
  · rename_i k m
    split at h
    · rename_i k' n
      obtain ⟨h1, h2⟩ := ifB_none h
      cases h2
      have := kEq_eq h1
      subst this
      rw [hx.int_inv, hy.int_inv]
      refine ⟨_, ?_, .int _ _⟩
      cases b with
      | true =>
        simp only [if_true, Builtin.max2, Sem.run_pure, ltI_eq, ifB_eq, decide_eq_true_eq]
      | false =>
        simp only [Bool.false_eq_true, if_false, Builtin.min2, Sem.run_pure, ltI_eq, ifB_eq, decide_eq_true_eq]
    · cases h
  · cases h
theorem minmaxs_ok {b : Bool} : ∀ {r : List RV} {x v : RV} {X : Value} {RS : List Value}, VR g x X → VRs g r RS → minmaxs b r x = some v → ∃ V, (RS.foldlM (fun x y => if b then Builtin.max2 x y else Builtin.min2 x y) X).run P w = .ok V w ∧ VR g v V
  | [], x, v, X, _, hx, .nil, h => by
    cases h
    exact ⟨X, by simp, hx⟩
  | y :: r, x, v, X, _, hx, .cons hy hs, h => by
    obtain ⟨c, h1, h2⟩ := bnd_inv h
    obtain ⟨V, v1, v2⟩ := minmax_ok (P := P) (w := w) hx hy h1
    obtain ⟨V', w1, w2⟩ := minmaxs_ok v2 hs h2
    refine ⟨V', ?_, w2⟩
    rw [List.foldlM_cons, Sem.run_bind, v1]
    exact w1
theorem builtin_ok (hT : TOk P cx.Γ) (hQ : qAll P cx.Γ = true) (H : HR cx g h w n0) (hd : DR g h.df ds) (h0 : n0 ≤ w.heap.size) {b : Builtin} {ts : Array TypeId} {ty : TypeId} {cst : Array Bool} {xs : List RV} {XS : Array Value} {v : RV} {h' : Hp} (hx : VRs g xs XS.toList)
    (hb : builtinV cx.Γ h b ts.toList xs = some ⟨v, h'⟩) : ∃ V w', (builtin b ts ty cst XS).run P w = .ok (.value V) w' ∧ Post cx n0 g w h' v V ds w' := by
  have wrap : ∀ {s : Sem Value} {V : Value} {w' : World}, s.run P w = .ok V w' → (do pure (Next.value (← s)) : Sem Next).run P w = .ok (.value V) w' := fun hs => by simp only [Sem.run_bind, hs, Result.andThen_ok, Sem.run_pure]
  cases b <;> first
    | (cases hb; done)
    | skip
  case append =>
    dsimp only [builtinV] at hb
    split at hb
    · rename_i t t2 x y h1
      obtain ⟨X, Y, rfl, hX, hY⟩ := two_of hx rfl
      rw [ts_two h1]
      obtain ⟨V, w', r1, r2⟩ := append_ok (P := P) (ty := ty) hT H hd h0 hX hY hb
      exact ⟨V, w', wrap r1, r2⟩
    · cases hb
  case cap =>
    dsimp only [builtinV] at hb
    split at hb
    · rename_i t b off n c h1
      obtain ⟨X, rfl, hX⟩ := one_of hx rfl
      obtain ⟨el, te, u1, _, u3⟩ := elemK_inv hT hb
      cases u3
      obtain ⟨B, o, CAP, _, rfl, hc⟩ := hX.sl_inv
      have hc : CAP = c := hc
      subst hc
      refine ⟨goInt CAP, w, wrap ?_, Post.same H (goInt_eq _) hd⟩
      simp only [Builtin.cap_, ts_head h1, Sem.run_bind, run_underlying u1, Result.andThen_ok, Sem.run_pure, List.getElem?_toArray, List.getElem?_cons_zero]
    · rename_i t h1
      obtain ⟨X, rfl, hX⟩ := one_of hx rfl
      obtain ⟨el, te, u1, _, u3⟩ := elemK_inv hT hb
      cases u3
      rw [hX.nils_inv]
      refine ⟨goInt 0, w, wrap ?_, Post.same H (goInt_eq _) hd⟩
      simp only [Builtin.cap_, ts_head h1, Sem.run_bind, run_underlying u1, Result.andThen_ok, Sem.run_pure, List.getElem?_toArray, List.getElem?_cons_zero]
      rfl
    · cases hb
  case clear =>
    dsimp only [builtinV] at hb
    split at hb
    · rename_i t b off n c tt h1
      obtain ⟨X, rfl, hX⟩ := one_of hx rfl
      obtain ⟨el, te, u1, u2, u3⟩ := elemK_inv hT hb
      obtain ⟨z, k1, u4⟩ := bnd_inv u3
      obtain ⟨zs, k2, u5⟩ := bnd_inv u4
      obtain ⟨h1', k3, u6⟩ := bnd_inv u5
      cases u6
      rw [repL_eq] at k2
      cases k2
      obtain ⟨i, Z, ty', z1, z2, z3, z4, _⟩ := zero_ok (P := P) (g := g) hT k1
      obtain ⟨B, o, CAP, m, rfl, _⟩ := hX.sl_inv
      obtain ⟨B', o', w', m', r1, r2, r3, r4⟩ := storeC_ok (P := P) H (z3.flatten n) (flat_one z4 n) k3
      rw [m] at m'
      cases m'
      refine ⟨.tuple #[], w', wrap ?_, g, r3, r2, VR.undef, by rw [r4]; exact hd⟩
      cases n with
      | zero =>
        have : w' = w := by simp [storeCells] at r1; exact r1.symm
        subst this
        simp only [Builtin.clear_, ts_head h1, Sem.run_bind, run_underlying u1, Result.andThen_ok, Sem.run_pure, List.getElem?_toArray, List.getElem?_cons_zero]
      | succ n =>
        simp only [Builtin.clear_, ts_head h1, Sem.run_bind, run_underlying u1, run_zero z1 z2, Result.andThen_ok, Sem.run_pure, List.getElem?_toArray, List.getElem?_cons_zero, zeroCells_flat, r1]
    · rename_i t h1
      obtain ⟨X, rfl, hX⟩ := one_of hx rfl
      obtain ⟨el, te, u1, _, u3⟩ := elemK_inv hT hb
      cases u3
      rw [hX.nils_inv]
      refine ⟨.tuple #[], w, wrap ?_, Post.same H VR.undef hd⟩
      simp only [Builtin.clear_, ts_head h1, Sem.run_bind, run_underlying u1, Result.andThen_ok, Sem.run_pure, List.getElem?_toArray, List.getElem?_cons_zero]
    · rename_i t tt h1
      obtain ⟨X, rfl, hX⟩ := one_of hx rfl
      obtain ⟨el, te, u1, _, u3⟩ := elemK_inv hT hb
      cases u3
      obtain ⟨A, c, rfl, _⟩ := hX.emp_inv
      refine ⟨.tuple #[], w, wrap ?_, Post.same H VR.undef hd⟩
      simp only [Builtin.clear_, ts_head h1, Sem.run_bind, run_underlying u1, Result.andThen_ok, Sem.run_pure, List.getElem?_toArray, List.getElem?_cons_zero]
    · cases hb
  case complex =>
    dsimp only [builtinV] at hb
    split at hb
    · obtain ⟨h1, h2⟩ := ifB_none hb
      cases h2
      have := fEq_eq h1
      subst this
      obtain ⟨X, Y, rfl, hX, hY⟩ := two_of hx rfl
      rw [hX.flt_inv, hY.flt_inv]
      have hdef : ∀ (k : FloatKind) (x y : Nat), (Builtin.complex_ ts ty #[.float k x, .float k y]).run P w = .ok (.complex k x y) w := fun k x y => by cases k <;> rfl
      exact ⟨_, w, wrap (hdef _ _ _), Post.same H (.cpx _ _ _) hd⟩
    · cases hb
  case delete =>
    dsimp only [builtinV] at hb
    split at hb
    · rename_i t t2 r kv h1
      obtain ⟨X, K, rfl, hX, hK⟩ := two_of hx rfl
      obtain ⟨V, w', r1, r2⟩ := delete_run (P := P) (w := w) (ty := ty) hT hQ H hd h1 hX hK hb
      exact ⟨V, w', wrap r1, r2⟩
    · cases hb
  case imag =>
    dsimp only [builtinV] at hb
    split at hb
    · cases hb
      obtain ⟨X, rfl, hX⟩ := one_of hx rfl
      rw [hX.cpx_inv]
      exact ⟨_, w, wrap rfl, Post.same H (.flt _ _) hd⟩
    · cases hb
  case real =>
    dsimp only [builtinV] at hb
    split at hb
    · cases hb
      obtain ⟨X, rfl, hX⟩ := one_of hx rfl
      rw [hX.cpx_inv]
      exact ⟨_, w, wrap rfl, Post.same H (.flt _ _) hd⟩
    · cases hb
  case len =>
    dsimp only [builtinV] at hb
    split at hb
    · rename_i t r x r' h1
      obtain ⟨u, k1, k2⟩ := bnd_inv hb
      cases k2
      obtain ⟨X, hX, hX2⟩ := head_of hx rfl
      obtain ⟨V, r1, r2⟩ := len_ok (P := P) (ty := ty) hT H (ts_head h1) hX hX2 k1
      exact ⟨V, w, wrap r1, Post.same H r2 hd⟩
    · cases hb
  case max =>
    dsimp only [builtinV] at hb
    split at hb
    · rename_i x r
      obtain ⟨u, k1, k2⟩ := bnd_inv hb
      cases k2
      generalize hXS : XS.toList = L at hx
      cases hx with
      | cons hX hs =>
        obtain ⟨V, r1, r2⟩ := minmaxs_ok (P := P) (w := w) hX hs k1
        refine ⟨V, w, wrap ?_, Post.same H r2 hd⟩
        simp only [Builtin.max_, hXS]
        exact r1
    · cases hb
  case min =>
    dsimp only [builtinV] at hb
    split at hb
    · rename_i x r
      obtain ⟨u, k1, k2⟩ := bnd_inv hb
      cases k2
      generalize hXS : XS.toList = L at hx
      cases hx with
      | cons hX hs =>
        obtain ⟨V, r1, r2⟩ := minmaxs_ok (P := P) (w := w) hX hs k1
        refine ⟨V, w, wrap ?_, Post.same H r2 hd⟩
        simp only [Builtin.min_, hXS]
        exact r1
    · cases hb
  case unsafeSliceData =>
    dsimp only [builtinV] at hb
    split at hb
    · rename_i b off n c tt
      obtain ⟨h1, h2⟩ := ifB_none' hb
      cases h2
      obtain ⟨X, rfl, hX⟩ := one_of hx rfl
      obtain ⟨B, o, CAP, m, rfl, hc⟩ := hX.sl_inv
      rw [nbeq_eq, decide_eq_false_iff_not] at h1
      have hne : CAP ≠ 0 := by rw [hc]; cases tt <;> simp <;> omega
      refine ⟨.pointer (some ⟨B, o + off, none⟩), w, wrap ?_, Post.same H (.ptr _ m) hd⟩
      have hdef : Builtin.unsafeSliceData_ ts ty #[.slice (some ⟨B, o + off, none⟩) n CAP] = (if CAP ≠ 0 then pure (.pointer (some ⟨B, o + off, none⟩)) else do
        if (← viewAt B).isSome then pure (.pointer (some ⟨B, o + off, none⟩)) else pure (.pointer (some ⟨← newObj (.view ⟨B, o + off, none⟩ (← elemOf ty)), 0, none⟩))) := rfl
      rw [hdef, if_pos hne, Sem.run_pure]
    · cases hb
      obtain ⟨X, rfl, hX⟩ := one_of hx rfl
      rw [hX.nils_inv]
      exact ⟨.pointer none, w, wrap rfl, Post.same H .nilp hd⟩
    · cases hb
  case unsafeString =>
    dsimp only [builtinV] at hb
    split at hb
    · rename_i t t2 h1
      obtain ⟨tt, k1, k2⟩ := bnd_inv hb
      split at k2
      · rename_i u hk
        rw [ts_two h1]
        split at k2
        · rename_i b off kk n
          obtain ⟨k3, k4⟩ := ifB_none k2
          rw [nble_eq, decide_eq_true_eq] at k3
          obtain ⟨X, Y, rfl, hX, hY⟩ := two_of hx rfl
          obtain ⟨B, o, m, rfl⟩ := hX.ptr_inv
          rw [hY.int_inv]
          obtain ⟨V, w', r1, r2⟩ := uString_ok (P := P) (it := t2) (ty := ty) (kk := kk) hT H hd m (ty_ptr hT k1 hk) k3 k4
          exact ⟨V, w', wrap r1, r2⟩
        · rename_i kk
          cases k2
          obtain ⟨X, Y, rfl, hX, hY⟩ := two_of hx rfl
          rw [hX.nilp_inv, hY.int_inv]
          refine ⟨.string .empty, w, wrap ?_, Post.same H (.str [] .empty rfl) hd⟩
          have hmax : ¬ ((Int.ofNat 0) > IntKind.i64.max) := by
            simp [IntKind.max, IntKind.signed, IntKind.bits]
          have hneg : ¬ ((Int.ofNat 0) < 0) := by simp
          show (Bind.bind (Go.asInt (.int kk (Int.ofNat 0))) _ : Sem _).run P w = _
          simp only [Go.asInt, asIntOf, Sem.run_bind, Sem.run_pure, Result.andThen_ok, if_neg hneg, if_neg hmax]
          rfl
        · cases k2
      · cases k2
    · cases hb
end
end Go.E
end

section
/- E: conversions. No condition. -/
namespace Go.E
open Go Go.RowKit

section
variable {P : Program} {cx : Ctx} {n0 : Nat} {g : Gh} {h : Hp} {w : World} {ds : List Deferred} {F : Fence}

theorem isU8_inv {k : EK} (h : isU8 k = true) : k = .int .u8 := by
  cases k with
  | int j => cases j <;> first | rfl | cases h
  | _ => cases h
theorem push_all : ∀ (bs : List UInt8) (s : ByteArray), ((bs.map fun b => (b.toNat : Int)).foldl (fun (r : ByteArray) n => r.push (UInt8.ofNat n.toNat)) s).data.toList = s.data.toList ++ bs
  | [], s => by simp
  | b :: bs, s => by
    rw [List.map_cons, List.foldl_cons, push_all bs]
    have : UInt8.ofNat ((b.toNat : Int)).toNat = b := by simp
    rw [this, ByteArray.data_push, Array.toList_push, List.append_assoc]
    rfl
theorem run_b2s {B o c : Nat} {bs : List UInt8} (hc : ∀ (j : Nat) (b : UInt8), bs[j]? = some b → w.cell? ⟨B, o + j, none⟩ = some (.int .u8 b.toNat)) :
    ∃ s, (Conv.bytesToString (.slice (some ⟨B, o, none⟩) bs.length c)).run P w = .ok (.string s) w ∧ s.data.toList = bs := by
  have hl : (loadCells ⟨B, o, none⟩ (bs.map fun b => Value.int .u8 b.toNat).length).run P w = .ok (bs.map fun b => Value.int .u8 b.toNat).toArray w := run_loadCells fun j V hj => by
    rw [List.getElem?_map] at hj
    obtain ⟨b, h1, rfl⟩ := Option.map_eq_some_iff.1 hj
    exact hc j b h1
  rw [List.length_map] at hl
  have := run_bytesToString (P := P) w ⟨B, o, none⟩ bs.length c (bs.map fun b => (b.toNat : Int)) (by rw [hl, List.map_map]; rfl)
  exact ⟨_, this, push_all bs .empty⟩
theorem run_conv_int {s d : TypeId} {k k' : IntKind} {ds : TypeDesc} {n : Int} (hs : P.underlying s = some ds) (hd : P.underlying d = some (.int k)) : (convert s d (.int k' n)).run P w = .ok (.int k (k.wrap n)) w := by
  unfold convert
  simp only [Sem.run_bind, run_underlying hs, run_underlying hd, Result.andThen_ok]
  cases ds <;> rfl
theorem run_conv_fi {s d : TypeId} {k : IntKind} {k' : FloatKind} {ds : TypeDesc} {b : Nat} {n : Int} (hs : P.underlying s = some ds) (hd : P.underlying d = some (.int k)) (hn : (k'.decode b).toInt .zero = some n) (hm : k.min ≤ n ∧ n ≤ k.max) : (convert s d (.float k' b)).run P w = .ok (.int k n) w := by
  unfold convert
  simp only [Sem.run_bind, run_underlying hs, run_underlying hd, Result.andThen_ok]
  cases ds <;> simp only [Conv.floatToInt, hn, if_pos hm, Sem.run_pure]
theorem run_conv_flt {s d : TypeId} {k : FloatKind} {k' : IntKind} {ds : TypeDesc} {n : Int} (hs : P.underlying s = some ds) (hd : P.underlying d = some (.float k)) : (convert s d (.int k' n)).run P w = .ok (.float k (k.nearest n)) w := by
  unfold convert
  simp only [Sem.run_bind, run_underlying hs, run_underlying hd, Result.andThen_ok]
  cases ds <;> rfl
theorem run_conv_str {s d : TypeId} {t : ByteArray} (hs : P.underlying s = some .string) (hd : P.underlying d = some .string) : (convert s d (.string t)).run P w = .ok (.string t) w := by
  unfold convert
  simp only [Sem.run_bind, run_underlying hs, run_underlying hd, Result.andThen_ok, Sem.run_pure]
theorem run_conv_b2s {s d e : TypeId} {x : Option Addr} {l c : Nat} (hs : P.underlying s = some (.slice e)) (hd : P.underlying d = some .string) (he : P.underlying e = some (.int .u8)) : (convert s d (.slice x l c)).run P w = (Conv.bytesToString (.slice x l c)).run P w := by
  unfold convert
  simp only [Sem.run_bind, run_underlying hs, run_underlying hd, run_underlying he, Result.andThen_ok]
theorem run_conv_s2b {s d e : TypeId} {t : ByteArray} {ds : TypeDesc} (hs : P.underlying s = some ds) (hd : P.underlying d = some (.slice e)) (he : P.underlying e = some (.int .u8)) : (convert s d (.string t)).run P w = (Conv.stringToBytes e t).run P w := by
  unfold convert
  simp only [Sem.run_bind, run_underlying hs, run_underlying hd, Result.andThen_ok]
  cases ds <;> simp only [run_underlying he, Result.andThen_ok]
theorem alloc_put (w : World) (O O' : Obj) : (w.alloc O).putObj w.heap.size O' = w.alloc O' := by
  unfold World.putObj World.alloc
  simp only
  congr 1
  apply Array.ext_getElem?
  intro k
  rw [Array.getElem?_setIfInBounds, Array.getElem?_push, Array.getElem?_push, Array.size_push]
  by_cases hk : w.heap.size = k
  · subst hk; simp
  · rw [if_neg hk]
    have : ¬ k = w.heap.size := fun e => hk e.symm
    simp [this]
theorem s2b_post (H : HR cx g h w n0) (hd : DR g h.df ds) (h0 : n0 ≤ w.heap.size) {e : TypeId} {l : List Nat} {t : ByteArray} (ht : t.data.toList.map UInt8.toNat = l) {cs : List RV} (hcs : bytesC l = some cs) {h' : Hp}
    (hget : ∀ q, h'.get q = if q = h.n then some (.cells cs e (some 1) 1 0 []) else h.get q) (hn : h'.n = h.n.succ) (hdf : h'.df = h.df) :
    ∃ V w', (Conv.stringToBytes e t).run P w = .ok V w' ∧ Post cx n0 g w h' (.sl h.n 0 l.length l.length false) V ds w' := by
  have hge := grownCap_ge w t.size 0 e
  rw [← ht] at hcs
  obtain ⟨b1, b2, b3⟩ := bytesC_ok g hcs
  have hsz := size_of_bytes ht
  have hel : (t.data.map fun b => Value.int .u8 b.toNat).size = t.size := by rw [Array.size_map]; rfl
  have hrun : (Conv.stringToBytes e t).run P w = .ok (.slice (some ⟨w.heap.size, 0, none⟩) t.size (grownCap w t.size 0 e))
      ((w.drew.alloc (.cells ((t.data.map fun b => Value.int .u8 b.toNat) ++ Array.replicate (grownCap w t.size 0 e - t.size) (.int .u8 0)) e)).freeze ⟨w.heap.size, grownCap w t.size 0 e, none⟩ 1) := by
    unfold Conv.stringToBytes
    simp only [Sem.run_bind, run_choose_drew, Question.forced, Bool.false_eq_true, if_false, Result.andThen_ok, newRow, run_newObj_alloc, Sem.run_pure, markStringish, run_shape]
    have hsh : (w.drew.alloc (.cells ((t.data.map fun b => Value.int .u8 b.toNat) ++ Array.replicate (grownCap w t.size 0 e - t.size) (.int .u8 0)) e)).shape? w.heap.size = some (e, grownCap w t.size 0 e) := by
      unfold World.shape?
      rw [show (w.drew.alloc (.cells ((t.data.map fun b => Value.int .u8 b.toNat) ++ Array.replicate (grownCap w t.size 0 e - t.size) (.int .u8 0)) e)).heap[w.heap.size]? = some (.cells ((t.data.map fun b => Value.int .u8 b.toNat) ++ Array.replicate (grownCap w t.size 0 e - t.size) (.int .u8 0)) e) by show (w.heap.push _)[w.heap.size]? = _; simp]
      simp only [Array.size_append, hel, Array.size_replicate]
      congr 2
      omega
    have hsh' : (w.drew.alloc (.cells ((t.data.map fun b => Value.int .u8 b.toNat) ++ Array.replicate ((Question.appendCap t.size 0 e).cut (w.tape w.drawn (Question.appendCap t.size 0 e)) - t.size) (.int .u8 0)) e)).shape? w.drew.heap.size = some (e, grownCap w t.size 0 e) := hsh
    rw [hsh']
    simp only [run_freeze, Result.andThen_ok]
    rfl
  have hO : (w.drew.alloc (.cells ((t.data.map fun b => Value.int .u8 b.toNat) ++ Array.replicate (grownCap w t.size 0 e - t.size) (.int .u8 0)) e)).heap[w.heap.size]? = some (.cells ((t.data.map fun b => Value.int .u8 b.toNat) ++ Array.replicate (grownCap w t.size 0 e - t.size) (.int .u8 0)) e (0, 0)) := by
    show (w.heap.push _)[w.heap.size]? = _; simp
  rw [freeze_eq hO (by omega)] at hrun
  have hput := alloc_put w.drew (.cells ((t.data.map fun b => Value.int .u8 b.toNat) ++ Array.replicate (grownCap w t.size 0 e - t.size) (.int .u8 0)) e) (.cells ((t.data.map fun b => Value.int .u8 b.toNat) ++ Array.replicate (grownCap w t.size 0 e - t.size) (.int .u8 0)) e (frz (0, 0) (grownCap w t.size 0 e) 1))
  rw [show w.drew.heap.size = w.heap.size from rfl] at hput
  rw [hput] at hrun
  have hle : g.Le (g.add h.n w.heap.size 0 (grownCap w t.size 0 e - t.size)) := Gh.add_le H.fresh
  have hcsz : ((t.data.map fun (b : UInt8) => Value.int .u8 b.toNat) ++ Array.replicate (grownCap w t.size 0 e - t.size) (Value.int .u8 0)).size = grownCap w t.size 0 e := by
    simp only [Array.size_append, hel, Array.size_replicate]; omega
  have hlen : cs.length = t.size := by rw [b1, Array.length_toList]; rfl
  have htk : (((t.data.map fun (b : UInt8) => Value.int .u8 b.toNat) ++ Array.replicate (grownCap w t.size 0 e - t.size) (Value.int .u8 0)).toList.drop 0).take cs.length = t.data.toList.map fun (b : UInt8) => Value.int .u8 b.toNat := by
    rw [List.drop_zero, Array.toList_append, Array.toList_map, List.take_append_of_le_length (by rw [b3.length]; exact Nat.le_refl _), List.take_of_length_le (by rw [b3.length]; exact Nat.le_refl _)]
  generalize ((t.data.map fun (b : UInt8) => Value.int .u8 b.toNat) ++ Array.replicate (grownCap w t.size 0 e - t.size) (Value.int .u8 0)) = CS at hrun hcsz htk
  obtain ⟨p1, p2⟩ := HR.alloc (w := w.drew) H.drew (O := .cells CS e (frz (0, 0) (grownCap w t.size 0 e) 1)) (x := grownCap w t.size 0 e - t.size) hget hn
    ⟨w.heap.size, 0, CS, frz (0, 0) (grownCap w t.size 0 e) 1, by simp [Gh.add], h0, by show (w.heap.push _)[w.heap.size]? = _; simp only [Array.getElem?_push_size], by
      rw [hcsz]
      simp only [Gh.add, if_true]
      omega, by
      rw [htk]
      exact b3.mono hle, b2, by
      rw [hcsz]
      refine ⟨fun i _ c2 c3 _ => ?_, ?_, fun h => by cases h⟩
      · simp [frz] at c3; omega
      · simp [frz]⟩
  refine ⟨_, _, hrun, _, ⟨p2.le, p2.size, p2.new, p2.keep, p2.os, p2.tape, p2.output⟩, p1, ?_, by rw [hdf]; exact hd.mono hle⟩
  have := sl_grown (g := g) (B := w.heap.size) (o := 0) (x := grownCap w t.size 0 e - t.size) (n := t.size) (h := h)
  rw [show t.size + (grownCap w t.size 0 e - t.size) = grownCap w t.size 0 e by omega] at this
  rw [← hsz]
  exact this
theorem liesAt_self {ty : TypeId} {n : Nat} (hs : P.cellsOf ty = n) (hn : n ≠ 0) : liesAt P P.depth ty 1 0 ty 1 = true := by
  obtain ⟨d, hd⟩ := depth_pos P
  have hf : ∀ k, sameLayout P (k + 1) ty ty = true := fun k => by unfold sameLayout; simp
  have hr : rowAt P (sameLayout P P.depth · ty) P.depth ty 1 0 1 = true := by
    rw [hd]
    unfold rowAt
    simp only [hs, hf, hn, if_false, Nat.zero_div, Nat.zero_mod, beq_self_eq_true, Nat.zero_add, Nat.le_refl, decide_true, Bool.and_self, Bool.true_or]
  have : liesAt P (d + 1) ty 1 0 ty 1 = true := by
    unfold liesAt
    rw [hr]
    simp
  rw [hd]; exact this
theorem lenOk_ok (hT : TOk P cx.Γ) {cs : List RV} {t : TypeId} (h : lenOk cx.Γ cs t = true) : P.cellsOf t = cs.length ∧ cs.length ≠ 0 := by
  unfold lenOk at h
  cases e : cx.Γ.ty t with
  | none => rw [e] at h; cases h
  | some ty =>
    rw [e] at h
    have h : ifB (Nat.beq ty.size 0) false (Nat.beq (lenL cs 0) ty.size) = true := h
    cases e2 : Nat.beq ty.size 0 with
    | true => rw [e2] at h; cases h
    | false =>
      rw [e2, ifB_false, nbeq_eq, decide_eq_true_eq, lenL_zero] at h
      rw [nbeq_eq, decide_eq_false_iff_not] at e2
      obtain ⟨i, i1, i2, _⟩ := size_inv hT e
      exact ⟨by rw [cellsOf_eq i1, i2, ← h], by omega⟩
theorem seenK_ok (hT : TOk P cx.Γ) {t u : TypeId} {n s : Nat} (h : seenK cx.Γ t u = true) (hc : P.cellsOf t = n) (hn : n ≠ 0) (hs : sizeT cx.Γ u = some s) (hs0 : ¬ s = 0) : liesAt P P.depth t 1 0 u 1 = true := by
  unfold seenK at h
  cases e : Nat.beq t u with
  | true =>
    rw [nbeq_eq, decide_eq_true_eq] at e
    subst e
    exact liesAt_self hc hn
  | false =>
    rw [e, ifB_false] at h
    cases e1 : cx.Γ.ty t with
    | none => rw [e1] at h; cases h
    | some ty =>
      rw [e1] at h
      have h : ifB (pairK cx.Γ ty.k) (firstK u ty.k) false = true := h
      cases e2 : pairK cx.Γ ty.k with
      | false => rw [e2] at h; cases h
      | true =>
        rw [e2, ifB_true] at h
        have hh := (hT t ty e1).held e2
        unfold firstK at h
        split at h
        · rename_i a v r hk
          obtain ⟨gs, g1, g2⟩ := ty_st hT e1 hk
          have h : ifB (Nat.beq a 0) (Nat.beq v u) false = true := h
          cases e3 : Nat.beq a 0 with
          | false => rw [e3] at h; cases h
          | true =>
            rw [e3, ifB_true, nbeq_eq, decide_eq_true_eq] at h
            rw [nbeq_eq, decide_eq_true_eq] at e3
            subst h e3
            obtain ⟨ty', t1, t2⟩ := bnd_inv hs
            cases t2
            obtain ⟨i, i1, i2, _⟩ := size_inv hT t1
            have hcu : P.cellsOf v = ty'.size := by rw [cellsOf_eq i1, i2]
            have hd : P.depth = (2 * (P.types.size + Made.depth) + 1) + 1 := rfl
            obtain ⟨f, fs, hf⟩ : ∃ f fs, gs.toList = f :: fs := by
              cases hg : gs.toList with
              | nil => rw [hg] at g2; cases g2
              | cons f fs => exact ⟨f, fs, rfl⟩
            rw [hf] at g2
            have g3 : (f.offset, f.type) = (0, v) := (List.cons.inj g2).1
            have g4 : f.offset = 0 := congrArg Prod.fst g3
            have g5 : f.type = v := congrArg Prod.snd g3
            have hin : rowAt P (sameLayout P P.depth · v) (2 * (P.types.size + Made.depth) + 1) v 1 0 1 = true := by
              have hff : sameLayout P P.depth v v = true := by rw [hd]; unfold sameLayout; simp
              unfold rowAt
              simp only [hcu, hs0, if_false, Nat.zero_div, Nat.zero_mod, beq_self_eq_true, Nat.zero_add, Nat.le_refl, decide_true, Bool.and_self, Bool.true_or, hff]
            have hr : rowAt P (sameLayout P P.depth · v) P.depth t 1 0 1 = true := by
              rw [hd]
              rw [hd] at hin
              unfold rowAt
              simp only [hc, hn, if_false, Nat.zero_div, Nat.zero_mod, g1, hh, Bool.not_false, Bool.true_and]
              rw [Bool.or_eq_true]
              right
              rw [Bool.and_eq_true]
              refine ⟨by simp, ?_⟩
              rw [← Array.any_toList, hf, List.any_cons, Bool.or_eq_true]
              left
              rw [g4, g5, hcu]
              simp only [Nat.le_refl, decide_true, Bool.true_and, Nat.zero_add, Nat.sub_zero, hin, Bool.and_true, decide_eq_true_eq]
              omega
            rw [hd] at hr ⊢
            unfold liesAt
            rw [hd, hr]
            simp
        · cases h
theorem conv_ok (hT : TOk P cx.Γ) (H : HR cx g h w n0) (hd : DR g h.df ds) (h0 : n0 ≤ w.heap.size) {s d : TypeId} {x v : RV} {X : Value} {h' : Hp} (hx : VR g x X) (hc : convV cx.Γ h s d x = some ⟨v, h'⟩) :
    ∃ V w', (convert s d X).run P w = .ok V w' ∧ Post cx n0 g w h' v V ds w' := by
  obtain ⟨ta, k1, hc1⟩ := bnd_inv hc
  obtain ⟨tb, k2, hc2⟩ := bnd_inv hc1
  clear hc hc1
  have hc := hc2
  clear hc2
  obtain ⟨da, a1, a2⟩ := ty_inv hT k1
  split at hc
  · rename_i k hk
    split at hc
    · rename_i k' n
      rw [ri_eq, wrapI_eq] at hc
      cases hc
      rw [hx.int_inv]
      exact ⟨_, w, run_conv_int a1 (ty_int hT k2 hk), Post.same H (.int _ _) hd⟩
    · rename_i k' b
      obtain ⟨n, e1, hc⟩ := bnd_inv hc
      obtain ⟨e2, hc⟩ := ifB_none hc
      rw [ri_eq] at hc
      cases hc
      rw [hx.flt_inv]
      refine ⟨_, w, run_conv_fi a1 (ty_int hT k2 hk) e1 ?_, Post.same H (.int _ _) hd⟩
      rw [ltI_eq, ltI_eq] at e2
      by_cases h1 : n < k.min
      · rw [decide_eq_true h1] at e2; cases e2
      · by_cases h2 : k.max < n
        · rw [decide_eq_false h1, decide_eq_true h2] at e2; cases e2
        · exact ⟨by omega, by omega⟩
    · cases hc
  · rename_i hk
    have u2 := ty_str hT k2 hk
    split at hc
    · rename_i l
      obtain ⟨h1, h2⟩ := ifB_none hc
      cases h2
      obtain ⟨t, rfl, e1⟩ := hx.str_inv
      have hka : ta.k = .str := by
        revert h1
        cases ta.k <;> first | (intro; rfl) | (intro h; cases h)
      exact ⟨_, w, run_conv_str (ty_str hT k1 hka) u2, Post.same H (.str _ _ e1) hd⟩
    · obtain ⟨el, te, u1, u3, u4⟩ := elemK_inv hT hc
      obtain ⟨h1, h2⟩ := ifB_none u4
      cases h2
      rw [hx.nils_inv]
      refine ⟨.string .empty, w, ?_, Post.same H (.str [] .empty rfl) hd⟩
      rw [run_conv_b2s u1 u2 (ty_int hT u3 (isU8_inv h1))]
      simp only [Conv.bytesToString, Sem.run_pure]
    · rename_i bl off n c tt
      obtain ⟨el, te, u1, u3, u4⟩ := elemK_inv hT hc
      obtain ⟨h1, h2⟩ := ifB_none u4
      obtain ⟨cs, h3, h4⟩ := bnd_inv h2
      obtain ⟨l, h5, h6⟩ := bnd_inv h4
      cases h6
      obtain ⟨B, o, CAP, m, rfl, _⟩ := hx.sl_inv
      obtain ⟨B', o', L, m', l1, l2, l3, l4⟩ := loadC_ok H h3
      rw [m] at m'
      cases m'
      obtain ⟨bs, e1, e2⟩ := numsS_ok h5
      have hbl : bs.length = n := by rw [← l1, e2, List.length_map]
      obtain ⟨t, t1, t2⟩ := run_b2s (P := P) (w := w) (B := B) (o := o + off) (c := CAP) (bs := bs) fun j b hj => by
        have hj2 : cs[j]? = some (.int .u8 (.ofNat b.toNat)) := by rw [e2, List.getElem?_map, hj]; rfl
        obtain ⟨V, v1, v2⟩ := l3.at hj2
        rw [l2 j V v1, v2.int_inv]
        rfl
      rw [hbl] at t1
      refine ⟨.string t, w, ?_, Post.same H (.str _ _ (by rw [t2]; exact e1)) hd⟩
      rw [run_conv_b2s u1 u2 (ty_int hT u3 (isU8_inv h1)), t1]
    · cases hc
  · rename_i el hk
    have u2 := ty_sl hT k2 hk
    split at hc
    · rename_i l
      obtain ⟨te, h1, h2⟩ := bnd_inv hc
      obtain ⟨h3, h4⟩ := ifB_none h2
      obtain ⟨cs, h5, h6⟩ := bnd_inv h4
      rw [forceN_eq, lenL_zero] at h6
      obtain ⟨h1', e1, e2, e3, e4⟩ := Hp.new_ok h6
      cases e1
      obtain ⟨t, rfl, t1⟩ := hx.str_inv
      rw [run_conv_s2b a1 u2 (ty_int hT h1 (isU8_inv h3))]
      exact s2b_post H hd h0 t1 h5 e2 e3 e4
    · cases hc
  · rename_i k hk
    split at hc
    · rename_i k' n
      rw [forceN_eq] at hc
      cases hc
      rw [hx.int_inv]
      obtain ⟨d2, b1, b2⟩ := ty_inv hT k2
      rw [hk] at b2
      cases b2
      exact ⟨_, w, run_conv_flt a1 b1, Post.same H (.flt _ _) hd⟩
    · cases hc
  · rename_i hk
    split at hc
    · rename_i bl off
      split at hc
      · rename_i el hka
        obtain ⟨s, h1, h2⟩ := bnd_inv hc
        obtain ⟨h3, h4⟩ := ifB_none' h2
        obtain ⟨cs, ty, g1, g2⟩ := getR_ok h4
        obtain ⟨h5, h6⟩ := ifB_none g2
        cases h6
        obtain ⟨B, o, m, rfl⟩ := hx.ptr_inv
        obtain ⟨B', o', CS, fz, k1', k2', k3, k4, k5⟩ := H.read g1
        rw [m] at k1'
        cases k1'
        rw [nblt_eq, decide_eq_true_eq, lenL_zero] at h5
        rw [nbeq_eq, decide_eq_false_iff_not] at h3
        have u1 := ty_ptr hT k1 hka
        have u2 : P.underlying d = some .unsafePointer := by
          obtain ⟨db, b1, b2⟩ := ty_inv hT k2
          rw [hk] at b2
          cases b2
          exact b1
        refine ⟨_, w, ?_, Post.same H hx hd⟩
        have hsh : w.shape? B = some (ty, CS.size) := by simp [World.shape?, k2']
        have hlt : ¬ CS.size ≤ o + off := by omega
        simp only [convert, Sem.run_bind, run_underlying u1, run_underlying u2, Result.andThen_ok, Conv.unsafePointer, Conv.seenAt, viewAt, cellsIn, run_shape, hsh, Option.isSome_some, if_true, Sem.run_pure, run_sizeT hT h1]
        rw [if_neg (by simp [h3, hlt])]
        rfl
      · cases hc
    · cases hc
  · rename_i u hk
    split at hc
    · rename_i bl off
      split at hc
      · rename_i hka
        obtain ⟨cs, ty, sz, lo, hi, anc, g1, g2⟩ := getC_ok hc
        obtain ⟨h1, g3⟩ := ifB_none g2
        obtain ⟨h2, g4⟩ := ifB_none g3
        obtain ⟨s1, h3, g5⟩ := bnd_inv g4
        obtain ⟨h4, g6⟩ := ifB_none' g5
        obtain ⟨h5, g7⟩ := ifB_none g6
        split at g7
        · cases g7
          rw [nbeq_eq, decide_eq_true_eq] at h2
          rw [nbeq_eq, decide_eq_false_iff_not] at h4
          subst h2
          obtain ⟨B, o, m, rfl⟩ := hx.ptr_inv
          obtain ⟨B', o', CS, fz, k1', k2', k3, k4, k5⟩ := H.obj bl _ g1
          rw [m] at k1'
          cases k1'
          obtain ⟨rfl, k4⟩ := k4
          have u1 : P.underlying s = some .unsafePointer := by
            obtain ⟨db, b1, b2⟩ := ty_inv hT k1
            rw [hka] at b2
            cases b2
            exact b1
          have u2 := ty_ptr hT k2 hk
          have hsh : w.shape? B = some (ty, CS.size) := by simp [World.shape?, k3]
          obtain ⟨hc1, hpos⟩ := lenOk_ok hT h5
          rw [← k4] at hc1 hpos
          have hl : liesAt P P.depth ty (CS.size / P.cellsOf ty) 0 u 1 = true := by
            rw [hc1, Nat.div_self (by omega)]
            exact seenK_ok hT h1 hc1 hpos h3 h4
          refine ⟨_, w, ?_, Post.same H hx hd⟩
          simp only [convert, Sem.run_bind, run_underlying u1, run_underlying u2, Result.andThen_ok, Conv.unsafePointer, Conv.seenAt, viewAt, variablesAt, run_shape, run_program, hsh, Option.isSome_some, if_true, Sem.run_pure, run_sizeT hT h3, Nat.add_zero, hl, Option.isNone_none, Bool.and_true, decide_true, Bool.or_true]
        · cases g7
      · cases hc
    · cases hc
  · cases hc
end
end Go.E
end

section
/- E: iterators. No condition. -/
namespace Go.E
open Go Go.RowKit
section
variable {P : Program} {cx : Ctx} {n0 : Nat} {g : Gh} {h : Hp} {w : World} {mk : Nat} {e : Env} {a : Act} {F : Fence} {o : Oper} {call : CallK} {R : Type} {y : R} {k : RV → Hp → Option R}
theorem outK_inv {o : Option Out} {k : RV → Hp → Option R} (h : outK o k = some y) : ∃ v h', o = some ⟨v, h'⟩ ∧ k v h' = some y := by
  obtain ⟨⟨v, h'⟩, h1, h2⟩ := bnd_inv h
  exact ⟨v, h', h1, h2⟩
theorem outK_some {R' : Type} {v : RV} {h' : Hp} {o : Option Out} (ho : o = some ⟨v, h'⟩) (k' : RV → Hp → Option R') : outK o k' = k' v h' := by rw [ho]; rfl
theorem range_does (hT : TOk P cx.Γ) (H : HR cx g h w n0) (h0 : n0 ≤ w.heap.size) (he : ER g mk e a.tmps) (hd : DR g h.df a.defers) {t : TypeId} {x : Operand} (hop : o.op = .range t x) (hk : oRange t x cx mk call e h k = some y) :
    Does F P cx n0 g w a.defers y k (fun k' => oRange t x cx mk call e h k') ((execOp a.eval o).run P w) := by
  obtain ⟨u, h1, h2⟩ := bnd_inv hk
  obtain ⟨v, h', h3, h4⟩ := outK_inv h2
  refine ⟨v, h', h4, fun k' => by
    unfold oRange
    rw [h1]
    exact outK_some h3 k', ?_⟩
  have hX := ev_ok H he h1
  obtain ⟨ty, k1, h5⟩ := bnd_inv h3
  have top : ∀ {V : Value} {w' : World}, (Instr.range t (a.eval x)).run P w = .ok V w' → (execOp a.eval o).run P w = .ok (.value V) w' := fun hr => by
    unfold execOp
    rw [hop]
    simp only [Sem.run_bind, hr, Result.andThen_ok, Sem.run_pure]
  -- a new block
  have fin : ∀ {ob : RO} {O : Obj}, h.new ob (fun b h => some (⟨.ptr b 0, h⟩ : Out)) = some ⟨v, h'⟩ → (Instr.range t (a.eval x)).run P w = .ok (.pointer (some ⟨w.heap.size, 0, none⟩)) (w.alloc O) →
      OR cx (g.add h.n w.heap.size 0 0) (w.alloc O) n0 h.n ob → Goes F P a.defers (Post cx n0 g w h' v) ((execOp a.eval o).run P w) := by
    intro ob O hn hr hob
    obtain ⟨h1', e1, e2, e3, e4⟩ := Hp.new_ok hn
    cases e1
    rw [top hr]
    obtain ⟨p1, p2⟩ := H.alloc (x := 0) e2 e3 hob
    exact ⟨_, p2, p1, VR.ptr (o := 0) 0 (by simp [Gh.add]), by rw [e4]; exact hd.mono p2.le⟩
  have hnew : ∀ (O : Obj), (w.alloc O).heap[w.heap.size]? = some O := fun O => heap_alloc_new w O
  split at h5
  · rename_i hkk
    split at h5
    · rename_i l
      obtain ⟨s, e1, e2⟩ := hX.str_inv
      exact fin (O := .stringIter s 0) h5 (by rw [e1]; simp [Instr.range, run_underlying (ty_str hT k1 hkk)]) ⟨w.heap.size, s, by simp [Gh.add], h0, hnew _, e2⟩
    · cases h5
  · rename_i kk ee hkk
    have u := ty_map hT k1 hkk
    split at h5
    · rename_i m
      obtain ⟨es, c, g1, g2⟩ := getM_ok h5
      obtain ⟨M, m1, m2⟩ := hX.map_inv
      obtain ⟨M', ES, q1, q2, q3, q4⟩ := H.obj m _ g1
      rw [m1] at q1
      cases q1
      have hne : m ≠ h.n := fun e => by rw [e] at m1; rw [H.fresh] at m1; cases m1
      exact fin (O := .mapIter (some M) c #[] c) g2 (by rw [m2]; exact run_range_map w t kk ee M ES c u q3) ⟨w.heap.size, M, #[], by simp [Gh.add], h0, by simp [Gh.add, hne, m1], hnew _, rfl⟩
    · have := hX.nilm_inv
      exact fin (O := .mapIter none 0 #[] 0) h5 (by rw [this]; exact run_range_nilMap w t kk ee u) ⟨w.heap.size, by simp [Gh.add], h0, hnew _⟩
    · cases h5
  · cases h5
theorem memN_ok {n : Nat} : ∀ {l : List Nat}, memN n l = l.contains n
  | [] => rfl
  | a :: l => by
    show ifB (Nat.beq a n) true (memN n l) = _
    rw [memN_ok, List.contains_cons, nbeq_eq]
    by_cases h : a = n
    · subst h; simp
    · have h' : ¬ n = a := fun e => h e.symm
      simp [h, h']
theorem left_ok {seen : List Nat} {SEEN : Array Nat} (hs : SEEN.toList = seen) : ∀ {es : List (RV × RV × Nat)} {L : List MapEntry}, ERs g es L → ERs g (leftE seen es) (L.filter fun e => !SEEN.contains e.born)
  | _, _, .nil => .nil
  | _, _, .cons (k := k) (v := v) (n := n) (K := K) (V := V) (l := l) (L := L) hk hv hr => by
    have ih := left_ok hs hr
    show ERs g (ifB (memN n seen) (leftE seen l) ((k, v, n) :: leftE seen l)) _
    have hc : SEEN.contains n = memN n seen := by rw [memN_ok, ← hs]; simp
    rw [List.filter_cons]
    simp only [hc]
    cases memN n seen with
    | true => simp only [Bool.not_true, Bool.false_eq_true, if_false]; exact ih
    | false => simp only [Bool.not_false, if_true]; exact .cons hk hv ih
theorem any_ok {stepped : Nat} : ∀ {es : List (RV × RV × Nat)} {L : List MapEntry}, ERs g es L → (es.any fun e => Nat.blt e.2.2 stepped) = true → (L.all fun e => decide (e.born ≥ stepped)) = false
  | _, _, .nil, h => by cases h
  | _, _, .cons (n := n) hk hv hr, h => by
    simp only [List.any_cons, Bool.or_eq_true] at h
    rw [List.all_cons]
    rcases h with h | h
    · rw [nblt_eq, decide_eq_true_eq] at h
      simp; intro h2; omega
    · rw [any_ok hr h, Bool.and_false]
theorem nextM_ok (H : HR cx g h w n0) {ds : List Deferred} (hd : DR g h.df ds) {r m : Ps} {since stepped : Nat} {seen : List Nat} (hr : h.get r = some (.mit m since seen stepped)) {X : Value} (hX : VR g (.ptr r 0) X) {v : RV} {h' : Hp} (hn : nextM h r m since seen stepped = some ⟨v, h'⟩) (ty : TypeId) :
    ∃ V w', (Instr.next X false ty).run P w = .ok V w' ∧ Post cx n0 g w h' v V ds w' := by
  obtain ⟨es, c, g1, g2⟩ := getM_ok hn
  obtain ⟨RR, M, SEEN, r1, r2, r3, r4, r5⟩ := H.obj r _ hr
  obtain ⟨M', ES, q1, q2, q3, q4⟩ := H.obj m _ g1
  rw [r3] at q1
  cases q1
  obtain ⟨B, o', m1, rfl⟩ := hX.ptr_inv
  rw [r1] at m1
  cases m1
  have hL := left_ok r5 q4
  have hfil : ES.filter (fun e => !SEEN.contains e.born) = (ES.toList.filter fun e => !SEEN.contains e.born).toArray := by
    apply Array.ext'; simp
  have hempty : SEEN.isEmpty = seen.isEmpty := by rw [← r5]; simp
  -- the machine's first test falls
  have test : (seen.isEmpty = true ∨ es = [] ∨ (es.any fun e => Nat.blt e.2.2 stepped) = true) → (!SEEN.isEmpty && !ES.isEmpty && ES.all (fun e => decide (e.born ≥ stepped))) = false := by
    rintro (h1 | h1 | h1)
    · rw [hempty, h1]; rfl
    · subst h1
      have : ES.toList = [] := by have := q4.length; simpa using this
      have : ES = #[] := by apply Array.ext'; simpa using this
      subst this
      simp
    · have := any_ok q4 h1
      have h2 : ES.all (fun e => decide (e.born ≥ stepped)) = false := by rw [← Array.all_toList]; exact this
      rw [h2, Bool.and_false]
  have over : leftE seen es = [] → (seen.isEmpty = true ∨ es = [] ∨ (es.any fun e => Nat.blt e.2.2 stepped) = true) → some (⟨.tup [.bool false], h⟩ : Out) = some ⟨v, h'⟩ → ∃ V w', (Instr.next (.pointer (some ⟨RR, 0 + 0, none⟩)) false ty).run P w = .ok V w' ∧ Post cx n0 g w h' v V ds w' := by
    intro h1 h2 h3
    cases h3
    rw [h1] at hL
    generalize hq : (ES.toList.filter fun e => !SEEN.contains e.born) = Q at hL hfil
    cases hL
    refine ⟨.tuple #[.bool false], w, ?_, Post.same H (.tup (.cons (.bool _) .nil)) hd⟩
    have ht := test h2
    simp only [Instr.next, getObj, Sem.run_bind, Sem.run, r4, Result.andThen, q3]
    rw [if_neg (by rw [ht]; simp)]
    simp only [hfil]
    simp [Sem.run, choose, Question.forced]
  split at g2
  · rename_i hl
    split at g2
    · exact over hl (.inl rfl) g2
    · split at g2
      · exact over hl (.inr (.inl rfl)) g2
      · obtain ⟨h1, h2⟩ := ifB_none g2
        exact over hl (.inr (.inr h1)) h2
  · rename_i e0 hl
    obtain ⟨h1, h2⟩ := ifB_none g2
    obtain ⟨h3, h4⟩ := ifB_none h2
    obtain ⟨seen2, h5, h6⟩ := bnd_inv h4
    rw [appS_eq] at h5
    cases h5
    obtain ⟨h7, h8, h9⟩ := bnd_inv h6
    cases h9
    rw [hl] at hL
    generalize hq : (ES.toList.filter fun e => !SEEN.contains e.born) = Q at hL hfil
    obtain ⟨k0, v0, n0'⟩ := e0
    cases hL with
    | cons hk hv hs =>
    cases hs
    rename_i K V
    rw [nblt_eq, decide_eq_true_eq] at h1
    have h1 : n0' < since := h1
    have ht := test (by
      clear hq hfil over g2 h4 h6 h8 hn hl h2 test hempty r5 r4 hr
      cases seen with
      | nil => exact .inl rfl
      | cons q seen => exact .inr (.inr h3))
    obtain ⟨s1, s2, s3⟩ := Hp.set_ok h8
    obtain ⟨x1, x2⟩ := H.put (O := .mapIter (some M) since (SEEN.push n0') c) hr rfl r1 r2 (by intro c cs ty hc; simp [RO.anc]) s1 s2 rfl
      ⟨RR, M, SEEN.push n0', r1, r2, r3, World.putObj_heap_same (Array.getElem?_eq_some_iff.1 r4).1, by rw [Array.toList_push, r5]⟩
    refine ⟨.tuple #[.bool true, K, V], w.putObj RR (.mapIter (some M) since (SEEN.push n0') c), ?_, g, x2, x1, .tup (.cons (.bool _) (.cons hk (.cons hv .nil))), by rw [s3]; exact hd⟩
    simp only [Instr.next, getObj, Sem.run_bind, Sem.run, r4, Result.andThen, q3]
    rw [if_neg (by rw [ht]; simp)]
    have hge : ¬ since ≤ n0' := by omega
    simp only [hfil]
    simp [Sem.run, choose, setObj, Question.forced, h1, hge, r4, World.putObj]
  · cases g2
theorem bytes_get {s : ByteArray} {l : List Nat} (hs : s.data.toList.map UInt8.toNat = l) {pos c : Nat} (h : l[pos]? = some c) : ∃ hp : pos < s.size, (s[pos]'hp).toNat = c := by
  subst hs
  rw [List.getElem?_map] at h
  obtain ⟨b, h1, h2⟩ := Option.map_eq_some_iff.1 h
  obtain ⟨hp, h3⟩ := List.getElem?_eq_some_iff.1 h1
  have hp' : pos < s.size := by simpa using hp
  refine ⟨hp', ?_⟩
  rw [← h2, ← h3]
  rfl
theorem next_does (H : HR cx g h w n0) (he : ER g mk e a.tmps) (hd : DR g h.df a.defers) {x : Operand} {s : Bool} (hop : o.op = .next x s) (hk : oNext x s cx mk call e h k = some y) :
    Does F P cx n0 g w a.defers y k (fun k' => oNext x s cx mk call e h k') ((execOp a.eval o).run P w) := by
  obtain ⟨u, h1, h2⟩ := bnd_inv hk
  obtain ⟨v, h', h3, h4⟩ := outK_inv h2
  refine ⟨v, h', h4, fun k' => by
    unfold oNext
    rw [h1]
    exact outK_some h3 k', ?_⟩
  have hX := ev_ok H he h1
  have top : ∀ {V : Value} {w' : World}, (Instr.next (a.eval x) s o.type).run P w = .ok V w' → (execOp a.eval o).run P w = .ok (.value V) w' := fun hr => by
    unfold execOp
    rw [hop]
    simp only [Sem.run_bind, hr, Result.andThen_ok, Sem.run_pure]
  suffices ∃ V w', (Instr.next (a.eval x) s o.type).run P w = .ok V w' ∧ Post cx n0 g w h' v V a.defers w' by
    obtain ⟨V, w', r1, r2⟩ := this
    rw [top r1]
    exact r2
  unfold nextV at h3
  split at h3
  · rename_i r
    obtain ⟨ob, g1, g2⟩ := bnd_inv h3
    split at g2
    · rename_i l pos
      cases s with
      | false => cases g2
      | true =>
      have g2 : nextS h r l pos = some ⟨v, h'⟩ := g2
      obtain ⟨RR, st, r1, r2, r3, r4⟩ := H.obj r _ g1
      obtain ⟨B, o', m1, e1⟩ := hX.ptr_inv
      rw [r1] at m1
      cases m1
      rw [e1]
      unfold nextS at g2
      cases hat : at_ l pos with
      | none =>
        rw [hat] at g2
        cases g2
        rw [at_eq] at hat
        have hp : ¬ pos < st.size := by
          rw [size_of_bytes r4]
          intro h
          rw [List.getElem?_eq_getElem h] at hat
          cases hat
        exact ⟨_, w, Lib.run_next_end_at w RR st pos o.type r3 hp, Post.same H (.tup (.cons (.bool _) .nil)) hd⟩
      | some c =>
        rw [hat] at g2
        obtain ⟨h5, h6⟩ := ifB_none (show ifB (Nat.blt c 128) _ none = some (⟨v, h'⟩ : Out) from g2)
        obtain ⟨h7, h8, h9⟩ := bnd_inv h6
        cases h9
        rw [at_eq] at hat
        obtain ⟨hp, hc⟩ := bytes_get r4 hat
        rw [nblt_eq, decide_eq_true_eq] at h5
        obtain ⟨s1, s2, s3⟩ := Hp.set_ok h8
        obtain ⟨x1, x2⟩ := H.put (O := .stringIter st (pos + 1)) g1 rfl r1 r2 (by intro c cs ty hc; simp [RO.anc]) s1 s2 rfl
          ⟨RR, st, r1, r2, World.putObj_heap_same (Array.getElem?_eq_some_iff.1 r3).1, r4⟩
        refine ⟨_, _, Lib.run_next_ascii_at w RR st pos o.type r3 hp (by rw [hc]; exact h5), g, x2, x1, .tup (.cons (.bool _) (.cons (.int _ _) (.cons ?_ .nil))), by rw [s3]; exact hd⟩
        rw [hc]
        exact .int _ _
    · cases s with
      | true => cases g2
      | false => exact nextM_ok H hd g1 hX g2 o.type
    · cases s with
      | true => cases g2
      | false =>
        cases g2
        obtain ⟨RR, r1, r2, r3⟩ := H.obj r _ g1
        obtain ⟨B, o', m1, e1⟩ := hX.ptr_inv
        rw [r1] at m1
        cases m1
        rw [e1]
        refine ⟨.tuple #[.bool false], w, ?_, Post.same H (.tup (.cons (.bool _) .nil)) hd⟩
        simp only [Instr.next, getObj, Sem.run_bind, Sem.run, r3, Result.andThen]
        rfl
    · cases g2
  · cases h3
theorem lastN_ok : ∀ {l : List Nat} {n : Nat}, lastN l = some n → l.getLast? = some n
  | [], _, h => by cases h
  | [a], _, h => by cases h; rfl
  | a :: b :: l, n, h => by
    have := lastN_ok (l := b :: l) (show lastN (b :: l) = some n from h)
    rw [List.getLast?_cons_cons]
    exact this
theorem findB_ok {s : Nat} : ∀ {es : List (RV × RV × Nat)} {L : List MapEntry} {x : RV × RV × Nat}, ERs g es L → es.find? (fun e => Nat.beq e.2.2 s) = some x → ∃ E, L.find? (fun e => e.born == s) = some E ∧ VR g x.1 E.key ∧ VR g x.2.1 E.val
  | _, _, x, .nil, h => by cases h
  | _, _, x, .cons (n := n) hk hv hs, h => by
    rw [List.find?_cons] at h ⊢
    cases hb : Nat.beq n s with
    | true =>
      rw [nbeq_eq, decide_eq_true_eq] at hb
      subst hb
      simp at h
      subst h
      simp [hk, hv]
    | false =>
      simp only [hb] at h
      have : (n == s) = false := by
        rw [nbeq_eq, decide_eq_false_iff_not] at hb
        simp [hb]
      simp only [this]
      exact findB_ok hs h
theorem entry_does (H : HR cx g h w n0) (he : ER g mk e a.tmps) (hd : DR g h.df a.defers) {x : Operand} (hop : o.op = .entry x) (hk : oEntry x cx mk call e h k = some y) :
    DoesP g w h y k (fun k' => oEntry x cx mk call e h k') ((execOp a.eval o).run P w) := by
  refine does_pure (X := bnd (ev cx mk x e) fun v => entryV h v) (fun k' => by unfold oEntry; rw [bnd_assoc]) hk fun v hv => ?_
  obtain ⟨u, h1, h2⟩ := bnd_inv hv
  have hX := ev_ok H he h1
  unfold entryV at h2
  split at h2
  · rename_i r
    obtain ⟨ob, g1, g2⟩ := bnd_inv h2
    split at g2
    · rename_i m since seen stepped
      obtain ⟨s, h3, h4⟩ := bnd_inv g2
      obtain ⟨es, c, g3, g4⟩ := getM_ok h4
      obtain ⟨h5, h6⟩ := ifB_none g4
      obtain ⟨x0, h7, h8⟩ := bnd_inv h6
      cases h8
      obtain ⟨RR, M, SEEN, r1, r2, r3, r4, r5⟩ := H.obj r _ g1
      obtain ⟨M', ES, q1, q2, q3, q4⟩ := H.obj m _ g3
      rw [r3] at q1
      cases q1
      obtain ⟨B, o', m1, e1⟩ := hX.ptr_inv
      rw [r1] at m1
      cases m1
      obtain ⟨E, e2, e3, e4⟩ := findB_ok q4 h7
      refine ⟨.tuple #[E.key, E.val], ?_, .tup (.cons e3 (.cons e4 .nil))⟩
      have hb : SEEN.back? = some s := by
        have := lastN_ok h3
        rw [← r5] at this
        simpa using this
      have hf : ES.find? (fun e => e.born == s) = some E := by rw [← Array.find?_toList]; exact e2
      rw [nbeq_eq, decide_eq_true_eq] at h5
      unfold execOp
      rw [hop]
      subst h5
      simp only [e1, Instr.entry, getObj, Sem.run_bind, Sem.run, r4, Result.andThen, q3, hb, hf, bne_self_eq_false, Bool.false_eq_true, if_false]
      rfl
    · cases g2
  · cases h2
end
end Go.E
end

section
/- E: functions without a text. No condition. -/
namespace Go.E
open Go Go.RowKit
/-- What the machine's function does. -/
noncomputable def xtRow (P : Program) : Xt → (Array Value → Sem Value) → Prop
  | .cmpstring, e => e = Extern.BytealgCompare.compare
  | .indexByteString, e => e = Extern.BytealgIndexByte.indexByte
  | .load32, e => e = Extern.Atomic.loadT (.int .u32)
  | .store32, e => e = Extern.Atomic.storeT
  | .add32, e => e = Extern.Atomic.update (Op.intArith .add) .i32 true
  | .cas32, e => e = Extern.Atomic.casT (.int .i32)
  | .nothing, e => ∀ (a : Array Value) (w : World), (e a).run P w = .ok (.tuple #[]) w
  | .race, e => ∀ (a : Addr) (w : World), (e #[.pointer (some a)]).run P w = .ok (.tuple #[]) w
  | .noEscape, e => e = Extern.AbiNoEscape.same
noncomputable def XOk (P : Program) (cx : Ctx) : Prop := ∀ f x, cx.X.get (toPs f) = some x → ∃ fn e, P.funcs[f]? = some fn ∧ fn.body = none ∧ (fn.name == "runtime.NumGoroutine") = false ∧ (Extern.findNext fn).isNone = true ∧ Extern.find fn = some e ∧ xtRow P x e
section
variable {P : Program} {cx : Ctx} {n0 : Nat} {g : Gh} {h : Hp} {w : World} {ds : List Deferred}
theorem one_cell (H : HR cx g h w n0) {b : Ps} {off : Nat} {v : RV} {h' : Hp} (hs : storeC h b off [v] = some h') : ∃ B o U, g.μ b = some (B, o) ∧ w.cell? ⟨B, o + off, none⟩ = some U ∧ ∃ ty n, w.shape? B = some (ty, n) := by
  obtain ⟨cs, ty, sz, lo, hi, anc, g1, g2⟩ := getC_ok hs
  obtain ⟨g3, g4⟩ := ifB_none g2
  obtain ⟨cs', g5, g6⟩ := bnd_inv g4
  obtain ⟨B, o, CS, fz, k1, k3, k4, k5, k6⟩ := H.read (b := b) (cs := cs) (ty := ty) (.inl ⟨sz, lo, hi, anc, g1⟩)
  obtain ⟨i1, _⟩ := overAt_ok g5
  simp only [List.length_singleton] at i1
  obtain ⟨V, v1, _⟩ := cells_at (i := off) k5 (List.getElem?_eq_getElem (by omega))
  exact ⟨B, o, V, k1, by rw [cell_of k3]; exact v1, ty, CS.size, by simp [World.shape?, k3]⟩
theorem run_store_mode {a : Addr} {V U : Value} {m : Mode} (hc : w.cell? a = some U) : (store a V m).run P w = (store a V).run P w := by
  cases V <;> simp only [store, Sem.run, hc]
theorem run_storeOne {a : Addr} {V : Value} {w' : World} (hr : (storeCells a [V] 0).run P w = .ok () w') : (store a V).run P w = .ok () w' := by
  have ha : a.add 0 = a := by cases a; rename_i b o s; cases s <;> rfl
  simp only [storeCells, ha, Sem.run_bind] at hr
  revert hr
  cases (store a V).run P w with
  | ok u w1 => intro hr; simp only [Result.andThen_ok, Sem.run_pure] at hr; exact hr
  | halt x w1 => intro hr; cases hr
theorem not_frozen {a : Addr} {V U : Value} {w' : World} (hc : w.cell? a = some U) (hr : (store a V).run P w = .ok () w') : w.frozen? a = false := by
  cases hf : w.frozen? a with
  | false => rfl
  | true =>
    cases V <;> simp [store, Sem.run, hc, hf] at hr
theorem storeOne (H : HR cx g h w n0) {b : Ps} {off : Nat} {v : RV} {V : Value} {h' : Hp} (hv : VR g v V) (h1 : v.one = true) (hs : storeC h b off [v] = some h') :
    ∃ B o U ty n w', g.μ b = some (B, o) ∧ w.cell? ⟨B, o + off, none⟩ = some U ∧ w.shape? B = some (ty, n) ∧ w.frozen? ⟨B, o + off, none⟩ = false ∧ (∀ m, (store ⟨B, o + off, none⟩ V m).run P w = .ok () w') ∧ HR cx g h' w' n0 ∧ Ext n0 g w g w' ∧ h'.df = h.df := by
  obtain ⟨B, o, w', m1, r1, r2, r3, r4⟩ := storeC_ok (P := P) H (.single hv) (fun u hu => by simp at hu; subst hu; exact h1) hs
  obtain ⟨B', o', U, m2, c1, ty, n, c2⟩ := one_cell H hs
  rw [m1] at m2
  cases m2
  have r5 := run_storeOne r1
  exact ⟨B, o, U, ty, n, w', m1, c1, c2, not_frozen c1 r5, fun m => by rw [run_store_mode c1]; exact r5, r2, r3, r4⟩
theorem cmpL_cons (a b : Nat) (l m : List Nat) : cmpL (a :: l) (b :: m) = if a < b then .negSucc 0 else if b < a then .ofNat 1 else cmpL l m := by
  unfold cmpL
  show ifB (ifB (Nat.beq a b) (eqL l m) false) _ (ifB (ifB (Nat.blt a b) true (ifB (Nat.beq a b) (ltL l m) false)) _ _) = _
  rw [nblt_eq, nbeq_eq]
  rcases Nat.lt_trichotomy a b with h | h | h
  · have h1 : ¬ a = b := by omega
    simp [h, h1]
  · subst h
    simp
  · have h1 : ¬ a = b := by omega
    have h2 : ¬ a < b := by omega
    simp [h, h1, h2]
theorem cmp_bytes : ∀ (a b : List UInt8), cmpL (a.map UInt8.toNat) (b.map UInt8.toNat) = Lib.compareBytes a b
  | [], [] => rfl
  | [], _ :: _ => rfl
  | _ :: _, [] => rfl
  | a :: l, b :: m => by
    rw [List.map_cons, List.map_cons, cmpL_cons, cmp_bytes l m]
    show _ = if a < b then -1 else if b < a then 1 else Lib.compareBytes l m
    by_cases h1 : a.toNat < b.toNat
    · rw [if_pos h1, if_pos (UInt8.lt_iff_toNat_lt.2 h1)]; rfl
    · rw [if_neg h1, if_neg (fun h => h1 (UInt8.lt_iff_toNat_lt.1 h))]
      by_cases h2 : b.toNat < a.toNat
      · rw [if_pos h2, if_pos (UInt8.lt_iff_toNat_lt.2 h2)]; rfl
      · rw [if_neg h2, if_neg (fun h => h2 (UInt8.lt_iff_toNat_lt.1 h))]
theorem idx_from (c : Nat) : ∀ (l : List Nat) (i : Nat), (idxL c l 0 = .negSucc 0 ∧ idxL c l i = .negSucc 0) ∨ ∃ j, idxL c l 0 = .ofNat j ∧ idxL c l i = .ofNat (i + j)
  | [], i => .inl ⟨rfl, rfl⟩
  | a :: l, i => by
    have e0 : ∀ i, idxL c (a :: l) i = ifB (Nat.beq a c) (.ofNat i) (idxL c l (i + 1)) := fun i => rfl
    rw [e0, e0]
    cases Nat.beq a c with
    | true => exact .inr ⟨0, rfl, rfl⟩
    | false =>
      try simp only [ifB_false]
      rcases idx_from c l 1 with ⟨h1, h2⟩ | ⟨j, h1, h2⟩
      · rcases idx_from c l (i + 1) with ⟨h3, h4⟩ | ⟨k, h3, h4⟩
        · exact .inl ⟨h2, h4⟩
        · rw [h1] at h3; cases h3
      · rcases idx_from c l (i + 1) with ⟨h3, h4⟩ | ⟨k, h3, h4⟩
        · rw [h1] at h3; cases h3
        · rw [h1] at h3
          cases h3
          have h5 : idxL c l (i + 1) = .ofNat (i + (1 + j)) := by rw [h4]; congr 1; omega
          exact .inr ⟨1 + j, h2, h5⟩
theorem idx_bytes (c : UInt8) : ∀ (l : List UInt8), idxL c.toNat (l.map UInt8.toNat) 0 = Lib.indexByte l c
  | [] => rfl
  | b :: l => by
    have e0 : idxL c.toNat ((b :: l).map UInt8.toNat) 0 = ifB (Nat.beq b.toNat c.toNat) (.ofNat 0) (idxL c.toNat (l.map UInt8.toNat) 1) := rfl
    rw [e0, nbeq_eq]
    have ih := idx_bytes c l
    show _ = if (b == c) = true then 0 else if (Lib.indexByte l c == -1) = true then -1 else Lib.indexByte l c + 1
    by_cases h : b = c
    · subst h; simp
    · have h' : ¬ b.toNat = c.toNat := fun e => h (UInt8.toNat_inj.1 e)
      have hb : (b == c) = false := by simpa using h
      rw [hb]
      simp only [h', decide_false, Bool.false_eq_true, if_false]
      rw [← ih]
      rcases idx_from c.toNat (l.map UInt8.toNat) 1 with ⟨h1, h2⟩ | ⟨j, h1, h2⟩
      · rw [h1, h2]; rfl
      · rw [h1, h2]
        have : (Int.ofNat j == -1) = false := by
          simp only [beq_eq_false_iff_ne, ne_eq]
          intro e
          have : (0 : Int) ≤ Int.ofNat j := Int.natCast_nonneg j
          omega
        rw [this]
        simp only [Bool.false_eq_true, if_false]
        show (Int.ofNat (1 + j)) = Int.ofNat j + 1
        simp only [Int.ofNat_eq_natCast]
        omega
theorem extern_ok (H : HR cx g h w n0) (hd : DR g h.df ds) {x : Xt} {e : Array Value → Sem Value} (hx : xtRow P x e) {xs : List RV} {XS : Array Value} (hX : VRs g xs XS.toList) {v : RV} {h' : Hp} (hv : externV h x xs = some ⟨v, h'⟩) :
    ∃ V w', (e XS).run P w = .ok V w' ∧ Post cx n0 g w h' v V ds w' := by
  cases x with
  | cmpstring =>
    cases hx
    dsimp only [externV] at hv
    split at hv
    · rename_i l m
      rw [forceI_eq] at hv
      cases hv
      obtain ⟨X, Y, rfl, hX, hY⟩ := two_of hX rfl
      obtain ⟨s, rfl, e1⟩ := hX.str_inv
      obtain ⟨t, rfl, e2⟩ := hY.str_inv
      refine ⟨_, w, Lib.run_compareString s t w, Post.same H ?_ hd⟩
      rw [← e1, ← e2, cmp_bytes]
      exact .int _ _
    · cases hv
  | indexByteString =>
    cases hx
    dsimp only [externV] at hv
    split at hv
    · rename_i l c
      obtain ⟨hlt, hv⟩ := ifB_none hv
      rw [nblt_eq, decide_eq_true_eq] at hlt
      rw [forceI_eq] at hv
      cases hv
      obtain ⟨X, Y, rfl, hX, hY⟩ := two_of hX rfl
      obtain ⟨s, rfl, e1⟩ := hX.str_inv
      rw [hY.int_inv]
      refine ⟨_, w, Lib.run_indexByteString s _ w, Post.same H ?_ hd⟩
      have hc : ((Int.ofNat c).toNat.toUInt8).toNat = c % 256 := by simp
      rw [← e1, ← idx_bytes, hc]
      rw [Nat.mod_eq_of_lt (by assumption)]
      exact .int _ _
    · cases hv
  | load32 =>
    cases hx
    dsimp only [externV] at hv
    split at hv
    · rename_i b off
      obtain ⟨u, h1, h2⟩ := bnd_inv hv
      obtain ⟨X, rfl, hX1⟩ := one_of hX rfl
      split at h2
      · rename_i n
        cases h2
        obtain ⟨B, o, V, m1, c1, c2, _⟩ := load1_ok H h1
        obtain ⟨B', o', m2, rfl⟩ := hX1.ptr_inv
        rw [m1] at m2
        cases m2
        have hV := c2.int_inv
        subst hV
        refine ⟨_, w, ?_, Post.same H (.int .u32 n) hd⟩
        show (do Extern.Atomic.read (.int .u32) (← asAddr (.pointer (some ⟨B, o + off, none⟩))) : Sem Value).run P w = _
        simp only [Extern.Atomic.read, asAddr, load, Sem.run_bind, Sem.run_pure, Result.andThen_ok, Sem.run, c1, if_true]
      · cases h2
    · cases hv
  | store32 =>
    cases hx
    dsimp only [externV] at hv
    split at hv
    · rename_i b off n
      obtain ⟨h1', h1, h2⟩ := bnd_inv hv
      cases h2
      obtain ⟨X, Y, rfl, hX, hY⟩ := two_of hX rfl
      obtain ⟨B, o, U, ty, k, w', m1, c1, c2, c3, c4, r2, r3, r4⟩ := storeOne (P := P) H hY rfl h1
      obtain ⟨B', o', m2, rfl⟩ := hX.ptr_inv
      rw [m1] at m2
      cases m2
      refine ⟨.tuple #[], w', ?_, g, r3, r2, .undef, by rw [r4]; exact hd⟩
      show (do store (← asAddr (.pointer (some ⟨B, o + off, none⟩))) Y .atomic; pure Extern.Atomic.none_ : Sem Value).run P w = _
      simp only [Extern.Atomic.none_, asAddr, Sem.run_bind, Sem.run_pure, Result.andThen_ok, c4]
    · cases hv
  | add32 =>
    cases hx
    dsimp only [externV] at hv
    split at hv
    · rename_i b off n
      obtain ⟨u, h1, h2⟩ := bnd_inv hv
      obtain ⟨X, Y, rfl, hX, hY⟩ := two_of hX rfl
      split at h2
      · rename_i m
        rw [forceI_eq, wrapI_eq] at h2
        obtain ⟨h1', h3, h4⟩ := bnd_inv h2
        cases h4
        obtain ⟨B, o, V, m1, c1, c2, _⟩ := load1_ok H h1
        have hV := c2.int_inv
        subst hV
        obtain ⟨B2, o2, U, ty, k, w', m3, _, _, _, c4, r2, r3, r4⟩ := storeOne (P := P) H (VR.int .i32 (IntKind.i32.wrap (Int.add m n))) rfl h3
        rw [m1] at m3
        cases m3
        obtain ⟨B', o', m2, rfl⟩ := hX.ptr_inv
        rw [m1] at m2
        cases m2
        have hY' := hY.int_inv
        subst hY'
        refine ⟨_, w', ?_, g, r3, r2, .int .i32 _, by rw [r4]; exact hd⟩
        show (Bind.bind (asAddr (.pointer (some ⟨B, o + off, none⟩))) _ : Sem Value).run P w = _
        simp only [Array.getLit, List.getElem_toArray, List.getElem_cons_succ, List.getElem_cons_zero, Extern.Atomic.read, Op.intArith, asAddr, load, Go.asInt, asIntOf, Sem.run_bind, Sem.run_pure, Result.andThen_ok, Sem.run, c1, if_true]
        have c4 := c4 .atomic
        have c4 : (store ⟨B, o + off, none⟩ (.int .i32 (IntKind.i32.wrap (m + n))) .atomic).run P w = .ok () w' := c4
        rw [c4]
        rfl
      · cases h2
    · cases hv
  | cas32 =>
    cases hx
    dsimp only [externV] at hv
    split at hv
    · rename_i b off x1 y1
      obtain ⟨u, h1, h2⟩ := bnd_inv hv
      split at h2
      · rename_i m
        obtain ⟨h5, h6⟩ := ifB_none h2
        obtain ⟨h1', h3, h4⟩ := bnd_inv h6
        cases h4
        obtain ⟨B, o, V, m1, c1, c2, _⟩ := load1_ok H h1
        have hV := c2.int_inv
        subst hV
        cases XS with
        | mk L =>
        cases hX with
        | cons hX hs =>
        cases hs with
        | cons hY hs =>
        cases hs with
        | cons hZ hs =>
        cases hs
        obtain ⟨B2, o2, U, ty, k, w', m3, c5, c6, c7, c4, r2, r3, r4⟩ := storeOne (P := P) H hZ rfl h3
        rw [m1] at m3
        cases m3
        obtain ⟨B', o', m2, rfl⟩ := hX.ptr_inv
        rw [m1] at m2
        cases m2
        have hY' := hY.int_inv
        subst hY'
        have hZ' := hZ.int_inv
        subst hZ'
        rw [eqI_eq, decide_eq_true_eq] at h5
        refine ⟨.bool true, w', ?_, g, r3, r2, .bool true, by rw [r4]; exact hd⟩
        subst h5
        have c4 := c4 .atomic
        show (Bind.bind (asAddr (.pointer (some ⟨B, o + off, none⟩))) _ : Sem Value).run P w = _
        simp only [Array.getLit, List.getElem_toArray, List.getElem_cons_succ, List.getElem_cons_zero, Extern.Atomic.touchesFrozen, Extern.Atomic.read, viewAt, frozen, asAddr, load, Sem.run_bind, Sem.run_pure, Result.andThen_ok, Sem.run, c1, c6, c7, run_shape, Option.isSome_some, if_true, Bool.false_eq_true, if_false, beq_self_eq_true, c4]
      · cases h2
    · cases hv
  | nothing =>
    dsimp only [externV] at hv
    cases hv
    exact ⟨_, w, hx XS w, Post.same H .undef hd⟩
  | race =>
    dsimp only [externV] at hv
    split at hv
    · cases hv
      obtain ⟨X, rfl, hX1⟩ := one_of hX rfl
      obtain ⟨B, o, _, rfl⟩ := hX1.ptr_inv
      exact ⟨_, w, hx _ w, Post.same H .undef hd⟩
    · cases hv
  | noEscape =>
    cases hx
    dsimp only [externV] at hv
    split at hv
    · cases hv
      obtain ⟨X, rfl, hX1⟩ := one_of hX rfl
      exact ⟨X, w, rfl, Post.same H hX1 hd⟩
    · cases hv
theorem externCall_ok (hXo : XOk P cx) (H : HR cx g h w n0) (hd : DR g h.df ds) {f : FuncId} {x : Xt} (hx : cx.X.get (toPs f) = some x) {xs : List RV} {XS : Array Value} (hX : VRs g xs XS.toList) {v : RV} {h' : Hp} (hv : externV h x xs = some ⟨v, h'⟩) :
    ∃ V w', (callFunc f XS).run P w = .ok (.value V) w' ∧ Post cx n0 g w h' v V ds w' := by
  obtain ⟨fn, e, h1, h2, h3, h4, h5, h6⟩ := hXo f x hx
  obtain ⟨V, w', r1, r2⟩ := extern_ok H hd h6 hX hv
  refine ⟨V, w', ?_, r2⟩
  have hn : Extern.findNext fn = none := by simpa using h4
  unfold callFunc
  simp only [Sem.run_bind, run_program, Result.andThen_ok, h1, h3, Bool.false_eq_true, if_false, h2, Option.isNone_none, if_true, mark, Sem.run, hn, h5, r1, Sem.run_pure]
end
end Go.E
end

section
/- E: operations by themselves: what they look at. No condition. -/
namespace Go.E
open Go Go.RowKit

section
variable {R R' : Type} {cx : Ctx} {mk : Nat} {call : CallK} {e e' : Env} {h h' : Hp}
/-- What is told. -/
noncomputable def out1 : RV → Hp → Option Out := fun v h => some ⟨v, h⟩
theorem outK_bnd {α : Type} (x : Option α) (f : α → Option Out) (k : RV → Hp → Option R) : outK (bnd x f) k = bnd x fun a => outK (f a) k := by cases x <;> rfl
theorem outK_ifB (c : Bool) (a b : Option Out) (k : RV → Hp → Option R) : outK (ifB c a b) k = ifB c (outK a k) (outK b k) := by cases c <;> rfl
theorem outK_out1 (v : RV) (h : Hp) (k : RV → Hp → Option R) : outK (out1 v h) k = k v h := rfl
theorem outK_none (k : RV → Hp → Option R) : outK none k = none := rfl
theorem outK_outK (o : Option Out) (k : RV → Hp → Option R) : outK (outK o out1) k = outK o k := by cases o <;> rfl
theorem outK_new (h : Hp) (o : RO) (f : Ps → Hp → Option Out) (k : RV → Hp → Option R) : outK (h.new o f) k = h.new o fun b h => outK (f b h) k := by
  obtain ⟨h', n1, _⟩ := Hp.new_eq h o
  rw [n1, n1]
theorem outK_asPtr (v : RV) (f : Ps → Nat → Option Out) (k : RV → Hp → Option R) : outK (asPtr v f) k = asPtr v fun b o => outK (f b o) k := by cases v <;> rfl
theorem outK_asBool (v : RV) (f : Bool → Option Out) (k : RV → Hp → Option R) : outK (Go.E.asBool v f) k = Go.E.asBool v fun b => outK (f b) k := by cases v <;> rfl
theorem outK_asTup (v : RV) (f : List RV → Option Out) (k : RV → Hp → Option R) : outK (asTup v f) k = asTup v fun b => outK (f b) k := by cases v <;> rfl
theorem outK_asAgg (v : RV) (f : List RV → Option Out) (k : RV → Hp → Option R) : outK (Go.E.asAgg v f) k = Go.E.asAgg v fun b => outK (f b) k := by cases v <;> rfl
theorem outK_elemK (Γ : Tys) (t : TypeId) (f : TypeId → ETy → Option Out) (k : RV → Hp → Option R) : outK (elemK Γ t f) k = elemK Γ t fun a b => outK (f a b) k := by
  unfold elemK
  rw [outK_bnd]
  congr 1
  funext ty
  cases ty.k <;> first | rfl | exact outK_bnd _ _ _
theorem outK_fldK (Γ : Tys) (t : TypeId) (i : Nat) (f : Nat → TypeId → Option Out) (k : RV → Hp → Option R) : outK (fldK Γ t i f) k = fldK Γ t i fun a b => outK (f a b) k := by
  unfold fldK
  rw [outK_bnd]
  congr 1
  funext ty
  cases ty.k <;> first | rfl | exact outK_bnd _ _ _
theorem outK_forceN (n : Nat) (f : Nat → Option Out) (k : RV → Hp → Option R) : outK (forceN n f) k = forceN n fun n => outK (f n) k := by rw [forceN_eq, forceN_eq]
/-- Operations tell a value and a memory, and go on. -/
theorem stepO_out (o : Op) (k : RV → Hp → Option R) : stepO o cx mk call e h k = outK (stepO o cx mk call e h out1) k := by
  cases o <;> first
    | rfl
    | (show oMove _ cx mk call e h k = outK (oMove _ cx mk call e h out1) k
       unfold oMove; rw [outK_bnd]; rfl)
    | (show oPick _ _ _ cx mk call e h k = outK (oPick _ _ _ cx mk call e h out1) k
       unfold oPick; simp only [outK_bnd, outK_asBool]; rfl)
    | (show oAlloc _ cx mk call e h k = outK (oAlloc _ cx mk call e h out1) k
       unfold oAlloc; simp only [outK_bnd, outK_outK])
    | (show oBox _ _ cx mk call e h k = outK (oBox _ _ cx mk call e h out1) k
       unfold oBox; simp only [outK_bnd, outK_outK])
    | (show oLoad _ _ cx mk call e h k = outK (oLoad _ _ cx mk call e h out1) k
       unfold oLoad; simp only [outK_bnd, outK_asPtr]; rfl)
    | (show oStore _ _ _ cx mk call e h k = outK (oStore _ _ _ cx mk call e h out1) k
       unfold oStore; simp only [outK_bnd, outK_asPtr, outK_ifB]; rfl)
    | (show oBin _ _ _ _ cx mk call e h k = outK (oBin _ _ _ _ cx mk call e h out1) k
       unfold oBin; simp only [outK_bnd]; rfl)
    | (show oUn _ _ cx mk call e h k = outK (oUn _ _ cx mk call e h out1) k
       unfold oUn; simp only [outK_bnd]; rfl)
    | (show oConv _ _ _ cx mk call e h k = outK (oConv _ _ _ cx mk call e h out1) k
       unfold oConv; simp only [outK_bnd, outK_outK])
    | (show oSlice _ _ _ _ _ cx mk call e h k = outK (oSlice _ _ _ _ _ cx mk call e h out1) k
       unfold oSlice; simp only [outK_bnd]; rfl)
    | (show oFieldAddr _ _ _ cx mk call e h k = outK (oFieldAddr _ _ _ cx mk call e h out1) k
       unfold oFieldAddr; simp only [outK_bnd, outK_asPtr, outK_fldK, outK_ifB, outK_forceN]; rfl)
    | (show oField _ _ _ cx mk call e h k = outK (oField _ _ _ cx mk call e h out1) k
       unfold oField; simp only [outK_bnd, outK_asAgg, outK_fldK]; rfl)
    | (show oIndexAddr _ _ _ cx mk call e h k = outK (oIndexAddr _ _ _ cx mk call e h out1) k
       unfold oIndexAddr; simp only [outK_bnd]; rfl)
    | (show oIndex _ _ _ cx mk call e h k = outK (oIndex _ _ _ cx mk call e h out1) k
       unfold oIndex; simp only [outK_bnd]; rfl)
    | (show oLookup _ _ _ _ cx mk call e h k = outK (oLookup _ _ _ _ cx mk call e h out1) k
       unfold oLookup; simp only [outK_bnd]; rfl)
    | (show oMapSet _ _ _ _ cx mk call e h k = outK (oMapSet _ _ _ _ cx mk call e h out1) k
       unfold oMapSet; simp only [outK_bnd]; rfl)
    | (show oRange _ _ cx mk call e h k = outK (oRange _ _ cx mk call e h out1) k
       unfold oRange; simp only [outK_bnd, outK_outK])
    | (show oNext _ _ cx mk call e h k = outK (oNext _ _ cx mk call e h out1) k
       unfold oNext; simp only [outK_bnd, outK_outK])
    | (show oEntry _ cx mk call e h k = outK (oEntry _ cx mk call e h out1) k
       unfold oEntry; simp only [outK_bnd]; rfl)
    | (show oExtract _ _ cx mk call e h k = outK (oExtract _ _ cx mk call e h out1) k
       unfold oExtract; simp only [outK_bnd, outK_asTup]; rfl)
    | skip
  case build t ps =>
    show oBuild _ _ cx mk call e h k = outK (oBuild _ _ cx mk call e h out1) k
    unfold oBuild
    simp only [outK_bnd]
    congr 1; funext ps; congr 1; funext z; congr 1; funext ty
    cases ty.k <;> first | rfl | (simp only [outK_bnd]; rfl)
  case buildSlice t n ps =>
    show oBuildSlice _ _ _ cx mk call e h k = outK (oBuildSlice _ _ _ cx mk call e h out1) k
    unfold oBuildSlice
    simp only [outK_bnd, outK_elemK, outK_ifB, outK_new]
    rfl
  case nilCheck x =>
    show oNilCheck _ cx mk call e h k = outK (oNilCheck _ cx mk call e h out1) k
    unfold oNilCheck
    simp only [outK_bnd]
    congr 1; funext v
    cases v <;> rfl
  case makeInterface t x =>
    show oIface _ _ cx mk call e h k = outK (oIface _ _ cx mk call e h out1) k
    unfold oIface
    simp only [outK_bnd]
    congr 1; funext v; congr 1; funext ty
    cases ty.k <;> rfl
  case makeFunc fn a c =>
    show oFunc _ _ _ cx mk call e h k = outK (oFunc _ _ _ cx mk call e h out1) k
    cases fn <;> first
      | rfl
      | (simp only [oFunc, outK_bnd]; rfl)
  case makeMap t r =>
    show oMap t r cx mk call e h k = outK (oMap t r cx mk call e h out1) k
    cases r with
    | some x => rfl
    | none => simp only [oMap, outK_new]; rfl
  case makeSlice t l c =>
    show oMakeSlice _ _ _ cx mk call e h k = outK (oMakeSlice _ _ _ cx mk call e h out1) k
    unfold oMakeSlice
    simp only [outK_bnd]
    congr 1; funext v; congr 1; funext u
    cases v <;> try rfl
    rename_i k1 n1
    cases n1 <;> try rfl
    cases u <;> try rfl
    rename_i k2 n2
    cases n2 <;> try rfl
    simp only [outK_elemK, outK_ifB, outK_bnd, outK_new]
    rfl
  case call c =>
    show oCall _ cx mk call e h k = outK (oCall _ cx mk call e h out1) k
    obtain ⟨cl, xs, ts⟩ := c
    cases cl with
    | value f => simp only [oCall, outK_bnd, outK_outK]
    | builtin b => simp only [oCall, outK_bnd, outK_outK]
    | invoke r m =>
      simp only [oCall, outK_bnd]
      congr 1; funext r; congr 1; funext xs
      cases r <;> try rfl
      rename_i t v
      cases v <;> try rfl
      simp only [outK_bnd, outK_outK]
  case defer c =>
    show oDefer _ cx mk call e h k = outK (oDefer _ cx mk call e h out1) k
    obtain ⟨cl, xs, ts⟩ := c
    cases cl with
    | value f => simp only [oDefer, outK_bnd, outK_ifB]; rfl
    | _ => rfl
theorem stepO_inv {o : Op} {k : RV → Hp → Option R} {y : R} (hs : stepO o cx mk call e h k = some y) : ∃ v h', k v h' = some y ∧ ∀ {R' : Type} (k' : RV → Hp → Option R'), stepO o cx mk call e h k' = k' v h' := by
  rw [stepO_out] at hs
  obtain ⟨v, h', h1, h2⟩ := outK_inv hs
  exact ⟨v, h', h2, fun k' => by rw [stepO_out, h1]; rfl⟩
/-! ### What an operation looks at -/
theorem ev_congr {x : Operand} (h : ∀ i, x = .tmp i → e.get mk i = e'.get mk i) : ev cx mk x e = ev cx mk x e' := by
  cases x with
  | tmp i => exact h i rfl
  | _ => rfl
theorem evs_congr : ∀ {l : List Operand}, (∀ i, Operand.tmp i ∈ l → e.get mk i = e'.get mk i) → evs cx mk l e = evs cx mk l e'
  | [], _ => rfl
  | x :: l, h => by
    show bnd (ev cx mk x e) (fun a => bnd (evs cx mk l e) fun l => some (a :: l)) = bnd (ev cx mk x e') (fun a => bnd (evs cx mk l e') fun l => some (a :: l))
    rw [ev_congr (x := x) fun i hi => h i (by rw [hi]; exact List.mem_cons_self), evs_congr fun i hi => h i (List.mem_cons_of_mem _ hi)]
theorem evParts_congr : ∀ {l : List (Nat × Operand)}, (∀ i, Operand.tmp i ∈ l.map (·.2) → e.get mk i = e'.get mk i) → evParts cx mk e l = evParts cx mk e' l
  | [], _ => rfl
  | (n, x) :: l, h => by
    show bnd (ev cx mk x e) (fun a => bnd (evParts cx mk e l) fun l => some ((n, a) :: l)) = bnd (ev cx mk x e') (fun a => bnd (evParts cx mk e' l) fun l => some ((n, a) :: l))
    rw [ev_congr (x := x) fun i hi => h i (by rw [hi]; simp), evParts_congr fun i hi => h i (by simp at hi ⊢; exact .inr hi)]
theorem evO_congr {x : Option Operand} (h : ∀ i, x = some (.tmp i) → e.get mk i = e'.get mk i) : evO cx mk e x = evO cx mk e' x := by
  cases x with
  | none => rfl
  | some x =>
    show bnd (ev cx mk x e) _ = bnd (ev cx mk x e') _
    rw [ev_congr (x := x) fun i hi => h i (by rw [hi])]
theorem stepO_congr {o : Op} (hl : ∀ i, Operand.tmp i ∈ o.operands.toList → e.get mk i = e'.get mk i) (k : RV → Hp → Option R) : stepO o cx mk call e h k = stepO o cx mk call e' h k := by
  have one : ∀ x : Operand, x ∈ o.operands.toList → ev cx mk x e = ev cx mk x e' := fun x hx => ev_congr fun i hi => hl i (by rw [← hi]; exact hx)
  cases o <;> first
    | rfl
    | (rename_i x
       show oMove x cx mk call e h k = oMove x cx mk call e' h k
       unfold oMove; rw [one x (by simp [Op.operands])])
    | (rename_i c x z
       show oPick c x z cx mk call e h k = oPick c x z cx mk call e' h k
       unfold oPick; rw [one c (by simp [Op.operands]), one x (by simp [Op.operands]), one z (by simp [Op.operands])])
    | (rename_i t x
       show oBox t x cx mk call e h k = oBox t x cx mk call e' h k
       unfold oBox; rw [one x (by simp [Op.operands])])
    | (rename_i t x
       show oLoad t x cx mk call e h k = oLoad t x cx mk call e' h k
       unfold oLoad; rw [one x (by simp [Op.operands])])
    | (rename_i t x z
       show oStore t x z cx mk call e h k = oStore t x z cx mk call e' h k
       unfold oStore; rw [one x (by simp [Op.operands]), one z (by simp [Op.operands])])
    | (rename_i x
       show oNilCheck x cx mk call e h k = oNilCheck x cx mk call e' h k
       unfold oNilCheck; rw [one x (by simp [Op.operands])])
    | (rename_i op t x z s
       show oBin op t x z cx mk call e h k = oBin op t x z cx mk call e' h k
       unfold oBin; rw [one x (by simp [Op.operands]), one z (by simp [Op.operands])])
    | (rename_i op t x
       show oUn op x cx mk call e h k = oUn op x cx mk call e' h k
       unfold oUn; rw [one x (by simp [Op.operands])])
    | (rename_i s d x
       show oConv s d x cx mk call e h k = oConv s d x cx mk call e' h k
       unfold oConv; rw [one x (by simp [Op.operands])])
    | (rename_i t x
       show oIface t x cx mk call e h k = oIface t x cx mk call e' h k
       unfold oIface; rw [one x (by simp [Op.operands])])
    | (rename_i t x z
       show oMakeSlice t x z cx mk call e h k = oMakeSlice t x z cx mk call e' h k
       unfold oMakeSlice; rw [one x (by simp [Op.operands]), one z (by simp [Op.operands])])
    | (rename_i t x i
       show oFieldAddr t x i cx mk call e h k = oFieldAddr t x i cx mk call e' h k
       unfold oFieldAddr; rw [one x (by simp [Op.operands])])
    | (rename_i t x i
       show oField t x i cx mk call e h k = oField t x i cx mk call e' h k
       unfold oField; rw [one x (by simp [Op.operands])])
    | (rename_i t x z
       show oIndexAddr t x z cx mk call e h k = oIndexAddr t x z cx mk call e' h k
       unfold oIndexAddr; rw [one x (by simp [Op.operands]), one z (by simp [Op.operands])])
    | (rename_i t x z
       show oIndex t x z cx mk call e h k = oIndex t x z cx mk call e' h k
       unfold oIndex; rw [one x (by simp [Op.operands]), one z (by simp [Op.operands])])
    | (rename_i t x z ok
       show oLookup t x z ok cx mk call e h k = oLookup t x z ok cx mk call e' h k
       unfold oLookup; rw [one x (by simp [Op.operands]), one z (by simp [Op.operands])])
    | (rename_i t x z v
       show oMapSet t x z v cx mk call e h k = oMapSet t x z v cx mk call e' h k
       unfold oMapSet; rw [one x (by simp [Op.operands]), one z (by simp [Op.operands]), one v (by simp [Op.operands])])
    | (rename_i t x
       show oRange t x cx mk call e h k = oRange t x cx mk call e' h k
       unfold oRange; rw [one x (by simp [Op.operands])])
    | (rename_i x s
       show oNext x s cx mk call e h k = oNext x s cx mk call e' h k
       unfold oNext; rw [one x (by simp [Op.operands])])
    | (rename_i x
       show oEntry x cx mk call e h k = oEntry x cx mk call e' h k
       unfold oEntry; rw [one x (by simp [Op.operands])])
    | (rename_i x i
       show oExtract x i cx mk call e h k = oExtract x i cx mk call e' h k
       unfold oExtract; rw [one x (by simp [Op.operands])])
    | skip
  case build t ps =>
    show oBuild t ps cx mk call e h k = oBuild t ps cx mk call e' h k
    unfold oBuild
    rw [evParts_congr (e := e) (e' := e') (l := ps.toList) fun i hi => hl i (by simpa [Op.operands] using hi)]
  case buildSlice t n ps =>
    show oBuildSlice t n ps cx mk call e h k = oBuildSlice t n ps cx mk call e' h k
    unfold oBuildSlice
    rw [evParts_congr (e := e) (e' := e') (l := ps.toList) fun i hi => hl i (by simpa [Op.operands] using hi)]
  case makeFunc fn a c =>
    show oFunc fn a c cx mk call e h k = oFunc fn a c cx mk call e' h k
    cases fn <;> first
      | rfl
      | (simp only [oFunc]
         rw [evs_congr (e := e) (e' := e') (l := a.toList) fun i hi => hl i (by simp [Op.operands] at hi ⊢; exact .inl hi), evs_congr (e := e) (e' := e') (l := c.toList) fun i hi => hl i (by simp [Op.operands] at hi ⊢; exact .inr hi)])
  case makeMap t r =>
    show oMap t r cx mk call e h k = oMap t r cx mk call e' h k
    cases r <;> rfl
  case slice t x lo hi mx =>
    show oSlice t x lo hi mx cx mk call e h k = oSlice t x lo hi mx cx mk call e' h k
    unfold oSlice
    rw [one x (by simp [Op.operands]), evO_congr (e := e) (e' := e') (x := lo) fun i hi => hl i (by subst hi; simp [Op.operands]), evO_congr (e := e) (e' := e') (x := hi) fun i hi => hl i (by subst hi; simp [Op.operands]),
      evO_congr (e := e) (e' := e') (x := mx) fun i hi => hl i (by subst hi; simp [Op.operands])]
  case call c =>
    show oCall c cx mk call e h k = oCall c cx mk call e' h k
    obtain ⟨cl, xs, ts⟩ := c
    have hx : evs cx mk xs.toList e = evs cx mk xs.toList e' := evs_congr fun i hi => hl i (by simp [Op.operands, Call.operands] at hi ⊢; exact .inr hi)
    cases cl with
    | value f => simp only [oCall]; rw [one f (by simp [Op.operands, Call.operands]), hx]
    | builtin b => simp only [oCall]; rw [hx]
    | invoke r m => simp only [oCall]; rw [one r (by simp [Op.operands, Call.operands]), hx]
  case defer c =>
    show oDefer c cx mk call e h k = oDefer c cx mk call e' h k
    obtain ⟨cl, xs, ts⟩ := c
    have hx : evs cx mk xs.toList e = evs cx mk xs.toList e' := evs_congr fun i hi => hl i (by simp [Op.operands, Call.operands] at hi ⊢; exact .inr hi)
    cases cl with
    | value f => simp only [oDefer]; rw [one f (by simp [Op.operands, Call.operands]), hx]
    | _ => rfl
/-! ### Operations that leave memory as it is -/
/-- An operation that tells X, whatever the memory. -/
def PureO (cx : Ctx) (mk : Nat) (call : CallK) (e : Env) (o : Op) (X : Option RV) : Prop := ∀ {R : Type} (h : Hp) (k : RV → Hp → Option R), stepO o cx mk call e h k = bnd X fun v => k v h
theorem asBool_bnd {α β : Type} {v : RV} {f : Bool → Option α} {k : α → Option β} : bnd (Go.E.asBool v f) k = Go.E.asBool v fun b => bnd (f b) k := by cases v <;> rfl
theorem asPtr_bnd {α β : Type} {v : RV} {f : Ps → Nat → Option α} {k : α → Option β} : bnd (asPtr v f) k = asPtr v fun b o => bnd (f b o) k := by cases v <;> rfl
theorem asTup_bnd {α β : Type} {v : RV} {f : List RV → Option α} {k : α → Option β} : bnd (asTup v f) k = asTup v fun b => bnd (f b) k := by cases v <;> rfl
theorem asAgg_bnd {α β : Type} {v : RV} {f : List RV → Option α} {k : α → Option β} : bnd (Go.E.asAgg v f) k = Go.E.asAgg v fun b => bnd (f b) k := by cases v <;> rfl
theorem elemK_bnd' {α β : Type} {Γ : Tys} {t : TypeId} {K : TypeId → ETy → Option α} {f : α → Option β} : bnd (elemK Γ t K) f = elemK Γ t (fun o u => bnd (K o u) f) := elemK_bnd.symm
theorem fldK_bnd' {α β : Type} {Γ : Tys} {t : TypeId} {i : Nat} {K : Nat → TypeId → Option α} {f : α → Option β} : bnd (fldK Γ t i K) f = fldK Γ t i (fun o u => bnd (K o u) f) := fldK_bnd.symm
theorem pureO_ok {o : Op} (hc : clsOf cx.Γ o = .pure) : ∃ X, PureO cx mk call e o X := by
  cases o <;> first
    | (cases hc; done)
    | (rename_i x
       exact ⟨ev cx mk x e, fun h k => rfl⟩)
    | (rename_i c x z
       exact ⟨bnd (ev cx mk c e) fun c => Go.E.asBool c fun b => ifB b (ev cx mk x e) (ev cx mk z e), fun h k => by
        show oPick c x z cx mk call e h k = _
        unfold oPick; simp only [bnd_assoc, asBool_bnd]⟩)
    | (rename_i t ps
       exact ⟨bnd (evParts cx mk e ps.toList) fun ps => bnd (zeroC cx.Γ t) fun z => bnd (cx.Γ.ty t) fun ty => match ty.k with
          | .st fs => bnd (fillC (fieldPl cx.Γ fs) ps z) fun cs => some (.agg cs)
          | .ar _ el => bnd (sizeT cx.Γ el) fun s => bnd (fillC (fun i => some (Nat.mul i s, s)) ps z) fun cs => some (.agg cs)
          | _ => none, fun h k => by
        show oBuild t ps cx mk call e h k = _
        unfold oBuild
        simp only [bnd_assoc]
        congr 1; funext ps; congr 1; funext z; congr 1; funext ty
        cases ty.k <;> first | rfl | (simp only [bnd_assoc]; done) | (simp only [bnd_assoc]; rfl)⟩)
    | (rename_i x
       exact ⟨bnd (ev cx mk x e) fun v => match v with
          | .ptr b off => some (.ptr b off)
          | .fn f a c => some (.fn f a c)
          | _ => none, fun h k => by
        show oNilCheck x cx mk call e h k = _
        unfold oNilCheck
        simp only [bnd_assoc]
        congr 1; funext v
        cases v <;> rfl⟩)
    | (rename_i op t x z s
       exact ⟨bnd (ev cx mk x e) fun a => bnd (ev cx mk z e) fun b => binV a cx.Γ t (isConst z) op b, fun h k => by
        show oBin op t x z cx mk call e h k = _
        unfold oBin; simp only [bnd_assoc]⟩)
    | (rename_i op t x
       exact ⟨bnd (ev cx mk x e) fun a => unV op a, fun h k => by
        show oUn op x cx mk call e h k = _
        unfold oUn; simp only [bnd_assoc]⟩)
    | (rename_i t x
       exact ⟨bnd (ev cx mk x e) fun a => bnd (cx.Γ.ty t) fun ty => match ty.k with
          | .ifc => none
          | _ => some (.ifc t a), fun h k => by
        show oIface t x cx mk call e h k = _
        unfold oIface
        simp only [bnd_assoc]
        congr 1; funext v; congr 1; funext ty
        cases ty.k <;> rfl⟩)
    | (rename_i t x lo hi mx
       exact ⟨bnd (ev cx mk x e) fun v => bnd (evO cx mk e lo) fun lo => bnd (evO cx mk e hi) fun hi => bnd (evO cx mk e mx) fun mx => sliceV cx.Γ t v lo hi mx, fun h k => by
        show oSlice t x lo hi mx cx mk call e h k = _
        unfold oSlice; simp only [bnd_assoc]⟩)
    | (rename_i t x i
       exact ⟨bnd (ev cx mk x e) fun v => Go.E.asAgg v fun cs => fldK cx.Γ t i fun o t => bnd (cx.Γ.ty t) fun tf => partV tf cs o, fun h k => by
        show oField t x i cx mk call e h k = _
        unfold oField; simp only [bnd_assoc, asAgg_bnd, fldK_bnd']⟩)
    | (rename_i t x i
       exact ⟨bnd (ev cx mk x e) fun v => bnd (ev cx mk i e) fun i => indexA cx.Γ t v i, fun h k => by
        show oIndexAddr t x i cx mk call e h k = _
        unfold oIndexAddr; simp only [bnd_assoc]⟩)
    | (rename_i t x i
       exact ⟨bnd (ev cx mk x e) fun v => bnd (ev cx mk i e) fun i => indexV cx.Γ t v i, fun h k => by
        show oIndex t x i cx mk call e h k = _
        unfold oIndex; simp only [bnd_assoc]⟩)
    | (rename_i x i
       exact ⟨bnd (ev cx mk x e) fun v => asTup v fun l => at_ l i, fun h k => by
        show oExtract x i cx mk call e h k = _
        unfold oExtract; simp only [bnd_assoc, asTup_bnd]⟩)
    | skip
  case makeFunc fn a c =>
    cases fn <;> first
      | exact ⟨none, fun h k => rfl⟩
      | (rename_i f
         exact ⟨bnd (evs cx mk a.toList e) fun a => bnd (evs cx mk c.toList e) fun c => some (.fn f a c), fun h k => by
          show bnd (evs cx mk a.toList e) (fun a => bnd (evs cx mk c.toList e) fun c => k (.fn f a c) h) = _
          simp only [bnd_assoc]⟩)
  case fieldAddr t x i =>
    exact ⟨bnd (ev cx mk x e) fun v => asPtr v fun b off => fldK cx.Γ t i fun o u => bnd (sizeT cx.Γ u) fun s => ifB (Nat.beq s 0) none (forceN (Nat.add off o) fun o => some (.ptr b o)), fun h k => by
      show oFieldAddr t x i cx mk call e h k = _
      unfold oFieldAddr; simp only [bnd_assoc, asPtr_bnd, fldK_bnd', ifB_bnd, forceN_eq]⟩
  case convert s d x =>
    exfalso
    simp only [clsOf] at hc
    split at hc
    · split at hc <;> cases hc
    · cases hc
  case call c =>
    obtain ⟨cl, xs, ts⟩ := c
    cases cl with
    | value f => cases hc
    | invoke r m => cases hc
    | builtin b =>
      have key : ∀ {f : List RV → Option RV}, (∀ h xs, builtinV cx.Γ h b ts.toList xs = pureO h (f xs)) → ∃ X, PureO cx mk call e (.call ⟨.builtin b, xs, ts⟩) X := fun {f} hf =>
        ⟨bnd (evs cx mk xs.toList e) f, fun h k => by
          show oCall ⟨.builtin b, xs, ts⟩ cx mk call e h k = _
          simp only [oCall, bnd_assoc, hf]
          congr 1; funext xs
          unfold pureO
          rw [outK_bnd]; rfl⟩
      cases b <;> first
        | (cases hc; done)
        | skip
      case max => exact key (f := fun xs => match xs with | x :: r => minmaxs true r x | _ => none) fun h xs => by cases xs <;> rfl
      case min => exact key (f := fun xs => match xs with | x :: r => minmaxs false r x | _ => none) fun h xs => by cases xs <;> rfl
      case unsafeSliceData =>
        exact key (f := fun xs => match xs with | [.sl b off _ c _] => ifB (Nat.beq c 0) none (some (.ptr b off)) | [.nils] => some .nilp | _ => none) fun h xs => by
          match xs with
          | [] => rfl
          | [a] => cases a <;> first | rfl | (simp only [builtinV, pureO, ifB_bnd])
          | a :: b :: r => cases a <;> rfl
end
end Go.E
end

section
/- E: operations that read. No condition. -/
namespace Go.E
open Go Go.RowKit
/-- All that is in the one memory is in the other. -/
def Sub (h h' : Hp) : Prop := ∀ b o, h.get b = some o → o ≠ .dead → h'.get b = some o
theorem Sub.refl (h : Hp) : Sub h h := fun _ _ h _ => h
theorem Sub.trans {a b c : Hp} (h : Sub a b) (k : Sub b c) : Sub a c := fun q o h1 h2 => k q o (h q o h1 h2) h2
section
variable {R : Type} {cx : Ctx} {mk : Nat} {call : CallK} {e : Env} {h h' : Hp}
theorem getR_mono {β : Type} (hs : Sub h h') {b : Ps} {k : List RV → TypeId → Option β} {y : β} (hg : getR h b k = some y) : getR h' b k = some y := by
  obtain ⟨o, h1, h2⟩ := bnd_inv hg
  show bnd (h'.get b) _ = some y
  rw [hs b o h1 (fun e => by rw [e] at h2; cases h2)]
  exact h2
theorem getC_mono {β : Type} (hs : Sub h h') {b : Ps} {k : List RV → TypeId → Option Nat → Nat → Nat → List Ps → Option β} {y : β} (hg : getC h b k = some y) : getC h' b k = some y := by
  obtain ⟨o, h1, h2⟩ := bnd_inv hg
  show bnd (h'.get b) _ = some y
  rw [hs b o h1 (fun e => by rw [e] at h2; cases h2)]
  exact h2
theorem getM_mono {β : Type} (hs : Sub h h') {b : Ps} {k : List (RV × RV × Nat) → Nat → Option β} {y : β} (hg : getM h b k = some y) : getM h' b k = some y := by
  obtain ⟨o, h1, h2⟩ := bnd_inv hg
  show bnd (h'.get b) _ = some y
  rw [hs b o h1 (fun e => by rw [e] at h2; cases h2)]
  exact h2
theorem loadV_mono (hs : Sub h h') {Γ : Tys} {t : TypeId} {b : Ps} {off : Nat} {v : RV} (hv : loadV Γ h t b off = some v) : loadV Γ h' t b off = some v := by
  obtain ⟨ty, h1, h2⟩ := bnd_inv hv
  show bnd (Γ.ty t) _ = some v
  rw [h1, bnd_mk]
  cases hk : isAggK ty.k with
  | true =>
    rw [hk] at h2
    obtain ⟨l, h3, h4⟩ := bnd_inv h2
    have h5 : loadC h' b off ty.size = some l := getR_mono hs h3
    rw [ifB_true, h5]
    exact h4
  | false =>
    rw [hk] at h2
    exact getR_mono hs h2
theorem mapK_mono {β : Type} {Γ : Tys} {t : TypeId} {k k' : TypeId → TypeId → Option β} {y : β} (hk : ∀ a b, k a b = some y → k' a b = some y) (h : mapK Γ t k = some y) : mapK Γ t k' = some y := by
  obtain ⟨ty, h1, h2⟩ := bnd_inv h
  show bnd (Γ.ty t) _ = some y
  rw [h1, bnd_mk]
  revert h2
  cases ty.k <;> first
    | (intro h2; cases h2; done)
    | (intro h2; exact hk _ _ h2)
theorem keyK_mono {β : Type} {Γ : Tys} {t : TypeId} {q : RV} {k k' : List EK → Option β} {y : β} (hk : ∀ a, k a = some y → k' a = some y) (h : keyK Γ t q k = some y) : keyK Γ t q k' = some y := by
  obtain ⟨ty, h1, h2⟩ := bnd_inv h
  obtain ⟨ks, h3, h4⟩ := bnd_inv h2
  obtain ⟨b, h5, h6⟩ := bnd_inv h4
  show bnd (Γ.ty t) (fun ty => bnd (flatK Γ 5 t) fun ks => bnd (keyEq ks q q) fun _ => match q with
  | .agg _ => match ty.k with
    | .ar _ e => bnd (Γ.ty e) fun te => ifB (isScal te.k) (k' ks) none
    | _ => none
  | _ => ifB (isScal ty.k) (k' ks) none) = some y
  rw [h1, bnd_mk, h3, bnd_mk, h5, bnd_mk]
  have two : ∀ c : Bool, ifB c (k ks) none = some y → ifB c (k' ks) none = some y := fun c hc => by
    obtain ⟨e1, e2⟩ := ifB_none hc
    subst e1
    exact hk _ e2
  revert h6
  cases q <;> first
    | exact two _
    | skip
  cases ty.k <;> first
    | (intro h; cases h; done)
    | (intro h
       obtain ⟨te, e1, e2⟩ := bnd_inv h
       show bnd (Γ.ty _) _ = some y
       rw [e1, bnd_mk]
       exact two _ e2)
theorem lookupV_mono (hs : Sub h h') {Γ : Tys} {t : TypeId} {m k : RV} {ok : Bool} {v : RV} (hv : lookupV Γ h t m k ok = some v) : lookupV Γ h' t m k ok = some v :=
  mapK_mono (fun kt et h1 => keyK_mono (fun ks h2 => by
    revert h2
    cases m <;> first
      | (intro h2; cases h2; done)
      | (intro h2; exact h2)
      | (intro h2; exact getM_mono hs h2)) h1) hv
theorem entryV_mono (hs : Sub h h') {x v : RV} (hv : entryV h x = some v) : entryV h' x = some v := by
  unfold entryV at hv ⊢
  split at hv
  · rename_i r
    obtain ⟨o, h1, h2⟩ := bnd_inv hv
    rw [hs r o h1 (fun e => by rw [e] at h2; cases h2), bnd_mk]
    split at h2
    · obtain ⟨s, h3, h4⟩ := bnd_inv h2
      simp only [h3]
      exact getM_mono hs h4
    · cases h2
  · cases hv
theorem lenV_mono (hs : Sub h h') {Γ : Tys} {t : TypeId} {x v : RV} (hv : lenV Γ h t x = some v) : lenV Γ h' t x = some v := by
  obtain ⟨ty, h1, h2⟩ := bnd_inv hv
  show bnd (Γ.ty t) _ = some v
  rw [h1, bnd_mk]
  revert h2
  cases ty.k <;> first
    | (intro h2; cases h2; done)
    | (intro h2; exact h2)
    | skip
  cases x <;> first
    | (intro h2; cases h2; done)
    | (intro h2; exact h2)
    | (intro h2; exact getM_mono hs h2)
theorem conv_mono (hs : Sub h h') {Γ : Tys} {a b : TypeId} {x v : RV} {h1 : Hp} (hb : ∀ tb, Γ.ty b = some tb → ∀ e, tb.k ≠ .sl e) (hv : convV Γ h a b x = some ⟨v, h1⟩) : h1 = h ∧ convV Γ h' a b x = some ⟨v, h'⟩ := by
  obtain ⟨ta, e1, h2⟩ := bnd_inv hv
  obtain ⟨tb, e2, h3⟩ := bnd_inv h2
  have hb := hb tb e2
  clear hv h2
  show h1 = h ∧ bnd (Γ.ty a) _ = some (⟨v, h'⟩ : Out)
  rw [e1, bnd_mk, e2, bnd_mk]
  revert h3
  cases hk : tb.k <;> first
    | (intro h3; cases h3; done)
    | skip
  case sl e => exact absurd hk (hb e)
  case int k =>
    cases x <;> first
      | (intro h3; cases h3; done)
      | (intro h3
         obtain ⟨n, p1, h4⟩ := bnd_inv h3
         obtain ⟨p2, h5⟩ := ifB_none h4
         obtain ⟨r, q1, q2⟩ := bnd_inv (show bnd (ri k _) (fun v => some (⟨v, h⟩ : Out)) = some ⟨v, h1⟩ from h5)
         cases q2
         refine ⟨rfl, ?_⟩
         show bnd _ _ = _
         rw [p1, bnd_mk, p2]
         show bnd (ri k _) _ = _
         rw [q1]; done)
      | (intro h3
         obtain ⟨r, q1, q2⟩ := bnd_inv (show bnd (ri k _) (fun v => some (⟨v, h⟩ : Out)) = some ⟨v, h1⟩ from h3)
         cases q2
         exact ⟨rfl, by show bnd (ri k _) _ = _; rw [q1]⟩)
  case flt k =>
    cases x <;> first
      | (intro h3; cases h3; done)
      | (intro h3; simp only [forceN_eq] at h3; cases h3; exact ⟨rfl, by simp only [forceN_eq]⟩)
  case str =>
    have ifc : ∀ {c : Bool} {r : RV}, ifB c (some (⟨r, h⟩ : Out)) none = some ⟨v, h1⟩ → h1 = h ∧ ifB c (some (⟨r, h'⟩ : Out)) none = some ⟨v, h'⟩ := fun {c r} hc => by
      obtain ⟨q1, q2⟩ := ifB_none hc
      cases q2
      exact ⟨rfl, by rw [q1]⟩
    have elc : ∀ {K K' : TypeId → ETy → Option Out}, (∀ el te, K el te = some ⟨v, h1⟩ → h1 = h ∧ K' el te = some ⟨v, h'⟩) → elemK Γ a K = some ⟨v, h1⟩ → h1 = h ∧ elemK Γ a K' = some ⟨v, h'⟩ := fun {K K'} hK hc => by
      obtain ⟨ty, q1, q2⟩ := bnd_inv hc
      show h1 = h ∧ bnd (Γ.ty a) _ = some (⟨v, h'⟩ : Out)
      rw [q1, bnd_mk]
      revert q2
      cases ty.k <;> first
        | (intro q2; cases q2; done)
        | (intro q2
           obtain ⟨te, q3, q4⟩ := bnd_inv q2
           obtain ⟨q5, q6⟩ := hK _ te q4
           exact ⟨q5, by show bnd (Γ.ty _) _ = _; rw [q3]; exact q6⟩)
    cases x <;> first
      | (intro h3; cases h3; done)
      | (intro h3; exact ifc h3)
      | (intro h3; exact elc (fun el te hc => ifc hc) h3)
      | (intro h3
         refine elc (fun el te hc => ?_) h3
         obtain ⟨q1, q2⟩ := ifB_none hc
         obtain ⟨cs, q3, q4⟩ := bnd_inv q2
         obtain ⟨l, q5, q6⟩ := bnd_inv q4
         cases q6
         refine ⟨rfl, ?_⟩
         rw [q1, ifB_true]
         rw [show loadC h' _ _ _ = some cs from getR_mono hs q3, bnd_mk, q5])
  case uptr =>
    cases x <;> first
      | (intro h3; cases h3; done)
      | skip
    cases ta.k <;> first
      | (intro h3; cases h3; done)
      | skip
    intro h3
    obtain ⟨s, q1, q2⟩ := bnd_inv h3
    obtain ⟨q3, q4⟩ := ifB_none' q2
    have key : h1 = h := by
      obtain ⟨cs, ty, _, q5⟩ := getR_ok q4
      obtain ⟨_, q6⟩ := ifB_none q5
      cases q6
      rfl
    refine ⟨key, ?_⟩
    subst key
    show bnd (sizeT Γ _) _ = _
    rw [q1]
    show ifB (Nat.beq s 0) none _ = _
    rw [q3]
    obtain ⟨o, q7, q8⟩ := bnd_inv q4
    show bnd (h'.get _) _ = _
    rw [hs _ o q7 (fun e => by rw [e] at q8; cases q8)]
    revert q8
    cases o <;> first
      | (intro q8; cases q8; done)
      | (intro q8
         obtain ⟨c1, c2⟩ := ifB_none q8
         cases c2
         show ifB (Nat.blt _ _) _ none = _
         rw [c1])
  case ptr u =>
    cases x <;> first
      | (intro h3; cases h3; done)
      | skip
    cases ta.k <;> first
      | (intro h3; cases h3; done)
      | skip
    intro h3
    obtain ⟨cs, ty, sz, lo, hi, anc, g1, g2⟩ := getC_ok h3
    obtain ⟨c1, g3⟩ := ifB_none g2
    obtain ⟨c2, g4⟩ := ifB_none g3
    obtain ⟨s, c3, g5⟩ := bnd_inv g4
    obtain ⟨c4, g6⟩ := ifB_none' g5
    obtain ⟨c5, g7⟩ := ifB_none g6
    cases sz with
    | some n => cases g7
    | none =>
      cases g7
      refine ⟨rfl, ?_⟩
      show bnd (h'.get _) _ = _
      rw [hs _ _ g1 (by simp)]
      show ifB (seenK Γ ty u) _ none = _
      rw [c1]
      show ifB (Nat.beq _ 0) _ none = _
      rw [c2]
      show bnd (sizeT Γ u) _ = _
      rw [c3]
      show ifB (Nat.beq s 0) none _ = _
      rw [c4]
      show ifB (lenOk Γ cs ty) _ none = _
      rw [c5]
/-- An operation that tells what it reads. -/
structure ReadO (cx : Ctx) (mk : Nat) (call : CallK) (e : Env) (o : Op) (X : Hp → Option RV) : Prop where
  step : ∀ {R : Type} (h : Hp) (k : RV → Hp → Option R), stepO o cx mk call e h k = bnd (X h) fun v => k v h
  mono : ∀ h h' v, Sub h h' → X h = some v → X h' = some v
theorem readO_ok {o : Op} (hc : clsOf cx.Γ o = .reads) : ∃ X, ReadO cx mk call e o X := by
  cases o <;> first
    | (cases hc; done)
    | skip
  case load t x =>
    refine ⟨fun h => bnd (ev cx mk x e) fun v => asPtr v fun b off => loadV cx.Γ h t b off, fun h k => ?_, fun h h' v hs hv => ?_⟩
    · show oLoad t x cx mk call e h k = _
      unfold oLoad; simp only [bnd_assoc, asPtr_bnd]
    · obtain ⟨u, h1, h2⟩ := bnd_inv hv
      obtain ⟨b, off, rfl, h3⟩ := asPtr_inv h2
      show bnd (ev cx mk x e) _ = _
      rw [h1]
      exact loadV_mono hs h3
  case lookup t x i ok =>
    refine ⟨fun h => bnd (ev cx mk x e) fun v => bnd (ev cx mk i e) fun i => lookupV cx.Γ h t v i ok, fun h k => ?_, fun h h' v hs hv => ?_⟩
    · show oLookup t x i ok cx mk call e h k = _
      unfold oLookup; simp only [bnd_assoc]
    · obtain ⟨u, h1, h2⟩ := bnd_inv hv
      obtain ⟨q, h3, h4⟩ := bnd_inv h2
      show bnd (ev cx mk x e) _ = _
      rw [h1, bnd_mk, h3]
      exact lookupV_mono hs h4
  case entry x =>
    refine ⟨fun h => bnd (ev cx mk x e) fun v => entryV h v, fun h k => ?_, fun h h' v hs hv => ?_⟩
    · show oEntry x cx mk call e h k = _
      unfold oEntry; simp only [bnd_assoc]
    · obtain ⟨u, h1, h2⟩ := bnd_inv hv
      show bnd (ev cx mk x e) _ = _
      rw [h1]
      exact entryV_mono hs h2
  case convert s d x =>
    have hb : ∀ tb, cx.Γ.ty d = some tb → ∀ e, tb.k ≠ .sl e := by
      intro tb h1 el h2
      simp only [clsOf, h1, h2] at hc
      cases hc
    refine ⟨fun h => bnd (ev cx mk x e) fun a => bnd (convV cx.Γ h s d a) fun u => some u.v, fun h k => ?_, fun h h' v hs hv => ?_⟩
    · show oConv s d x cx mk call e h k = _
      unfold oConv
      simp only [bnd_assoc]
      congr 1; funext a
      cases hcv : convV cx.Γ h s d a with
      | none => rfl
      | some u =>
        obtain ⟨v, h1⟩ := u
        obtain ⟨q, _⟩ := conv_mono (.refl h) hb hcv
        subst q
        rfl
    · obtain ⟨u, h1, h2⟩ := bnd_inv hv
      obtain ⟨⟨q, h1'⟩, h3, h4⟩ := bnd_inv h2
      cases h4
      obtain ⟨_, h5⟩ := conv_mono hs hb h3
      show bnd (ev cx mk x e) _ = _
      rw [h1, bnd_mk, h5]
  case call c =>
    obtain ⟨cl, xs, ts⟩ := c
    cases cl with
    | value f => cases hc
    | invoke r m => cases hc
    | builtin b =>
      cases b <;> first
        | (cases hc; done)
        | skip
      refine ⟨fun h => bnd (evs cx mk xs.toList e) fun xs => match ts.toList, xs with
        | t :: _, x :: _ => lenV cx.Γ h t x
        | _, _ => none, fun h k => ?_, fun h h' v hs hv => ?_⟩
      · show oCall ⟨.builtin .len, xs, ts⟩ cx mk call e h k = _
        simp only [oCall, bnd_assoc]
        congr 1; funext xs
        cases ts.toList with
        | nil => rfl
        | cons t tl =>
          cases xs with
          | nil => rfl
          | cons x xl =>
            show outK (pureO h (lenV cx.Γ h t x)) k = _
            unfold pureO
            rw [outK_bnd]
            rfl
      · obtain ⟨u, h1, h2⟩ := bnd_inv hv
        show bnd (evs cx mk xs.toList e) _ = _
        rw [h1, bnd_mk]
        revert h2
        cases ts.toList with
        | nil => intro h2; cases h2
        | cons t tl =>
          cases u with
          | nil => intro h2; cases h2
          | cons x xl => intro h2; exact lenV_mono hs h2
end
end Go.E
end

section
/- E: a region's run in the order of its text, and what is static in it. No condition. -/
namespace Go.E
open Go Go.RowKit
/-! ### New blocks, as the evaluator's -/
section
variable {R : Type} {cx : Ctx} {mk : Nat} {call : CallK} {e : Env} {h : Hp} {k : RV → Hp → Option R} {y : R}
def NewO (cx : Ctx) (mk : Nat) (call : CallK) (e : Env) (o : Op) (ob : RO) (val : Ps → RV) : Prop := ∀ {R : Type} (h : Hp) (k : RV → Hp → Option R), stepO o cx mk call e h k = h.new ob fun b h => k (val b) h
theorem outK_newO (h : Hp) (z : List RV) (t : TypeId) (k : RV → Hp → Option R) : outK (newO h z t) k = h.new (.cells z t none 0 0 []) fun b h => k (.ptr b 0) h := by
  unfold outK newO
  obtain ⟨h', n1, _⟩ := Hp.new_eq h (.cells z t none 0 0 [])
  rw [n1, n1]
theorem newO_ok {o : Op} (hc : clsOf cx.Γ o = .news) (hk : stepO o cx mk call e h k = some y) : ∃ ob val, NewO cx mk call e o ob val := by
  cases o <;> first
    | (cases hc; done)
    | skip
  case convert s d x =>
    exfalso
    simp only [clsOf] at hc
    split at hc
    · split at hc <;> cases hc
    · cases hc
  case call c =>
    exfalso
    simp only [clsOf] at hc
    split at hc
    · split at hc <;> cases hc
    · cases hc
  case alloc t =>
    obtain ⟨z, h1, _⟩ := bnd_inv (show bnd (zeroC cx.Γ t) (fun z => outK (newO h z t) k) = some y from hk)
    refine ⟨.cells z t none 0 0 [], fun b => .ptr b 0, fun h k => ?_⟩
    show bnd (zeroC cx.Γ t) (fun z => outK (newO h z t) k) = _
    rw [h1]
    exact outK_newO h z t k
  case box t x =>
    obtain ⟨v, h1, h2⟩ := bnd_inv (show bnd (ev cx mk x e) (fun v => bnd (cellsOf v) fun l => outK (newO h l t) k) = some y from hk)
    obtain ⟨l, h3, h4⟩ := bnd_inv h2
    refine ⟨.cells l t none 0 0 [], fun b => .ptr b 0, fun h k => ?_⟩
    show bnd (ev cx mk x e) (fun v => bnd (cellsOf v) fun l => outK (newO h l t) k) = _
    rw [h1, bnd_mk, h3]
    exact outK_newO h l t k
  case makeMap t r =>
    cases r with
    | some x => cases hk
    | none => exact ⟨.map [] 0, fun b => .map b, fun h k => rfl⟩
  case buildSlice t n ps =>
    have key : ∀ {R' : Type} (h : Hp) (k' : RV → Hp → Option R'), oBuildSlice t n ps cx mk call e h k' = bnd (bnd (evParts cx mk e ps.toList) fun ps => elemK cx.Γ t fun el te => bnd (zeroC cx.Γ el) fun z => bnd (repL z n) fun z => bnd (fillC (fun i => some (Nat.mul i te.size, te.size)) ps z) fun cs =>
        ifB (Nat.ble (lenL cs 0) 16777216) (some (cs, el)) none) fun q => h.new (.cells q.1 q.2 none 0 0 []) fun b h => k' (.sl b 0 n n true) h := by
      intro R' h k'
      unfold oBuildSlice
      simp only [bnd_assoc, elemK_bnd', ifB_bnd]
    have hk : oBuildSlice t n ps cx mk call e h k = some y := hk
    rw [key] at hk
    obtain ⟨q, hq, _⟩ := bnd_inv hk
    refine ⟨.cells q.1 q.2 none 0 0 [], fun b => .sl b 0 n n true, fun h k => ?_⟩
    show oBuildSlice t n ps cx mk call e h k = _
    rw [key, hq, bnd_mk]
  case makeSlice t x z =>
    have hk : oMakeSlice t x z cx mk call e h k = some y := hk
    unfold oMakeSlice at hk
    obtain ⟨u, h1, h2⟩ := bnd_inv hk
    obtain ⟨u', h3, h4⟩ := bnd_inv h2
    split at h4
    · rename_i kl l
      split at h4
      · rename_i kc c
        have key : ∀ {R' : Type} (h : Hp) (k' : RV → Hp → Option R'), oMakeSlice t x z cx mk call e h k' = bnd (elemK cx.Γ t fun el te => ifB (Nat.ble l c) (ifB (Nat.ble c 1000000) (ifB (Nat.ble te.bytes 100000) (bnd (zeroC cx.Γ el) fun z => bnd (repL z c) fun cs => some (cs, el)) none) none) none)
            fun q => h.new (.cells q.1 q.2 none 0 0 []) fun b h => k' (.sl b 0 l c true) h := by
          intro R' h k'
          unfold oMakeSlice
          rw [h1, h3]
          show elemK cx.Γ t _ = _
          simp only [bnd_assoc, elemK_bnd', ifB_bnd]
        have hk2 : oMakeSlice t x z cx mk call e h k = some y := by unfold oMakeSlice; rw [h1, h3]; exact h4
        rw [key] at hk2
        obtain ⟨q, hq, _⟩ := bnd_inv hk2
        refine ⟨.cells q.1 q.2 none 0 0 [], fun b => .sl b 0 l c true, fun h k => ?_⟩
        show oMakeSlice t x z cx mk call e h k = _
        rw [key, hq, bnd_mk]
      · cases h4
    · cases h4
end

/-! ### A run in the order of the text -/
noncomputable def wants (mk : Nat) (ops : List Oper) (e : Env) (o : Oper) : Option Bool := match o.guard with
  | none => some true
  | some (g, w) => bnd (guardB mk ops e g) fun q => some (q == some w)
inductive Trace (cx : Ctx) (mk : Nat) (call : CallK) (ops : List Oper) : List Oper → Env → Hp → List Tc → Env → Hp → Prop
  | nil (e : Env) (h : Hp) : Trace cx mk call ops [] e h [] e h
  | step {o : Oper} {rest : List Oper} {e e1 en : Env} {h h1 hn : Hp} {v : RV} {ts : List Tc} (hw : wants mk ops e o = some true) (hs : ∀ {R : Type} (k : RV → Hp → Option R), stepO o.op cx mk call e h k = k v h1) (hp : putD mk o.dst v e = some e1)
      (ht : Trace cx mk call ops rest e1 h1 ts en hn) : Trace cx mk call ops (o :: rest) e h (⟨o, true, e, h, v⟩ :: ts) en hn
  | skip {o : Oper} {rest : List Oper} {e e1 en : Env} {h hn : Hp} {ts : List Tc} (hw : wants mk ops e o = some false) (hp : putD mk o.dst undefV e = some e1)
      (ht : Trace cx mk call ops rest e1 h ts en hn) : Trace cx mk call ops (o :: rest) e h (⟨o, false, e, h, undefV⟩ :: ts) en hn
section
variable {cx : Ctx} {mk : Nat} {call : CallK} {ops : List Oper}
theorem runOps_trace : ∀ {rest : List Oper} {e : Env} {h : Hp} {f : Fin}, runOps cx mk call ops rest e h = some f → ∃ ts en hn, Trace cx mk call ops rest e h ts en hn ∧ f = ⟨.normal, en.over, hn⟩
  | [], e, h, f, hr => by cases hr; exact ⟨[], e, h, .nil e h, rfl⟩
  | o :: rest, e, h, f, hr => by
    have step : wants mk ops e o = some true → stepTo cx mk call o.op o.dst (runOps cx mk call ops rest) e h = some f → ∃ ts en hn, Trace cx mk call ops (o :: rest) e h ts en hn ∧ f = ⟨.normal, en.over, hn⟩ := fun hw hs => by
      obtain ⟨v, h', h1, h2⟩ := stepO_inv hs
      obtain ⟨e1, h3, h4⟩ := bnd_inv h1
      obtain ⟨ts, en, hn, t1, t2⟩ := runOps_trace h4
      exact ⟨_, en, hn, .step hw h2 h3 t1, t2⟩
    have skip : wants mk ops e o = some false → skipTo mk o.dst (runOps cx mk call ops rest) e h = some f → ∃ ts en hn, Trace cx mk call ops (o :: rest) e h ts en hn ∧ f = ⟨.normal, en.over, hn⟩ := fun hw hs => by
      obtain ⟨e1, h3, h4⟩ := bnd_inv hs
      obtain ⟨ts, en, hn, t1, t2⟩ := runOps_trace h4
      exact ⟨_, en, hn, .skip hw h3 t1, t2⟩
    have hr : (Option.rec (stepTo cx mk call o.op o.dst (runOps cx mk call ops rest)) (fun g => Prod.rec (fun j w => guarded cx mk call ops o.op o.dst (runOps cx mk call ops rest) j w) g) o.guard : RunK) e h = some f := hr
    cases hg : o.guard with
    | none =>
      rw [hg] at hr
      exact step (by unfold wants; rw [hg]) hr
    | some gw =>
      obtain ⟨j, want⟩ := gw
      rw [hg] at hr
      obtain ⟨q, h1, h2⟩ := bnd_inv (show bnd (guardB mk ops e j) _ = some f from hr)
      have hw : wants mk ops e o = some (q == some want) := by unfold wants; rw [hg]; simp only [h1]
      cases q with
      | none => exact skip (by rw [hw]; rfl) h2
      | some b =>
        by_cases hb : b = want
        · subst hb
          exact step (by rw [hw]; simp) (by cases b <;> exact h2)
        · exact skip (by rw [hw]; simpa using hb) (by cases b <;> cases want <;> first | exact absurd rfl hb | exact h2)
theorem trOps_trace : ∀ {rest : List Oper} {e : Env} {h : Hp} {l l' : List Tc} {f : Fin}, trOps cx mk call ops rest e h l = some (l', f) → ∃ ts en hn, Trace cx mk call ops rest e h ts en hn ∧ f = ⟨.normal, en.over, hn⟩ ∧ l' = ts.reverse ++ l
  | [], e, h, l, l', f, hr => by cases hr; exact ⟨[], e, h, .nil e h, rfl, rfl⟩
  | o :: rest, e, h, l, l', f, hr => by
    have step : wants mk ops e o = some true → tStep cx mk call o (trOps cx mk call ops rest) e h l = some (l', f) → ∃ ts en hn, Trace cx mk call ops (o :: rest) e h ts en hn ∧ f = ⟨.normal, en.over, hn⟩ ∧ l' = ts.reverse ++ l := fun hw hs => by
      obtain ⟨v, h', h1, h2⟩ := stepO_inv hs
      obtain ⟨e1, h3, h4⟩ := bnd_inv h1
      obtain ⟨ts, en, hn, t1, t2, t3⟩ := trOps_trace h4
      exact ⟨_, en, hn, .step hw h2 h3 t1, t2, by rw [t3]; simp⟩
    have skip : wants mk ops e o = some false → tSkip mk o (trOps cx mk call ops rest) e h l = some (l', f) → ∃ ts en hn, Trace cx mk call ops (o :: rest) e h ts en hn ∧ f = ⟨.normal, en.over, hn⟩ ∧ l' = ts.reverse ++ l := fun hw hs => by
      obtain ⟨e1, h3, h4⟩ := bnd_inv hs
      obtain ⟨ts, en, hn, t1, t2, t3⟩ := trOps_trace h4
      exact ⟨_, en, hn, .skip hw h3 t1, t2, by rw [t3]; simp⟩
    have hr : (Option.rec (tStep cx mk call o (trOps cx mk call ops rest)) (fun g => tGuard cx mk call ops o (trOps cx mk call ops rest) g) o.guard : TrK) e h l = some (l', f) := hr
    cases hg : o.guard with
    | none =>
      rw [hg] at hr
      exact step (by unfold wants; rw [hg]) hr
    | some gw =>
      obtain ⟨j, want⟩ := gw
      rw [hg] at hr
      obtain ⟨q, h1, h2⟩ := bnd_inv (show bnd (guardB mk ops e j) _ = some (l', f) from hr)
      have hw : wants mk ops e o = some (q == some want) := by unfold wants; rw [hg]; simp only [h1]
      cases q with
      | none => exact skip (by rw [hw]; rfl) h2
      | some b =>
        by_cases hb : b = want
        · subst hb
          exact step (by rw [hw]; simp) (by cases b <;> exact h2)
        · exact skip (by rw [hw]; simpa using hb) (by cases b <;> cases want <;> first | exact absurd rfl hb | exact h2)
/-- The memory, and the temporaries, ahead of operation j. -/
def hAt (ts : List Tc) (hn : Hp) (j : Nat) : Hp := match ts[j]? with
  | some t => t.h
  | none => hn
def eAt (ts : List Tc) (en : Env) (j : Nat) : Env := match ts[j]? with
  | some t => t.e
  | none => en
/-- What one operation of a run is. -/
structure TcOk (cx : Ctx) (mk : Nat) (call : CallK) (ops : List Oper) (t : Tc) (e1 : Env) (h1 : Hp) : Prop where
  wants : wants mk ops t.e t.o = some t.w
  step : t.w = true → ∀ {R : Type} (k : RV → Hp → Option R), stepO t.o.op cx mk call t.e t.h k = k t.v h1
  skip : t.w = false → t.v = undefV ∧ h1 = t.h
  put : putD mk t.o.dst t.v t.e = some e1
theorem Trace.len {rest : List Oper} {e en : Env} {h hn : Hp} {ts : List Tc} (T : Trace cx mk call ops rest e h ts en hn) : ts.length = rest.length := by
  induction T with
  | nil => rfl
  | step _ _ _ _ ih => simp [ih]
  | skip _ _ _ ih => simp [ih]
theorem Trace.zero {rest : List Oper} {e en : Env} {h hn : Hp} {ts : List Tc} (T : Trace cx mk call ops rest e h ts en hn) : eAt ts en 0 = e ∧ hAt ts hn 0 = h := by cases T <;> exact ⟨rfl, rfl⟩
theorem Trace.at {rest : List Oper} {e en : Env} {h hn : Hp} {ts : List Tc} (T : Trace cx mk call ops rest e h ts en hn) : ∀ (j : Nat) (t : Tc), ts[j]? = some t → rest[j]? = some t.o ∧ TcOk cx mk call ops t (eAt ts en (j + 1)) (hAt ts hn (j + 1)) := by
  induction T with
  | nil => intro j t hj; simp at hj
  | @step o rest e e1 en h h1 hn v ts hw hs hp ht ih =>
    intro j t hj
    cases j with
    | zero =>
      simp at hj
      subst hj
      have e1' : eAt (⟨o, true, e, h, v⟩ :: ts) en (0 + 1) = e1 := ht.zero.1
      have e2' : hAt (⟨o, true, e, h, v⟩ :: ts) hn (0 + 1) = h1 := ht.zero.2
      rw [e1', e2']
      exact ⟨rfl, hw, fun _ => hs, (fun h => by cases h), hp⟩
    | succ j => exact ih j t (by simpa using hj)
  | @skip o rest e e1 en h hn ts hw hp ht ih =>
    intro j t hj
    cases j with
    | zero =>
      simp at hj
      subst hj
      have e1' : eAt (⟨o, false, e, h, undefV⟩ :: ts) en (0 + 1) = e1 := ht.zero.1
      have e2' : hAt (⟨o, false, e, h, undefV⟩ :: ts) hn (0 + 1) = h := ht.zero.2
      rw [e1', e2']
      exact ⟨rfl, hw, (fun h => by cases h), fun _ => ⟨rfl, rfl⟩, hp⟩
    | succ j => exact ih j t (by simpa using hj)
theorem eAt_at {ts : List Tc} {en : Env} {j : Nat} {t : Tc} (h : ts[j]? = some t) : eAt ts en j = t.e := by unfold eAt; rw [h]
theorem hAt_at {ts : List Tc} {hn : Hp} {j : Nat} {t : Tc} (h : ts[j]? = some t) : hAt ts hn j = t.h := by unfold hAt; rw [h]
theorem eAt_end {ts : List Tc} {en : Env} {j : Nat} (h : ts.length ≤ j) : eAt ts en j = en := by unfold eAt; rw [List.getElem?_eq_none h]
theorem hAt_end {ts : List Tc} {hn : Hp} {j : Nat} (h : ts.length ≤ j) : hAt ts hn j = hn := by unfold hAt; rw [List.getElem?_eq_none h]
/-- A temporary that no operation ahead of j makes. -/
theorem Trace.old {rest : List Oper} {e en : Env} {h hn : Hp} {ts : List Tc} (T : Trace cx mk call ops rest e h ts en hn) {d : Nat} : ∀ (j : Nat), j ≤ ts.length → (∀ i t, i < j → ts[i]? = some t → t.o.dst ≠ some d) → (eAt ts en j).get mk d = e.get mk d
  | 0, _, _ => by rw [T.zero.1]
  | j + 1, hj, hd => by
    have hlt : j < ts.length := hj
    obtain ⟨t, ht⟩ : ∃ t, ts[j]? = some t := ⟨_, List.getElem?_eq_getElem hlt⟩
    obtain ⟨_, k⟩ := T.at j t ht
    rw [putD_ok k.put, if_neg (hd j t (Nat.lt_succ_self j) ht), ← eAt_at (en := en) ht]
    exact T.old j (by omega) fun i t hi => hd i t (by omega)
/-- A temporary that operation i makes, and none behind it. -/
theorem Trace.made {rest : List Oper} {e en : Env} {h hn : Hp} {ts : List Tc} (T : Trace cx mk call ops rest e h ts en hn) {d i : Nat} {t : Tc} (hi : ts[i]? = some t) (hd : t.o.dst = some d) : ∀ (j : Nat), j ≤ ts.length → i < j → (∀ i' t', i < i' → i' < j → ts[i']? = some t' → t'.o.dst ≠ some d) → (eAt ts en j).get mk d = some t.v
  | 0, _, h, _ => by omega
  | j + 1, hj, hij, hno => by
    have hlt : j < ts.length := hj
    obtain ⟨t', ht⟩ : ∃ t, ts[j]? = some t := ⟨_, List.getElem?_eq_getElem hlt⟩
    obtain ⟨_, k⟩ := T.at j t' ht
    rw [putD_ok k.put]
    by_cases hji : j = i
    · subst hji
      rw [hi] at ht
      cases ht
      rw [if_pos hd]
    · rw [if_neg (hno j t' (by omega) (Nat.lt_succ_self j) ht), ← eAt_at (en := en) ht]
      exact T.made hi hd j (by omega) (by omega) fun i' t' h1 h2 => hno i' t' h1 (by omega)
end
end Go.E
end
