/- A verified evaluator of the program's code, part 3: definitions and laws. No condition. -/
import Derived.Test.YtljeeehimcdmbaaGreatDoorEv2
import Derived.RangeFuncIn
import Derived.TacticsIn
import Derived.LoopNIn
import Derived.RangeFuncLeaves
set_option linter.unusedVariables false
set_option linter.unusedSimpArgs false
section
/- E: blocks that are taken up later; what is static in a region. No condition. -/
namespace Go.E
open Go Go.RowKit
theorem RO.live_ne {o : RO} (h : o.live = true) : o ≠ .dead := fun e => by rw [e] at h; cases h
theorem HR.like {cx : Ctx} {g : Gh} {h h' : Hp} {w : World} {n0 : Nat} (H : HR cx g h w n0) (hget : ∀ b o, o ≠ .dead → h'.get b = some o → h.get b = some o) (hn : h.n.num ≤ h'.n.num) : HR cx g h' w n0 := by
  refine ⟨fun b o hb => ?_, fun b b' o o' h1 h2 l1 l2 hne => H.sep b b' o o' (hget b o (RO.live_ne l1) h1) (hget b' o' (RO.live_ne l2) h2) l1 l2 hne, fun b b' o cs ty h1 l1 h2 he => H.old b b' o cs ty (hget b o (RO.live_ne l1) h1) l1 (hget b' _ (by simp) h2) he, H.lt, fun b p hp => Nat.lt_of_lt_of_le (H.dom b p hp) hn, H.glb, H.base⟩
  by_cases hd : o = .dead
  · subst hd; trivial
  · exact H.obj b o (hget b o hd hb)
theorem HR.top {cx : Ctx} {g : Gh} {h : Hp} {w : World} {n0 : Nat} (H : HR cx g h w n0) {b : Ps} {o : RO} (hb : h.get b = some o) (hd : o ≠ .dead) : b.num < h.n.num := by
  obtain ⟨B, k, hm⟩ := (H.obj b o hb).dom hd
  exact H.dom b _ hm
/-- A block that the machine has made already, and that nobody has been told of. -/
theorem HR.adopt {cx : Ctx} {g : Gh} {h h' : Hp} {w : World} {n0 : Nat} (H : HR cx g h w n0) {ob : RO} {q : Ps} {B : Nat} (hq : g.μ q = none) (hB : B < w.heap.size) (hfr : ∀ b o, g.μ b ≠ some (B, o)) (hl : ob.live = true)
    (hget : ∀ r, h'.get r = if r = q then some ob else h.get r) (hn1 : q.num < h'.n.num) (hn2 : h.n.num ≤ h'.n.num) (ho : OR cx (g.add q B 0 0) w n0 q ob) : HR cx (g.add q B 0 0) h' w n0 := by
  have hle : g.Le (g.add q B 0 0) := Gh.add_le hq
  have hb0 : blk (g.add q B 0 0) q = some B := by simp [blk, Gh.add]
  have hbo : ∀ b, b ≠ q → blk (g.add q B 0 0) b = blk g b := fun b hb => by simp [blk, Gh.add, hb]
  have hne : ∀ b, blk g b ≠ some B := fun b hb => by
    unfold blk at hb
    cases hm : g.μ b with
    | none => rw [hm] at hb; cases hb
    | some p =>
      rw [hm] at hb
      simp at hb
      exact hfr b p.2 (by rw [hm, ← hb])
  refine ⟨fun b o' hb => ?_, fun b b' o1 o2 h1 h2 l1 l2 hbb => ?_, fun b b' o1 cs ty h1 l1 h2 he => ?_, fun b C k hb => ?_, fun b p hb => ?_, fun i b hb => hle.μ _ _ (H.glb i b hb), ⟨hle.o.trans H.base.o, H.base.le, H.base.below⟩⟩
  · rw [hget] at hb
    by_cases hbq : b = q
    · rw [if_pos hbq] at hb; cases hb; rw [hbq]; exact ho
    · rw [if_neg hbq] at hb
      exact (H.obj b o' hb).keep hle fun _ _ => rfl
  · rw [hget] at h1 h2
    by_cases hbq : b = q
    · by_cases hbq' : b' = q
      · exact absurd (hbq.trans hbq'.symm) hbb
      · rw [if_neg hbq'] at h2
        rw [hbq, hb0, hbo b' hbq']
        exact fun he => hne b' he.symm
    · rw [if_neg hbq] at h1
      by_cases hbq' : b' = q
      · rw [hbq', hb0, hbo b hbq]
        exact hne b
      · rw [if_neg hbq'] at h2
        rw [hbo b hbq, hbo b' hbq']
        exact H.sep b b' o1 o2 h1 h2 l1 l2 hbb
  · rw [hget] at h1 h2
    by_cases hbq' : b' = q
    · rw [if_pos hbq'] at h2; cases h2; cases hl
    · rw [if_neg hbq'] at h2
      by_cases hbq : b = q
      · rw [hbq, hb0, hbo b' hbq'] at he
        exact absurd he.symm (hne b')
      · rw [if_neg hbq] at h1
        rw [hbo b hbq, hbo b' hbq'] at he
        exact H.old b b' o1 cs ty h1 l1 h2 he
  · by_cases hbq : b = q
    · simp [Gh.add, hbq] at hb; omega
    · simp [Gh.add, hbq] at hb
      exact H.lt b C k hb
  · by_cases hbq : b = q
    · rw [hbq]; exact hn1
    · simp [Gh.add, hbq] at hb
      have := H.dom b p hb; omega

/-! ### What is static -/
theorem hasN_iff {n : Nat} : ∀ {l : List Nat}, hasN l n = true ↔ n ∈ l
  | [] => by simp [hasN]
  | a :: l => by
    have ih := hasN_iff (n := n) (l := l)
    show ifB (Nat.beq a n) true (hasN l n) = true ↔ _
    rw [nbeq_eq]
    by_cases h : a = n
    · subst h; simp
    · have h' : ¬ n = a := fun e => h e.symm
      simp [h, h', ih]
theorem bit_eq (m n : Nat) : bit m n = m.testBit n := by
  show Nat.beq ((m >>> n) &&& 1) 1 = m.testBit n
  rw [Nat.testBit, Nat.and_comm]
  rcases Nat.mod_two_eq_zero_or_one (m >>> n) with h | h <;> simp [Nat.one_and_eq_mod_two, h] <;> rfl
theorem bit_low {m j i : Nat} (h : m < 2 ^ j) (hb : m.testBit i = true) : i < j := by
  by_cases hij : i < j
  · exact hij
  · have := Nat.testBit_lt_two_pow (Nat.lt_of_lt_of_le h (Nat.pow_le_pow_right (by omega) (Nat.le_of_not_lt hij)))
    rw [this] at hb; cases hb
noncomputable def actI (Γ : Tys) (ops : List Oper) (i : Nat) : Prop := ∃ o, ops[i]? = some o ∧ isActs Γ o = true
noncomputable def newI (Γ : Tys) (ops : List Oper) (i : Nat) : Prop := ∃ o, ops[i]? = some o ∧ isNews Γ o = true
structure Stat (Γ : Tys) (ops : List Oper) (W : List Nat) : Prop where
  dst : ∀ (i j : Nat) (a b : Oper) (d : Tmp), i < j → ops[i]? = some a → ops[j]? = some b → a.dst = some d → b.dst ≠ some d
  fwd : ∀ (i j : Nat) (a b : Oper) (d : Tmp), i < j → ops[i]? = some a → ops[j]? = some b → a.dst = some d → d ∈ looksT ops b → wt W j i = true
  bwd : ∀ (i j : Nat) (a b : Oper) (d : Tmp), i < j → ops[i]? = some a → ops[j]? = some b → b.dst = some d → d ∈ looksT ops a → wt W j i = true
  act : ∀ (i j : Nat), i < j → actI Γ ops i ∨ newI Γ ops i → actI Γ ops j → wt W j i = true
  flo : ∀ (i j : Nat) (b : Oper), i < j → actI Γ ops i → newI Γ ops j → ops[j]? = some b → wt W j i = true ∨ ∀ d, b.dst = some d → ∀ (r : Nat) (x : Oper), ops[r]? = some x → d ∈ looksT ops x → wt W r i = true
  low : ∀ (i j : Nat), j < ops.length → wt W j i = true → i < j
  nodef : ∀ o ∈ ops, ∀ c, o.op ≠ .defer c
theorem statOk_ok {Γ : Tys} {ops : List Oper} {W : List Nat} (h : statOk Γ ops W = true) : Stat Γ ops W := by
  unfold statOk at h
  simp only [Bool.and_eq_true] at h
  obtain ⟨h1, h2, h3⟩ := h
  have pair : ∀ (i j : Nat) (a b : Oper), i < j → ops[i]? = some a → ops[j]? = some b → pairOk Γ ops W i j = true := fun i j a b hij _ hb => by
    have hj := (List.getElem?_eq_some_iff.1 hb).1
    have := List.all_eq_true.1 h1 j (List.mem_range.2 hj)
    exact List.all_eq_true.1 this i (List.mem_range.2 hij)
  have imp : ∀ {x y : Bool}, (!x || y) = true → x = true → y = true := fun {x y} h hx => by subst hx; simpa using h
  refine ⟨fun i j a b d hij ha hb hd hd' => ?_, fun i j a b d hij ha hb hd hl => ?_, fun i j a b d hij ha hb hd hl => ?_, fun i j hij hi hj => ?_, fun i j b hij hi hj hb => ?_, fun i j hj hw => ?_, fun o ho c hc => ?_⟩
  · have hp := pair i j a b hij ha hb
    unfold pairOk at hp
    simp only [ha, hb, hd, hd', Bool.and_eq_true] at hp
    have := hp.1
    rw [nbeq_eq] at this
    simp at this
  · have hp := pair i j a b hij ha hb
    unfold pairOk at hp
    simp only [ha, hb, hd, Bool.and_eq_true] at hp
    exact imp hp.2.1 (hasN_iff.2 hl)
  · have hp := pair i j a b hij ha hb
    unfold pairOk at hp
    simp only [ha, hb, hd, Bool.and_eq_true] at hp
    exact imp hp.2.2.1 (hasN_iff.2 hl)
  · obtain ⟨b, hb, hj⟩ := hj
    have : ∃ a, ops[i]? = some a ∧ isAN Γ a = true := by
      rcases hi with ⟨a, ha, hi⟩ | ⟨a, ha, hi⟩
      · exact ⟨a, ha, by unfold isAN; rw [hi]; rfl⟩
      · exact ⟨a, ha, by unfold isAN; rw [hi, Bool.or_true]⟩
    obtain ⟨a, ha, hi⟩ := this
    have hp := pair i j a b hij ha hb
    unfold pairOk at hp
    simp only [ha, hb, Bool.and_eq_true] at hp
    exact imp hp.2.2.2.1 (by rw [hi, hj]; rfl)
  · obtain ⟨a, ha, hi⟩ := hi
    obtain ⟨b', hb', hj⟩ := hj
    rw [hb] at hb'
    cases hb'
    have hp := pair i j a b hij ha hb
    unfold pairOk at hp
    simp only [ha, hb, Bool.and_eq_true] at hp
    have := imp hp.2.2.2.2 (by rw [hi, hj]; rfl)
    rw [Bool.or_eq_true] at this
    refine this.imp id fun hf d hd r x hr hl => ?_
    unfold floatOk at hf
    rw [hd] at hf
    have := List.all_eq_true.1 hf r (List.mem_range.2 (List.getElem?_eq_some_iff.1 hr).1)
    simp only [hr] at this
    exact imp this (hasN_iff.2 hl)
  · have := List.all_eq_true.1 h3 j (List.mem_range.2 hj)
    rw [nblt_eq, decide_eq_true_eq] at this
    have this : wtM W j < 2 ^ j := this
    have hw : (wtM W j).testBit i = true := by rw [← bit_eq]; exact hw
    exact bit_low this hw
  · have := List.all_eq_true.1 h2 o ho
    unfold notDefer at this
    rw [hc] at this
    cases this
/-- What a list of waits says. -/
def WaitsOk (ops : List Oper) (W : List Nat) : Prop := ∀ (j : Nat) (o : Oper), ops[j]? = some o →
  (∀ e ∈ o.after.toList, binds_ e = true → wt W j e.on = true) ∧ ∀ i, wt W j i = true → ∃ e ∈ o.after.toList, binds_ e = true ∧ (i = e.on ∨ (e.on < j ∧ wt W e.on i = true))
theorem edgeM_bit {n : Nat} {acc : List Nat} {e : Edge} {i : Nat} : (edgeM n acc e).testBit i = true ↔ binds_ e = true ∧ (i = e.on ∨ (e.on < n ∧ (wtM acc (n - 1 - e.on)).testBit i = true)) := by
  unfold edgeM
  cases hb : binds_ e with
  | false => simp
  | true =>
    rw [ifB_true]
    show ((1 <<< e.on) ||| (ifB (Nat.blt e.on n) (wtM acc (n - 1 - e.on)) 0)).testBit i = true ↔ _
    rw [Nat.testBit_or, Bool.or_eq_true, nblt_eq]
    have h1 : (1 <<< e.on).testBit i = true ↔ i = e.on := by
      rw [Nat.testBit_shiftLeft]
      by_cases h : e.on ≤ i
      · by_cases h' : i = e.on
        · subst h'; simp
        · have : i - e.on ≠ 0 := by omega
          simp [h, h', Nat.testBit_one_eq_true_iff_self_eq_zero, this]
      · have : ¬ i = e.on := by omega
        simp [h, this]
    by_cases hl : e.on < n
    · rw [h1, decide_eq_true hl, ifB_true]
      simp [hl]
    · rw [h1, decide_eq_false hl]
      simp [hl]
theorem maskM_bit {n : Nat} {acc : List Nat} {i : Nat} : ∀ {es : List Edge}, (maskM n acc es).testBit i = true ↔ ∃ e ∈ es, (edgeM n acc e).testBit i = true
  | [] => by simp [maskM]
  | e :: es => by
    show ((edgeM n acc e) ||| (maskM n acc es)).testBit i = true ↔ _
    rw [Nat.testBit_or, Bool.or_eq_true, maskM_bit (es := es)]
    simp
theorem wtM_eq (W : List Nat) (i : Nat) : wtM W i = W[i]?.getD 0 := by
  unfold wtM
  rw [at_eq]
  cases W[i]? <;> rfl
theorem waits_app : ∀ (ops : List Oper) (acc : List Nat), ∃ L, waitsR ops acc.length acc = acc.reverse ++ L ∧ L.length = ops.length ∧ ∀ (k : Nat) (o : Oper), ops[k]? = some o → L[k]? = some (maskM (acc.length + k) (((acc.reverse ++ L).take (acc.length + k)).reverse) o.after.toList)
  | [], acc => ⟨[], by simp [waitsR], rfl, fun k o h => by simp at h⟩
  | o :: r, acc => by
    obtain ⟨L, h1, h2, h3⟩ := waits_app r (maskM acc.length acc o.after.toList :: acc)
    refine ⟨maskM acc.length acc o.after.toList :: L, ?_, by simp [h2], fun k o' hk => ?_⟩
    · show forceN _ _ = _
      rw [forceN_eq]
      show waitsR r (acc.length + 1) (maskM acc.length acc o.after.toList :: acc) = _
      rw [show acc.length + 1 = (maskM acc.length acc o.after.toList :: acc).length from rfl, h1]
      simp
    · cases k with
      | zero =>
        simp at hk
        subst hk
        simp
      | succ k =>
        have := h3 k o' (by simpa using hk)
        rw [List.getElem?_cons_succ, this]
        simp only [List.reverse_cons, List.append_assoc, List.singleton_append, List.length_cons]
        rw [show acc.length + 1 + k = acc.length + (k + 1) by omega]
theorem waits_ok (ops : List Oper) (hlow : ∀ (i j : Nat), j < ops.length → wt (waitsOf ops []) j i = true → i < j) : WaitsOk ops (waitsOf ops []) := by
  obtain ⟨L, h1, h2, h3⟩ := waits_app ops []
  simp only [List.reverse_nil, List.nil_append, List.length_nil, Nat.zero_add] at h1 h3
  have h1 : waitsOf ops [] = L := h1
  intro j o hj
  have hjl := (List.getElem?_eq_some_iff.1 hj).1
  have hW : ∀ i, wt (waitsOf ops []) j i = (maskM j (L.take j).reverse o.after.toList).testBit i := fun i => by
    unfold wt
    rw [bit_eq, wtM_eq, h1, h3 j o hj]
    rfl
  have hin : ∀ e : Edge, e.on < j → wtM (L.take j).reverse (j - 1 - e.on) = wtM (waitsOf ops []) e.on := fun e he => by
    rw [wtM_eq, wtM_eq, h1]
    have hl : (L.take j).length = j := by rw [List.length_take, h2]; omega
    rw [List.getElem?_reverse (by rw [hl]; omega), hl, show j - 1 - (j - 1 - e.on) = e.on by omega, List.getElem?_take, if_pos he]
  constructor
  · intro e he hb
    rw [hW, maskM_bit]
    exact ⟨e, he, edgeM_bit.2 ⟨hb, .inl rfl⟩⟩
  · intro i hi
    rw [hW, maskM_bit] at hi
    obtain ⟨e, he, hm⟩ := hi
    obtain ⟨hb, hm⟩ := edgeM_bit.1 hm
    refine ⟨e, he, hb, hm.imp id fun hm => ⟨hm.1, ?_⟩⟩
    unfold wt
    rw [bit_eq, ← hin e hm.1]
    exact hm.2
end Go.E
end

section
/- E: operations that leave memory as it is. No condition. -/
namespace Go.E
open Go Go.RowKit
section
variable {P : Program} {cx : Ctx} {n0 : Nat} {g : Gh} {h : Hp} {w : World} {mk : Nat} {e : Env} {a : Act} {o : Oper} {call : CallK} {R : Type} {y : R} {k : RV → Hp → Option R}
theorem conv_still (hT : TOk P cx.Γ) (H : HR cx g h w n0) {s d : TypeId} {x v : RV} {X : Value} {h' : Hp} (hx : VR g x X) (hns : ∀ tb, cx.Γ.ty d = some tb → ∀ e, tb.k ≠ .sl e) (hc : convV cx.Γ h s d x = some ⟨v, h'⟩) :
    ∃ V, (convert s d X).run P w = .ok V w ∧ VR g v V := by
  obtain ⟨ta, k1, hc1⟩ := bnd_inv hc
  obtain ⟨tb, k2, hc2⟩ := bnd_inv hc1
  clear hc hc1
  have hc := hc2
  clear hc2
  obtain ⟨da, a1, a2⟩ := ty_inv hT k1
  split at hc
  · rename_i k hk
    split at hc
    · rename_i k' n
      rw [ri_eq, wrapI_eq] at hc
      cases hc
      rw [hx.int_inv]
      exact ⟨_, run_conv_int a1 (ty_int hT k2 hk), (.int _ _)⟩
    · rename_i k' b
      obtain ⟨n, e1, hc⟩ := bnd_inv hc
      obtain ⟨e2, hc⟩ := ifB_none hc
      rw [ri_eq] at hc
      cases hc
      rw [hx.flt_inv]
      refine ⟨_, run_conv_fi a1 (ty_int hT k2 hk) e1 ?_, (.int _ _)⟩
      rw [ltI_eq, ltI_eq] at e2
      by_cases h1 : n < k.min
      · rw [decide_eq_true h1] at e2; cases e2
      · by_cases h2 : k.max < n
        · rw [decide_eq_false h1, decide_eq_true h2] at e2; cases e2
        · exact ⟨by omega, by omega⟩
    · cases hc
  · rename_i hk
    have u2 := ty_str hT k2 hk
    split at hc
    · rename_i l
      obtain ⟨h1, h2⟩ := ifB_none hc
      cases h2
      obtain ⟨t, rfl, e1⟩ := hx.str_inv
      have hka : ta.k = .str := by
        revert h1
        cases ta.k <;> first | (intro; rfl) | (intro h; cases h)
      exact ⟨_, run_conv_str (ty_str hT k1 hka) u2, (.str _ _ e1)⟩
    · obtain ⟨el, te, u1, u3, u4⟩ := elemK_inv hT hc
      obtain ⟨h1, h2⟩ := ifB_none u4
      cases h2
      rw [hx.nils_inv]
      refine ⟨.string .empty, ?_, (.str [] .empty rfl)⟩
      rw [run_conv_b2s u1 u2 (ty_int hT u3 (isU8_inv h1))]
      simp only [Conv.bytesToString, Sem.run_pure]
    · rename_i bl off n c tt
      obtain ⟨el, te, u1, u3, u4⟩ := elemK_inv hT hc
      obtain ⟨h1, h2⟩ := ifB_none u4
      obtain ⟨cs, h3, h4⟩ := bnd_inv h2
      obtain ⟨l, h5, h6⟩ := bnd_inv h4
      cases h6
      obtain ⟨B, o, CAP, m, rfl, _⟩ := hx.sl_inv
      obtain ⟨B', o', L, m', l1, l2, l3, l4⟩ := loadC_ok H h3
      rw [m] at m'
      cases m'
      obtain ⟨bs, e1, e2⟩ := numsS_ok h5
      have hbl : bs.length = n := by rw [← l1, e2, List.length_map]
      obtain ⟨t, t1, t2⟩ := run_b2s (P := P) (w := w) (B := B) (o := o + off) (c := CAP) (bs := bs) fun j b hj => by
        have hj2 : cs[j]? = some (.int .u8 (.ofNat b.toNat)) := by rw [e2, List.getElem?_map, hj]; rfl
        obtain ⟨V, v1, v2⟩ := l3.at hj2
        rw [l2 j V v1, v2.int_inv]
        rfl
      rw [hbl] at t1
      refine ⟨.string t, ?_, (.str _ _ (by rw [t2]; exact e1))⟩
      rw [run_conv_b2s u1 u2 (ty_int hT u3 (isU8_inv h1)), t1]
    · cases hc
  · rename_i el hk
    exact absurd hk (hns tb k2 el)
  · rename_i k hk
    split at hc
    · rename_i k' n
      rw [forceN_eq] at hc
      cases hc
      rw [hx.int_inv]
      obtain ⟨d2, b1, b2⟩ := ty_inv hT k2
      rw [hk] at b2
      cases b2
      exact ⟨_, run_conv_flt a1 b1, (.flt _ _)⟩
    · cases hc
  · rename_i hk
    split at hc
    · rename_i bl off
      split at hc
      · rename_i el hka
        obtain ⟨s, h1, h2⟩ := bnd_inv hc
        obtain ⟨h3, h4⟩ := ifB_none' h2
        obtain ⟨cs, ty, g1, g2⟩ := getR_ok h4
        obtain ⟨h5, h6⟩ := ifB_none g2
        cases h6
        obtain ⟨B, o, m, rfl⟩ := hx.ptr_inv
        obtain ⟨B', o', CS, fz, k1', k2', k3, k4, k5⟩ := H.read g1
        rw [m] at k1'
        cases k1'
        rw [nblt_eq, decide_eq_true_eq, lenL_zero] at h5
        rw [nbeq_eq, decide_eq_false_iff_not] at h3
        have u1 := ty_ptr hT k1 hka
        have u2 : P.underlying d = some .unsafePointer := by
          obtain ⟨db, b1, b2⟩ := ty_inv hT k2
          rw [hk] at b2
          cases b2
          exact b1
        refine ⟨_, ?_, hx⟩
        have hsh : w.shape? B = some (ty, CS.size) := by simp [World.shape?, k2']
        have hlt : ¬ CS.size ≤ o + off := by omega
        simp only [convert, Sem.run_bind, run_underlying u1, run_underlying u2, Result.andThen_ok, Conv.unsafePointer, Conv.seenAt, viewAt, cellsIn, run_shape, hsh, Option.isSome_some, if_true, Sem.run_pure, run_sizeT hT h1]
        rw [if_neg (by simp [h3, hlt])]
        rfl
      · cases hc
    · cases hc
  · rename_i u hk
    split at hc
    · rename_i bl off
      split at hc
      · rename_i hka
        obtain ⟨cs, ty, sz, lo, hi, anc, g1, g2⟩ := getC_ok hc
        obtain ⟨h1, g3⟩ := ifB_none g2
        obtain ⟨h2, g4⟩ := ifB_none g3
        obtain ⟨s1, h3, g5⟩ := bnd_inv g4
        obtain ⟨h4, g6⟩ := ifB_none' g5
        obtain ⟨h5, g7⟩ := ifB_none g6
        split at g7
        · cases g7
          rw [nbeq_eq, decide_eq_true_eq] at h2
          rw [nbeq_eq, decide_eq_false_iff_not] at h4
          subst h2
          obtain ⟨B, o, m, rfl⟩ := hx.ptr_inv
          obtain ⟨B', o', CS, fz, k1', k2', k3, k4, k5⟩ := H.obj bl _ g1
          rw [m] at k1'
          cases k1'
          obtain ⟨rfl, k4⟩ := k4
          have u1 : P.underlying s = some .unsafePointer := by
            obtain ⟨db, b1, b2⟩ := ty_inv hT k1
            rw [hka] at b2
            cases b2
            exact b1
          have u2 := ty_ptr hT k2 hk
          have hsh : w.shape? B = some (ty, CS.size) := by simp [World.shape?, k3]
          obtain ⟨hc1, hpos⟩ := lenOk_ok hT h5
          rw [← k4] at hc1 hpos
          have hl : liesAt P P.depth ty (CS.size / P.cellsOf ty) 0 u 1 = true := by
            rw [hc1, Nat.div_self (by omega)]
            exact seenK_ok hT h1 hc1 hpos h3 h4
          refine ⟨_, ?_, hx⟩
          simp only [convert, Sem.run_bind, run_underlying u1, run_underlying u2, Result.andThen_ok, Conv.unsafePointer, Conv.seenAt, viewAt, variablesAt, run_shape, run_program, hsh, Option.isSome_some, if_true, Sem.run_pure, run_sizeT hT h3, Nat.add_zero, hl, Option.isNone_none, Bool.and_true, decide_true, Bool.or_true]
        · cases g7
      · cases hc
    · cases hc
  · cases hc
theorem conv_does (hT : TOk P cx.Γ) (H : HR cx g h w n0) (he : ER g mk e a.tmps) {s d : TypeId} {x : Operand} (hns : ∀ tb, cx.Γ.ty d = some tb → ∀ e, tb.k ≠ .sl e) (hop : o.op = .convert s d x) (hk : oConv s d x cx mk call e h k = some y) (hh : ∀ q v h', convV cx.Γ h s d q = some ⟨v, h'⟩ → h' = h) :
    DoesP g w h y k (fun k' => oConv s d x cx mk call e h k') ((execOp a.eval o).run P w) := by
  obtain ⟨u, h1, h2⟩ := bnd_inv hk
  obtain ⟨v, h', h3, h4⟩ := outK_inv h2
  obtain rfl := hh u v h' h3
  obtain ⟨V, r1, r2⟩ := conv_still (P := P) (w := w) hT H (ev_ok H he h1) hns h3
  refine ⟨v, V, h4, fun k' => by
    unfold oConv
    rw [h1]
    exact outK_some h3 k', ?_, r2⟩
  unfold execOp
  rw [hop]
  simp only [Sem.run_bind, r1, Result.andThen_ok, Sem.run_pure]
theorem builtin_still (hT : TOk P cx.Γ) (H : HR cx g h w n0) {b : Builtin} {ts : Array TypeId} {ty : TypeId} {cst : Array Bool} {xs : List RV} {XS : Array Value} {v : RV} {h' : Hp} (hx : VRs g xs XS.toList) (hcl : b = .len ∨ b = .max ∨ b = .min ∨ b = .unsafeSliceData)
    (hb : builtinV cx.Γ h b ts.toList xs = some ⟨v, h'⟩) : h' = h ∧ ∃ V, (builtin b ts ty cst XS).run P w = .ok (.value V) w ∧ VR g v V := by
  have wrap : ∀ {s : Sem Value} {V : Value} {w' : World}, s.run P w = .ok V w' → (do pure (Next.value (← s)) : Sem Next).run P w = .ok (.value V) w' := fun hs => by simp only [Sem.run_bind, hs, Result.andThen_ok, Sem.run_pure]
  rcases hcl with rfl | rfl | rfl | rfl
  · dsimp only [builtinV] at hb
    split at hb
    · rename_i t r x r' h1
      obtain ⟨u, k1, k2⟩ := bnd_inv hb
      cases k2
      obtain ⟨X, hX, hX2⟩ := head_of hx rfl
      obtain ⟨V, r1, r2⟩ := len_ok (P := P) (ty := ty) hT H (ts_head h1) hX hX2 k1
      exact ⟨rfl, V, wrap r1, r2⟩
    · cases hb
  · dsimp only [builtinV] at hb
    split at hb
    · rename_i x r
      obtain ⟨u, k1, k2⟩ := bnd_inv hb
      cases k2
      generalize hXS : XS.toList = L at hx
      cases hx with
      | cons hX hs =>
        obtain ⟨V, r1, r2⟩ := minmaxs_ok (P := P) (w := w) hX hs k1
        refine ⟨rfl, V, wrap ?_, r2⟩
        simp only [Builtin.max_, hXS]
        exact r1
    · cases hb
  · dsimp only [builtinV] at hb
    split at hb
    · rename_i x r
      obtain ⟨u, k1, k2⟩ := bnd_inv hb
      cases k2
      generalize hXS : XS.toList = L at hx
      cases hx with
      | cons hX hs =>
        obtain ⟨V, r1, r2⟩ := minmaxs_ok (P := P) (w := w) hX hs k1
        refine ⟨rfl, V, wrap ?_, r2⟩
        simp only [Builtin.min_, hXS]
        exact r1
    · cases hb
  · dsimp only [builtinV] at hb
    split at hb
    · rename_i b off n c tt
      obtain ⟨h1, h2⟩ := ifB_none' hb
      cases h2
      obtain ⟨X, rfl, hX⟩ := one_of hx rfl
      obtain ⟨B, o, CAP, m, rfl, hc⟩ := hX.sl_inv
      rw [nbeq_eq, decide_eq_false_iff_not] at h1
      have hne : CAP ≠ 0 := by rw [hc]; cases tt <;> simp <;> omega
      refine ⟨rfl, .pointer (some ⟨B, o + off, none⟩), wrap ?_, (.ptr _ m)⟩
      have hdef : Builtin.unsafeSliceData_ ts ty #[.slice (some ⟨B, o + off, none⟩) n CAP] = (if CAP ≠ 0 then pure (.pointer (some ⟨B, o + off, none⟩)) else do
        if (← viewAt B).isSome then pure (.pointer (some ⟨B, o + off, none⟩)) else pure (.pointer (some ⟨← newObj (.view ⟨B, o + off, none⟩ (← elemOf ty)), 0, none⟩))) := rfl
      rw [hdef, if_pos hne, Sem.run_pure]
    · cases hb
      obtain ⟨X, rfl, hX⟩ := one_of hx rfl
      rw [hX.nils_inv]
      exact ⟨rfl, .pointer none, wrap rfl, .nilp⟩
    · cases hb
/-- An operation of a class that leaves memory as it is. -/
theorem still_ok (hT : TOk P cx.Γ) (hQ : qAll P cx.Γ = true) (H : HR cx g h w n0) (he : ER g mk e a.tmps) (hd : DR g h.df a.defers) (hc : clsOf cx.Γ o.op = .pure ∨ clsOf cx.Γ o.op = .reads) (hk : stepO o.op cx mk call e h k = some y) :
    DoesP g w h y k (fun k' => stepO o.op cx mk call e h k') ((execOp a.eval o).run P w) := by
  cases hop : o.op <;> rw [hop] at hc hk <;> first
    | (rcases hc with hc | hc <;> cases hc; done)
    | (exact move_ok (call := call) H he hd (.inl hop) hk)
    | (exact move_ok (call := call) H he hd (.inr hop) hk)
    | (exact pick_ok (call := call) H he hd hop hk)
    | (exact build_does (call := call) hT H he hd hop hk)
    | (exact load_ok (call := call) hT H he hd hop hk)
    | (exact nilCheck_ok (call := call) H he hd hop hk)
    | (exact bin_does (call := call) hT (q_ok hT hQ) H he hd hop hk)
    | (exact un_does (call := call) H he hd hop hk)
    | (exact iface_ok (call := call) hT H he hd hop hk)
    | (exact func_ok (call := call) H he hd hop hk)
    | (exact slice_does (call := call) hT H he hd hop hk)
    | (exact fieldAddr_does (call := call) hT H he hd hop hk)
    | (exact field_does (call := call) hT H he hd hop hk)
    | (exact indexAddr_does (call := call) hT H he hd hop hk)
    | (exact index_does (call := call) hT H he hd hop hk)
    | (exact lookup_does (call := call) hT hQ H he hd hop hk)
    | (exact entry_does (call := call) H he hd hop hk)
    | (exact extract_ok (call := call) H he hd hop hk)
    | skip
  case convert s d x =>
    have hns : ∀ tb, cx.Γ.ty d = some tb → ∀ e, tb.k ≠ .sl e := by
      intro tb h1 el h2
      rcases hc with hc | hc <;> (simp only [clsOf, h1, h2] at hc; cases hc)
    exact conv_does (call := call) hT H he hns hop hk fun q v h' hq => (conv_mono (.refl h) hns hq).1
  case call c =>
    obtain ⟨cl, xs, ts⟩ := c
    cases cl with
    | value f => rcases hc with hc | hc <;> cases hc
    | invoke r m => rcases hc with hc | hc <;> cases hc
    | builtin b =>
      have hb : b = .len ∨ b = .max ∨ b = .min ∨ b = .unsafeSliceData := by
        cases b <;> first
          | (rcases hc with hc | hc <;> cases hc; done)
          | simp
      obtain ⟨u, h1, h2⟩ := bnd_inv (show bnd (evs cx mk xs.toList e) (fun xs => outK (builtinV cx.Γ h b ts.toList xs) k) = some y from hk)
      obtain ⟨v, h', h3, h4⟩ := outK_inv h2
      obtain ⟨rfl, V, r1, r2⟩ := builtin_still (P := P) (w := w) (ty := o.type) (cst := xs.map fun | .const _ => true | _ => false) hT H (evsA_ok H he h1) hb h3
      refine ⟨v, V, h4, fun k' => by
        show bnd (evs cx mk xs.toList e) (fun xs => outK (builtinV cx.Γ h' b ts.toList xs) k') = _
        rw [h1]
        exact outK_some h3 k', ?_, r2⟩
      unfold execOp
      rw [hop]
      simp only [Sem.run_bind, resolve, Sem.run_pure, Result.andThen_ok, invoke]
      exact r1
end
end Go.E
end

section
/- E: new blocks, at any place. No condition. -/
namespace Go.E
open Go Go.RowKit

/-- As alloc, at a place that is free. -/
theorem HR.alloc_at {cx : Ctx} {g : Gh} {h h' : Hp} {w : World} {n0 : Nat} (H : HR cx g h w n0) {o : RO} {O : Obj} {x : Nat} {q : Ps} (hq : g.μ q = none) (hget : ∀ r, h'.get r = if r = q then some o else h.get r) (hn1 : q.num < h'.n.num) (hn2 : h.n.num ≤ h'.n.num)
    (ho : OR cx (g.add q w.heap.size 0 x) (w.alloc O) n0 q o) : HR cx (g.add q w.heap.size 0 x) h' (w.alloc O) n0 ∧ Ext n0 g w (g.add q w.heap.size 0 x) (w.alloc O) := by
  have hle : g.Le (g.add q w.heap.size 0 x) := Gh.add_le hq
  have hb0 : blk (g.add q w.heap.size 0 x) q = some w.heap.size := by simp [blk, Gh.add]
  have hbo : ∀ b, b ≠ q → blk (g.add q w.heap.size 0 x) b = blk g b := fun b hb => by simp [blk, Gh.add, hb]
  have hlt : ∀ b B, blk g b = some B → B < w.heap.size := fun b _ hb => by
    unfold blk at hb
    cases hm : g.μ b with
    | none => rw [hm] at hb; cases hb
    | some p => rw [hm] at hb; cases hb; exact H.lt b p.1 p.2 hm
  refine ⟨⟨fun b o' hb => ?_, fun b b' o1 o2 h1 h2 l1 l2 hne => ?_, fun b b' o1 cs ty h1 l1 h2 he => ?_, fun b B k hb => ?_, fun b p hb => ?_, fun i b hb => hle.μ _ _ (H.glb i b hb), H.base.alloc hle.o O⟩, ⟨hle, by simp, fun b B k hb => ?_, fun B hB _ => Below.heap_alloc w O B hB, rfl, rfl, rfl⟩⟩
  · rw [hget] at hb
    by_cases hbq : b = q
    · rw [if_pos hbq] at hb; cases hb; rw [hbq]; exact ho
    · rw [if_neg hbq] at hb
      exact (H.obj b o' hb).keep hle fun B hB => Below.heap_alloc w O B (hlt b B hB)
  · rw [hget] at h1 h2
    by_cases hbq : b = q
    · by_cases hbq' : b' = q
      · exact absurd (hbq.trans hbq'.symm) hne
      · rw [if_neg hbq'] at h2
        rw [hbq, hb0, hbo b' hbq']
        intro he
        exact absurd (hlt b' _ he.symm) (Nat.lt_irrefl _)
    · rw [if_neg hbq] at h1
      by_cases hbq' : b' = q
      · rw [hbq', hb0, hbo b hbq]
        intro he
        exact absurd (hlt b _ he) (Nat.lt_irrefl _)
      · rw [if_neg hbq'] at h2
        rw [hbo b hbq, hbo b' hbq']
        exact H.sep b b' o1 o2 h1 h2 l1 l2 hne
  · rw [hget] at h1 h2
    by_cases hbq' : b' = q
    · rw [if_pos hbq'] at h2
      cases h2
      by_cases hbq : b = q
      · rw [if_pos hbq] at h1; cases h1; cases l1
      · rw [hbq', hb0, hbo b hbq] at he
        exact absurd (hlt b _ he) (Nat.lt_irrefl _)
    · rw [if_neg hbq'] at h2
      by_cases hbq : b = q
      · rw [hbq, hb0, hbo b' hbq'] at he
        exact absurd (hlt b' _ he.symm) (Nat.lt_irrefl _)
      · rw [if_neg hbq] at h1
        rw [hbo b hbq, hbo b' hbq'] at he
        exact H.old b b' o1 cs ty h1 l1 h2 he
  · simp only [World.size_alloc]
    by_cases hbq : b = q
    · simp [Gh.add, hbq] at hb; omega
    · simp [Gh.add, hbq] at hb
      have := H.lt b B k hb; omega
  · by_cases hbq : b = q
    · rw [hbq]; exact hn1
    · simp [Gh.add, hbq] at hb
      have := H.dom b p hb; omega
  · by_cases hbq : b = q
    · simp [Gh.add, hbq] at hb; right; omega
    · simp [Gh.add, hbq] at hb
      exact .inl ⟨b, k, hb⟩

/-- A new block, and what tells where it is. -/
structure News (P : Program) (cx : Ctx) (n0 : Nat) (g : Gh) (ob : RO) (val : Ps → RV) (O : Obj) (VAL : Nat → Value) (s : ∀ {R : Type}, Hp → (RV → Hp → Option R) → Option R) (r : World → Result Next) : Prop where
  step : ∀ {R : Type} (h : Hp) (k : RV → Hp → Option R), s h k = h.new ob fun b h => k (val b) h
  run : ∀ w, r w = .ok (.value (VAL w.heap.size)) (w.alloc O)
  val : ∀ (g' : Gh) (q : Ps) (B : Nat), g.Le g' → g'.μ q = some (B, 0) → (g'.x q = 0) → VR g' (val q) (VAL B)
  obj : ∀ (g' : Gh) (q : Ps) (B : Nat) (w : World), g.Le g' → g'.μ q = some (B, 0) → g'.x q = 0 → w.heap[B]? = some O → n0 ≤ B → OR cx g' w n0 q ob
  live : ob.live = true
  anc : ob.anc = []
section
variable {P : Program} {cx : Ctx} {n0 : Nat} {g : Gh} {h : Hp} {w : World} {mk : Nat} {e : Env} {a : Act} {F : Fence} {o : Oper} {call : CallK} {R : Type} {y : R} {k : RV → Hp → Option R}
theorem news_cells {cs : List RV} {CS : Array Value} {t : TypeId} (hcs : VRs g cs CS.toList) (h1 : ∀ v ∈ cs, v.one = true) {g' : Gh} {q : Ps} {B : Nat} {w : World} (hg : g.Le g') (hμ : g'.μ q = some (B, 0)) (hw : w.heap[B]? = some (.cells CS t)) (hB : n0 ≤ B) :
    OR cx g' w n0 q (.cells cs t none 0 0 []) :=
  ⟨B, 0, CS, (0, 0), hμ, hB, hw, ⟨rfl, by rw [← Array.length_toList, hcs.length]⟩, by
    rw [List.drop_zero, List.take_of_length_le (by rw [hcs.length]; exact Nat.le_refl _)]; exact hcs.mono hg, h1, Fz.zero _ _ _ _ _⟩
theorem alloc_news (hT : TOk P cx.Γ) {t : TypeId} (hop : o.op = .alloc t) (hk : oAlloc t cx mk call e h k = some y) :
    ∃ ob val O VAL, News P cx n0 g ob val O VAL (fun h k => oAlloc t cx mk call e h k) fun w => (execOp a.eval o).run P w := by
  obtain ⟨z, h1, h2⟩ := bnd_inv hk
  obtain ⟨i, Z, ty, z1, z2, z3, z4, _⟩ := zero_ok (P := P) (g := g) hT h1
  refine ⟨.cells z t none 0 0 [], fun b => .ptr b 0, .cells Z.cells t, fun B => .pointer (some ⟨B, 0, none⟩), ⟨fun h k => ?_, fun w => ?_, fun g' q B hg hμ _ => ?_, fun g' q B w hg hμ _ hw hB => news_cells z3 z4 hg hμ hw hB, rfl, rfl⟩⟩
  · show oAlloc t cx mk call e h k = _
    unfold oAlloc
    rw [h1]
    show outK (newO h z t) k = _
    unfold outK newO
    obtain ⟨h', n1, _⟩ := Hp.new_eq h (.cells z t none 0 0 [])
    rw [n1, n1]
  · show (execOp a.eval o).run P w = _
    unfold execOp
    rw [hop]
    simp only [Instr.alloc, newVar, newRow, Sem.run_bind, run_zero z1 z2, Result.andThen_ok, run_newObj_alloc, Sem.run_pure]
  · exact VR.ptr (o := 0) 0 hμ
theorem new_eta (h : Hp) (ob : RO) {β : Type} (k : Ps → Hp → Option β) (val : Ps → RV) (c : RV → Hp → Option β) (hc : ∀ b h, k b h = c (val b) h) : h.new ob k = h.new ob fun b h => c (val b) h := by
  have : k = fun b h => c (val b) h := by funext b h; exact hc b h
  rw [this]
theorem box_news (H : HR cx g h w n0) (he : ER g mk e a.tmps) {t : TypeId} {x : Operand} (hop : o.op = .box t x) (hk : oBox t x cx mk call e h k = some y) :
    ∃ ob val O VAL, News P cx n0 g ob val O VAL (fun h k => oBox t x cx mk call e h k) fun w => (execOp a.eval o).run P w := by
  obtain ⟨v, h1, h2⟩ := bnd_inv hk
  obtain ⟨l, h3, h4⟩ := bnd_inv h2
  obtain ⟨c1, c2⟩ := cells_ok (ev_ok H he h1) h3
  refine ⟨.cells l t none 0 0 [], fun b => .ptr b 0, .cells (a.eval x).cells t, fun B => .pointer (some ⟨B, 0, none⟩), ⟨fun h k => ?_, fun w => ?_, fun g' q B hg hμ _ => ?_, fun g' q B w hg hμ _ hw hB => news_cells c1 c2 hg hμ hw hB, rfl, rfl⟩⟩
  · show oBox t x cx mk call e h k = _
    unfold oBox
    rw [h1]
    show bnd (cellsOf v) _ = _
    rw [h3]
    show outK (newO h l t) k = _
    unfold outK newO
    obtain ⟨h', n1, _⟩ := Hp.new_eq h (.cells l t none 0 0 [])
    rw [n1, n1]
  · show (execOp a.eval o).run P w = _
    unfold execOp
    rw [hop]
    simp only [Instr.box, newVar, newRow, Sem.run_bind, Result.andThen_ok, run_newObj_alloc, Sem.run_pure]
  · exact VR.ptr (o := 0) 0 hμ
theorem map_news {t : TypeId} {r : Option Operand} (hop : o.op = .makeMap t r) (hk : oMap t r cx mk call e h k = some y) :
    ∃ ob val O VAL, News P cx n0 g ob val O VAL (fun h k => oMap t r cx mk call e h k) fun w => (execOp a.eval o).run P w := by
  cases r with
  | some x => cases hk
  | none =>
    refine ⟨.map [] 0, fun b => .map b, .map #[] 0, fun B => .map (some B), ⟨fun h k => rfl, fun w => ?_, fun g' q B hg hμ _ => .map hμ, fun g' q B w hg hμ _ hw hB => ⟨B, #[], hμ, hB, hw, .nil⟩, rfl, rfl⟩⟩
    show (execOp a.eval o).run P w = _
    unfold execOp
    rw [hop]
    simp only [Instr.makeMap, Option.map_none, Sem.run_bind, Sem.run_pure, Result.andThen_ok, run_newObj_alloc]
theorem buildSlice_news (hT : TOk P cx.Γ) (H : HR cx g h w n0) (he : ER g mk e a.tmps) {t : TypeId} {n : Nat} {ps : Array (Nat × Operand)} (hop : o.op = .buildSlice t n ps) (hk : oBuildSlice t n ps cx mk call e h k = some y) :
    ∃ ob val O VAL, News P cx n0 g ob val O VAL (fun h k => oBuildSlice t n ps cx mk call e h k) fun w => (execOp a.eval o).run P w := by
  -- what is drawn up, and where
  have key : ∀ {R' : Type} (h : Hp) (k' : RV → Hp → Option R'), oBuildSlice t n ps cx mk call e h k' = bnd (bnd (evParts cx mk e ps.toList) fun ps => elemK cx.Γ t fun el te => bnd (zeroC cx.Γ el) fun z => bnd (repL z n) fun z => bnd (fillC (fun i => some (Nat.mul i te.size, te.size)) ps z) fun cs =>
      ifB (Nat.ble (lenL cs 0) 16777216) (some (cs, el)) none) fun q => h.new (.cells q.1 q.2 none 0 0 []) fun b h => k' (.sl b 0 n n true) h := by
    intro R' h k'
    unfold oBuildSlice
    rw [bnd_assoc]
    congr 1
    funext ps
    rw [← elemK_bnd]
    congr 1
    funext el te
    rw [bnd_assoc]
    congr 1
    funext z
    rw [bnd_assoc]
    congr 1
    funext z
    rw [bnd_assoc]
    congr 1
    funext cs
    rw [ifB_bnd]
  rw [key] at hk
  obtain ⟨q, hq, hk2⟩ := bnd_inv hk
  obtain ⟨ps', h1, h2⟩ := bnd_inv hq
  obtain ⟨el, te, u1, u2, h3⟩ := elemK_inv hT h2
  obtain ⟨z, h4, h5⟩ := bnd_inv h3
  obtain ⟨zs, h6, h7⟩ := bnd_inv h5
  obtain ⟨cs, h8, h9⟩ := bnd_inv h7
  obtain ⟨h10, h11⟩ := ifB_none h9
  cases h11
  rw [repL_eq] at h6
  cases h6
  obtain ⟨i, Z, ty, z1, z2, z3, z4, z5, z6, z7, _⟩ := zero_ok (P := P) (g := g) hT h4
  rw [u2] at z5
  cases z5
  have hZ : Z.cells.size = te.size := by rw [← Array.length_toList, z3.length, z6]
  obtain ⟨CS, f1, f2, f3, f4⟩ := fill_ok (place' := fun i => some (i * te.size, te.size)) (fun i p hp => hp) (evParts_ok H he h1) (CS := (List.replicate n Z.cells.toList).flatten.toArray) (VRs.flatten z3 n) (flat_one z4 n) h8
  rw [nble_eq, decide_eq_true_eq, lenL_zero, f4, flat_len, z6] at h10
  have hr : ∀ w, (execOp a.eval o).run P w = .ok (.value (.slice (some ⟨w.heap.size, 0, none⟩) n n)) (w.alloc (.cells CS el)) := fun w => by
    unfold execOp
    rw [hop]
    simp only [Instr.buildSlice, Sem.run_bind, run_underlying u1, run_size hT u2, Result.andThen_ok]
    rw [if_neg (by omega)]
    by_cases h0' : n * te.size = 0
    · have he' : (List.replicate n Z.cells.toList).flatten.toArray = #[] := by
        apply Array.eq_empty_of_size_eq_zero
        rw [List.size_toArray, flat_len, Array.length_toList, hZ, h0']
      rw [he'] at f1
      rw [if_pos h0']
      have hmap : ((Array.range (n * te.size)).map fun x => (#[] : Array Value)[x % (#[] : Array Value).size]!) = #[] := by rw [h0']; simp
      simp only [Sem.run_pure, Result.andThen_ok, hmap, Array.toList_map, f1, newRow, Sem.run_bind, run_newObj_alloc]
    · rw [if_neg h0']
      have hmap := range_flat Z.cells n
      rw [hZ] at hmap
      simp only [Sem.run_pure, Sem.run_bind, run_zero z1 z2, Result.andThen_ok, hZ, hmap, Array.toList_map, f1, newRow, run_newObj_alloc]
  exact ⟨.cells cs el none 0 0 [], fun b => .sl b 0 n n true, .cells CS el, fun B => .slice (some ⟨B, 0, none⟩) n n, ⟨fun h k => by
    refine (key h k).trans ?_
    rw [hq], hr, fun g' q B hg hμ _ => VR.sl (o := 0) 0 n n true n hμ rfl, fun g' q B w hg hμ _ hw hB => news_cells f2 f3 hg hμ hw hB, rfl, rfl⟩⟩
theorem makeSlice_news (hT : TOk P cx.Γ) (H : HR cx g h w n0) (he : ER g mk e a.tmps) {t : TypeId} {x z : Operand} (hop : o.op = .makeSlice t x z) (hk : oMakeSlice t x z cx mk call e h k = some y) :
    ∃ ob val O VAL, News P cx n0 g ob val O VAL (fun h k => oMakeSlice t x z cx mk call e h k) fun w => (execOp a.eval o).run P w := by
  unfold oMakeSlice at hk
  obtain ⟨u, h1, h2⟩ := bnd_inv hk
  obtain ⟨u', h3, h4⟩ := bnd_inv h2
  split at h4
  · rename_i kl l
    split at h4
    · rename_i kc c
      have key : ∀ {R' : Type} (h : Hp) (k' : RV → Hp → Option R'), oMakeSlice t x z cx mk call e h k' = bnd (elemK cx.Γ t fun el te => ifB (Nat.ble l c) (ifB (Nat.ble c 1000000) (ifB (Nat.ble te.bytes 100000) (bnd (zeroC cx.Γ el) fun z => bnd (repL z c) fun cs => some (cs, el)) none) none) none)
          fun q => h.new (.cells q.1 q.2 none 0 0 []) fun b h => k' (.sl b 0 l c true) h := by
        intro R' h k'
        unfold oMakeSlice
        rw [h1, h3]
        show elemK cx.Γ t _ = _
        rw [← elemK_bnd]
        congr 1
        funext el te
        rw [ifB_bnd, ifB_bnd, ifB_bnd, bnd_assoc]
        congr 3
        congr 1
        funext z
        rw [bnd_assoc]
      rw [show (elemK cx.Γ t fun el te => ifB (Nat.ble l c) (ifB (Nat.ble c 1000000) (ifB (Nat.ble te.bytes 100000) (bnd (zeroC cx.Γ el) fun z => bnd (repL z c) fun cs =>
        h.new (.cells cs el none 0 0 []) fun b h => k (.sl b 0 l c true) h) none) none) none) = oMakeSlice t x z cx mk call e h k by unfold oMakeSlice; rw [h1, h3], key] at h4
      obtain ⟨q, hq, hk2⟩ := bnd_inv h4
      obtain ⟨el, te, u1, u2, h5⟩ := elemK_inv hT hq
      obtain ⟨c1, h5⟩ := ifB_none h5
      obtain ⟨c2, h5⟩ := ifB_none h5
      obtain ⟨c3, h5⟩ := ifB_none h5
      obtain ⟨zz, h6, h7⟩ := bnd_inv h5
      rw [repL_eq] at h7
      cases h7
      rw [nble_eq, decide_eq_true_eq] at c1 c2 c3
      obtain ⟨i, Z, ty, z1, z2, z3, z4, z5, z6, z7, z8, _⟩ := zero_ok (P := P) (g := g) hT h6
      rw [u2] at z5
      cases z5
      have hZ : Z.cells.size = te.size := by rw [← Array.length_toList, z3.length, z6]
      have hx := (ev_ok H he h1).int_inv
      have hz := (ev_ok H he h3).int_inv
      have w1 : IntKind.i64.wrap (Int.ofNat l) = Int.ofNat l := wrap_small (by show _ < 9223372036854775808; omega)
      have w2 : IntKind.i64.wrap (Int.ofNat c) = Int.ofNat c := wrap_small (by show _ < 9223372036854775808; omega)
      have hprod : (i.bytes : Int) * Int.ofNat c ≤ 100000 * 1000000 := by
        rw [z8]
        have hm := Nat.mul_le_mul c3 c2
        show (te.bytes : Int) * (c : Int) ≤ _
        rw [← Int.natCast_mul]
        omega
      have hr : ∀ w, (execOp a.eval o).run P w = .ok (.value (.slice (some ⟨w.heap.size, 0, none⟩) l c)) (w.alloc (.cells (List.replicate c Z.cells.toList).flatten.toArray el)) := fun w => by
        unfold execOp
        rw [hop]
        simp only [Instr.makeSlice, Sem.run_bind, run_underlying u1, Result.andThen_ok, hx, hz, Go.asInt, asIntOf, Sem.run_pure, run_typeInfo z1, w1, w2]
        rw [if_neg (by
          simp only [Bool.or_eq_true, decide_eq_true_eq, not_or]
          refine ⟨⟨⟨?_, ?_⟩, ?_⟩, ?_⟩
          · simp
          · omega
          · simp
          · simp only [Int.ofNat_eq_natCast]; omega)]
        simp only [Sem.run_bind, run_askRoom, run_size hT u2, Result.andThen_ok, Int.ofNat_eq_natCast, Int.toNat_natCast]
        by_cases h0' : c * te.size = 0
        · rw [if_pos h0']
          have he' : (List.replicate c Z.cells.toList).flatten.toArray = #[] := by
            apply Array.eq_empty_of_size_eq_zero
            rw [List.size_toArray, flat_len, Array.length_toList, hZ, h0']
          have hmap : ((Array.range (c * te.size)).map fun x => (#[] : Array Value)[x % (#[] : Array Value).size]!) = #[] := by rw [h0']; simp
          simp only [Sem.run_pure, Result.andThen_ok, hmap, newRow, Sem.run_bind, run_newObj_alloc, he']
        · rw [if_neg h0']
          have hmap := range_flat Z.cells c
          rw [hZ] at hmap
          simp only [Sem.run_pure, Sem.run_bind, run_zero z1 z2, Result.andThen_ok, hZ, hmap, newRow, run_newObj_alloc]
      exact ⟨.cells _ el none 0 0 [], fun b => .sl b 0 l c true, .cells (List.replicate c Z.cells.toList).flatten.toArray el, fun B => .slice (some ⟨B, 0, none⟩) l c, ⟨fun h k => by
        refine (key h k).trans ?_
        rw [hq], hr, fun g' q B hg hμ _ => VR.sl (o := 0) 0 l c true c hμ rfl, fun g' q B w hg hμ _ hw hB => news_cells (VRs.flatten z3 c) (flat_one z4 c) hg hμ hw hB, rfl, rfl⟩⟩
    · cases h4
  · cases h4

end
end Go.E
end

section
/- E: one operation of a region. No condition. -/
namespace Go.E
open Go Go.RowKit

/-- A fence that fences nothing. -/
structure WideF (F : Fence) : Prop where
  fn : ∀ f, F.fn f
  depth : F.depth = none
  alive : F.alive = false
theorem wideF : WideF Fence.wide := ⟨fun _ => trivial, rfl, rfl⟩
theorem WideF.inRound {F : Fence} (h : WideF F) (l : Nat) : WideF (F.inRound l) := ⟨h.fn, h.depth, h.alive⟩
theorem WideF.eq {F : Fence} (h : WideF F) : F.plain = Fence.wide := by
  obtain ⟨fn, depth, alive, round⟩ := F
  obtain ⟨h1, h2, h3⟩ := h
  have h1 : fn = fun _ => True := funext fun f => propext ⟨fun _ => trivial, fun _ => h1 f⟩
  have h2 : depth = none := h2
  have h3 : alive = false := h3
  subst h1 h2 h3
  rfl
theorem WideF.room {F : Fence} (h : WideF F) (n : Nat) : F.room n := fun d hd => by rw [h.depth] at hd; cases hd
section
variable {P : Program} {cx : Ctx} {n0 : Nat} {g : Gh} {h : Hp} {w : World} {mk : Nat} {e : Env} {a : Act} {F : Fence} {o : Oper} {call : CallK} {R : Type} {y : R} {k : RV → Hp → Option R}

/-- A result of the machine's, and what comes behind it. -/
theorem Goes.upon {K : Act → World → Prop} {Q : Exit → Act → World → Prop} {R : Value → List Deferred → World → Prop} {r : Result Next} (hF : WideF F) (h : Goes F P a.defers R r)
    (hK : ∀ V ds w', R V ds w' → K (({ a with defers := ds } : Act).put o.dst V) w') : o.uponIn F 0 P a K Q r := by
  cases r with
  | halt x w => cases h
  | ok x w' =>
    cases x <;> first
      | exact hK _ _ _ h
      | (refine ⟨fun hs => (by rw [hF.depth] at hs; cases hs), ?_⟩
         refine CallsIn.mono h fun en w'' ⟨V, h1, h2⟩ => ?_
         subst h1
         exact hK _ _ _ h2)
      | (refine ⟨fun hs => (by rw [hF.depth] at hs; cases hs), ?_⟩
         refine RoundIn.mono h fun en w'' ⟨V, h1, h2⟩ => ?_
         subst h1
         exact hK _ _ _ h2)
      | cases h
theorem Does.wp {K : Act → World → Prop} {Q : Exit → Act → World → Prop} {s : ∀ {R' : Type}, (RV → Hp → Option R') → Option R'} (hF : WideF F) (hdf : (∀ c, o.op ≠ .defer c) ∨ F.round = none)
    (h : Does F P cx n0 g w a.defers y k s ((execOp a.eval o).run P w))
    (hK : ∀ v h' V ds w', k v h' = some y → (∀ {R' : Type} (k' : RV → Hp → Option R'), s k' = k' v h') → Post cx n0 g w h' v V ds w' → K (({ a with defers := ds } : Act).put o.dst V) w') : o.wpIn F 0 P a w K Q := by
  obtain ⟨v, h', h1, h2, h3⟩ := h
  refine ⟨fun f _ => hF.fn f, ?_⟩
  have hs : o.semAt F.round a.eval = execOp a.eval o := by
    rcases hdf with hdf | hdf
    · exact Oper.semAt_eq _ _ _ hdf
    · rw [hdf]; exact Oper.semAt_none _ _
  rw [hs]
  exact Goes.upon hF h3 fun V ds w' hp => hK v h' V ds w' h1 h2 hp
theorem put_size (a : Act) (d : Option Tmp) (V : Value) : (a.put d V).tmps.size = a.tmps.size := by
  cases d <;> simp [Act.put]
theorem put_defers (a : Act) (d : Option Tmp) (V : Value) : (a.put d V).defers = a.defers := by cases d <;> rfl
/-- What is put into a temporary. -/
theorem ER.put {tmps : Array Value} {e' : Env} {d : Option Tmp} {v : RV} {V : Value} {ds : List Deferred} (he : ER g mk e tmps) (hv : VR g v V) (hp : putD mk d v e = some e') (hd : ∀ i, d = some i → i < tmps.size) :
    ER g mk e' ((({ tmps, defers := ds } : Act).put d V).tmps) := by
  intro i u hu
  rw [putD_ok hp] at hu
  cases d with
  | none =>
    rw [if_neg (by simp)] at hu
    exact he i u hu
  | some j =>
    have hj := hd j rfl
    show ∃ V', (tmps.setIfInBounds j V)[i]? = some V' ∧ VR g u V'
    rw [Array.getElem?_setIfInBounds]
    by_cases hij : j = i
    · subst hij
      rw [if_pos rfl] at hu
      cases hu
      exact ⟨V, by simp [hj], hv⟩
    · rw [if_neg (fun e => hij (by cases e; rfl))] at hu
      rw [if_neg hij]
      exact he i u hu
/-- The state after so much code. -/
structure St (cx : Ctx) (n0 : Nat) (mk n : Nat) (g : Gh) (e : Env) (h : Hp) (a : Act) (w : World) : Prop where
  hr : HR cx g h w n0
  le : n0 ≤ w.heap.size
  er : ER g mk e a.tmps
  dr : DR g h.df a.defers
  sz : n ≤ a.tmps.size
theorem St.next {n : Nat} {e' : Env} {h' : Hp} {d : Option Tmp} {v : RV} {V : Value} {ds : List Deferred} {w' : World} (S : St cx n0 mk n g e h a w) (hp : Post cx n0 g w h' v V ds w') (hput : putD mk d v e = some e') (hd : ∀ i, d = some i → i < n) :
    ∃ g', Ext n0 g w g' w' ∧ St cx n0 mk n g' e' h' (({ a with defers := ds } : Act).put d V) w' := by
  obtain ⟨g', x1, x2, x3, x4⟩ := hp
  refine ⟨g', x1, x2, Nat.le_trans S.le x1.size, ER.put (S.er.mono x1.le) x3 hput fun i hi => Nat.lt_of_lt_of_le (hd i hi) S.sz, by rw [put_defers]; exact x4, by rw [put_size]; exact S.sz⟩
theorem St.skip {n : Nat} {e' : Env} {d : Option Tmp} (S : St cx n0 mk n g e h a w) (hput : putD mk d undefV e = some e') (hd : ∀ i, d = some i → i < n) : St cx n0 mk n g e' h (a.put d undef) w :=
  ⟨S.hr, S.le, ER.put (ds := a.defers) S.er VR.undef hput fun i hi => Nat.lt_of_lt_of_le (hd i hi) S.sz, by rw [put_defers]; exact S.dr, by rw [put_size]; exact S.sz⟩
end
end Go.E
end

section
/- E: regions in the order of their text. No condition. -/
namespace Go.E
open Go Go.RowKit

section
variable {P : Program} {cx : Ctx} {n0 : Nat} {g : Gh} {h : Hp} {w : World} {mk : Nat} {e : Env} {a : Act} {F : Fence} {call : CallK}

/-- Every operation of the evaluator's does what the machine does. -/
def AllDo (P : Program) (cx : Ctx) (n0 : Nat) (F : Fence) (call : CallK) : Prop := ∀ (o : Oper) (mk : Nat) (g : Gh) (h : Hp) (w : World) (e : Env) (a : Act) (R : Type) (y : R) (k : RV → Hp → Option R),
  HR cx g h w n0 → n0 ≤ w.heap.size → ER g mk e a.tmps → DR g h.df a.defers → stepO o.op cx mk call e h k = some y → Does F P cx n0 g w a.defers y k (fun k' => stepO o.op cx mk call e h k') ((execOp a.eval o).run P w)
theorem guard_ok {ops : Array Oper} {j : Nat} {q : Option Bool} (he : ER g mk e a.tmps) (h : guardB mk ops.toList e j = some q) : yielded ops a.tmps j = q := by
  obtain ⟨o, h1, h2⟩ := bnd_inv h
  obtain ⟨d, h3, h4⟩ := bnd_inv h2
  obtain ⟨v, h5, h6⟩ := bnd_inv h4
  obtain ⟨V, h7, h8⟩ := he d v h5
  rw [at_eq, Array.getElem?_toList] at h1
  unfold yielded
  rw [h1]
  simp only [Option.bind_some, h3, h7]
  split at h6
  · cases h6; rw [h8.bool_inv]
  · cases h6
    obtain ⟨cs, rfl, _⟩ := h8.tup_inv
    rfl
  · cases h6
theorem runOps_ok {n : Nat} {ops : Array Oper} {Q : Exit → Act → World → Prop} {f : Fin} (hA : AllDo P cx n0 F call) (hF : WideF F) (hdf : (∀ o ∈ ops.toList, ∀ c, o.op ≠ .defer c) ∨ F.round = none) :
    ∀ (rest : List Oper) (e : Env) (g : Gh) (h : Hp) (a : Act) (w : World), (∀ o ∈ rest, o ∈ ops.toList) → dstsOk n rest → St cx n0 mk n g e h a w → runOps cx mk call ops.toList rest e h = some f →
      (∀ g' a' w', Ext n0 g w g' w' → St cx n0 mk n g' f.env f.h a' w' → f.e = .normal → Q .normal a' w') → wpListIn F 0 P ops Q rest a w
  | [], e, g, h, a, w, _, _, S, hr, hQ => by
    cases hr
    exact hQ g a w (.refl n0 g w) ⟨S.hr, S.le, fun i v hv => S.er i v (Env.over_ok hv), S.dr, S.sz⟩ rfl
  | o :: rest, e, g, h, a, w, hin, hd, S, hr, hQ => by
    have ih := runOps_ok (n := n) (Q := Q) (f := f) hA hF hdf rest
    have hin' : ∀ o ∈ rest, o ∈ ops.toList := fun o ho => hin o (List.mem_cons_of_mem _ ho)
    have hd' : dstsOk n rest := fun o ho => hd o (List.mem_cons_of_mem _ ho)
    have hdo := hd o List.mem_cons_self
    have hdf' : (∀ c, o.op ≠ .defer c) ∨ F.round = none := hdf.imp_left fun hx => hx o (hin o List.mem_cons_self)
    have step : stepTo cx mk call o.op o.dst (runOps cx mk call ops.toList rest) e h = some f → o.wpIn F 0 P a w (wpListIn F 0 P ops Q rest) Q := fun hs => by
      refine Does.wp hF hdf' (hA o mk g h w e a Fin f _ S.hr S.le S.er S.dr hs) fun v h' V ds w' h1 _ hp => ?_
      obtain ⟨e', h2, h3⟩ := bnd_inv h1
      obtain ⟨g', x1, S'⟩ := S.next hp h2 hdo
      exact ih e' g' h' _ w' hin' hd' S' h3 fun g'' a'' w'' x2 S'' hx => hQ g'' a'' w'' (x1.trans x2) S'' hx
    have skip : skipTo mk o.dst (runOps cx mk call ops.toList rest) e h = some f → wpListIn F 0 P ops Q rest (a.put o.dst undef) w := fun hs => by
      obtain ⟨e', h2, h3⟩ := bnd_inv hs
      exact ih e' g h _ w hin' hd' (S.skip h2 hdo) h3 hQ
    have hr : (Option.rec (stepTo cx mk call o.op o.dst (runOps cx mk call ops.toList rest)) (fun g => Prod.rec (fun j w => guarded cx mk call ops.toList o.op o.dst (runOps cx mk call ops.toList rest) j w) g) o.guard : RunK) e h = some f := hr
    unfold wpListIn
    cases hg : o.guard with
    | none =>
      rw [hg] at hr
      have hw : Region.wanted o (yielded ops a.tmps) = true := by unfold Region.wanted; rw [hg]
      rw [if_pos hw]
      exact step hr
    | some gw =>
      obtain ⟨j, want⟩ := gw
      rw [hg] at hr
      obtain ⟨q, h1, h2⟩ := bnd_inv (show bnd (guardB mk ops.toList e j) _ = some f from hr)
      have hy := guard_ok S.er h1
      have hw : Region.wanted o (yielded ops a.tmps) = (q == some want) := by unfold Region.wanted; rw [hg]; simp only [hy]
      cases q with
      | none =>
        rw [if_neg (by rw [hw]; simp)]
        exact ⟨fun f _ => hF.fn f, skip h2⟩
      | some b =>
        by_cases hb : b = want
        · subst hb
          rw [if_pos (by rw [hw]; simp)]
          exact step (by cases b <;> exact h2)
        · rw [if_neg (by rw [hw]; simpa using hb)]
          exact ⟨fun f _ => hF.fn f, skip (by cases b <;> cases want <;> first | exact absurd rfl hb | exact h2)⟩
end
end Go.E
end

section
/- E: scopes, inside a fence. No condition. -/
namespace Go.E
open Go Go.RowKit

/-- What a jump does in a scope of code c. -/
def Exit.jumps (c : Code) (J : Code → Act → World → Prop) (Q : Exit → Act → World → Prop) : Exit → Act → World → Prop
  | .goto l, a, w => match findLabel c l with
    | some rest => J rest a w
    | none => Q (.goto l) a w
  | e, a, w => Q e a w
/-- A scope's code, with so many jumps. -/
def jumpsIn (F : Fence) (n : Nat) (P : Program) (c : Code) (Q : Exit → Act → World → Prop) : Nat → Code → Act → World → Prop
  | 0, _, _, _ => False
  | m + 1, b, a, w => b.wpIn F n P (Exit.jumps c (jumpsIn F n P c Q m) Q) a w
section
variable {F : Fence} {n : Nat} {P : Program} {Q : Exit → Act → World → Prop} {b : Frame} {k : List Item} {cs : List Frame} {a : Act} {w : World}
theorem stepR_scope {c : Code} : step P (lone (b.atR a (.code (.scope c) :: k)) cs w) = .next (lone (b.atR a (.code c :: .inScope c :: k)) cs w) :=
  step_lone_go (by simp [stepG, stepG.exec, Frame.atR])
theorem stepR_inScope {c : Code} : step P (lone (b.atR a (.inScope c :: k)) cs w) = .next (lone (b.atR a k) cs w) :=
  step_lone_go (by simp [stepG, stepG.exec, Frame.atR])
theorem wpIn_scope {c : Code} (m : Nat) (h : jumpsIn F n P c Q m c a w) : (Code.scope c).wpIn F n P Q a w := by
  intro b k cs hro hb hr
  have key : ∀ m d a w, jumpsIn F n P c Q m d a w → ∃ e a' w', Q e a' w' ∧ ArrivesIn (Machine.fenced P F) P (lone (b.atR a (.code d :: .inScope c :: k)) cs w) b k cs e a' w' := by
    intro m
    induction m with
    | zero => intro d a w h; exact h.elim
    | succ m ih =>
      intro d a w h
      obtain ⟨e, a₁, w₁, hq, harr⟩ := h b (.inScope c :: k) cs hro hb hr
      cases e with
      | normal => exact ⟨.normal, a₁, w₁, hq, StepsIn.trans harr (.one (fenced_calm hb hr rfl) stepR_inScope)⟩
      | exit id =>
        have hx : exitTo id (.inScope c :: k) = exitTo id k := by simp [exitTo]
        exact ⟨_, a₁, w₁, hq, fun k' hk => harr.1 k' (by rw [hx]; exact hk), fun hr' hk => harr.2 hr' (by rw [hx]; exact hk)⟩
      | goto l =>
        cases hf : findLabel c l with
        | some rest =>
          have hq : jumpsIn F n P c Q m rest a₁ w₁ := by simpa only [Exit.jumps, hf] using hq
          have hg : gotoIn l (.inScope c :: k) = some (.code rest :: .inScope c :: k) := by simp [gotoIn, hf]
          obtain ⟨e₂, a₂, w₂, hq₂, harr₂⟩ := ih rest a₁ w₁ hq
          exact ⟨e₂, a₂, w₂, hq₂, .of_steps (harr.1 _ hg) harr₂⟩
        | none =>
          have hq : Q (.goto l) a₁ w₁ := by simpa only [Exit.jumps, hf] using hq
          have hg : gotoIn l (.inScope c :: k) = gotoIn l k := by simp [gotoIn, hf]
          exact ⟨_, a₁, w₁, hq, fun k' hk => harr.1 k' (by rw [hg]; exact hk), fun hr' hk => harr.2 hr' (by rw [hg]; exact hk)⟩
      | ret => exact ⟨_, a₁, w₁, hq, harr⟩
      | panic ch => exact ⟨_, a₁, w₁, hq, harr⟩
      | outgrown => exact ⟨_, a₁, w₁, hq, harr⟩
  obtain ⟨e, a', w', hq, harr⟩ := key m c a w h
  exact ⟨e, a', w', hq, .of_steps (.one (fenced_calm hb hr rfl) stepR_scope) harr⟩
end
end Go.E
end

section
/- E: code. No condition. -/
namespace Go.E
open Go Go.RowKit

def exitOf : Ex → Exit
  | .normal => .normal
  | .exit i => .exit i
  | .goto l => .goto l
  | .ret => .ret
/-- The round that runs. -/
def roOk (g : Gh) (ro : Option Ps) (F : Fence) : Prop := match ro with
  | none => F.round = none
  | some l => ∃ L, F.round = some L ∧ g.μ l = some (L, 0)
theorem roOk.mono {g g' : Gh} {ro : Option Ps} {F : Fence} (hg : g.Le g') (h : roOk g ro F) : roOk g' ro F := by
  cases ro with
  | none => exact h
  | some l => obtain ⟨L, h1, h2⟩ := h; exact ⟨L, h1, hg.μ _ _ h2⟩
section
variable (P : Program) (cx : Ctx) (n0 : Nat)
/-- What is asked of a way to run code. -/
def ExDo (mk n : Nat) (ro : Option Ps) (ex : RunK) (c : Code) : Prop := ∀ (e : Env) (h : Hp) (f : Fin) (g : Gh) (w : World) (a : Act) (F : Fence) (Q : Exit → Act → World → Prop), ex e h = some f → WideF F → roOk g ro F → St cx n0 mk n g e h a w →
  (∀ g' a' w', Ext n0 g w g' w' → St cx n0 mk n g' f.env f.h a' w' → Q (exitOf f.e) a' w') → c.wpIn F 0 P Q a w
end
section
variable {P : Program} {cx : Ctx} {n0 : Nat} {mk n : Nat} {ro : Option Ps} {ex : Code → RunK}
theorem seq_do {x y : Code} (hx : ExDo P cx n0 mk n ro (ex x) x) (hy : ExDo P cx n0 mk n ro (ex y) y) : ExDo P cx n0 mk n ro (xSeq ex x y) (.seq x y) := by
  intro e h f g w a F Q hr hF hro S hQ
  obtain ⟨r, h1, h2⟩ := bnd_inv hr
  refine wpIn_seq (hx e h r g w a F _ h1 hF hro S fun g' a' w' x1 S' => ?_)
  obtain ⟨rx, re, rh⟩ := r
  cases rx with
  | normal => exact hy re rh f g' w' a' F Q h2 hF (hro.mono x1.le) S' fun g'' a'' w'' x2 S'' => hQ g'' a'' w'' (x1.trans x2) S''
  | exit i => cases h2; exact hQ g' a' w' x1 S'
  | goto l => cases h2; exact hQ g' a' w' x1 S'
  | ret => cases h2; exact hQ g' a' w' x1 S'
theorem cond_do {c : Operand} {x y : Code} (hx : ExDo P cx n0 mk n ro (ex x) x) (hy : ExDo P cx n0 mk n ro (ex y) y) : ExDo P cx n0 mk n ro (xCond cx mk ex c x y) (.cond c x y) := by
  intro e h f g w a F Q hr hF hro S hQ
  obtain ⟨v, h1, h2⟩ := bnd_inv hr
  obtain ⟨b, rfl, h3⟩ := asBool_inv h2
  have hv := (ev_ok S.hr S.er h1).bool_inv
  refine wpIn_cond hv ?_
  cases b with
  | true => exact hx e h f g w a F Q h3 hF hro S hQ
  | false => exact hy e h f g w a F Q h3 hF hro S hQ
theorem block_do {id : Nat} {b : Code} (hb : ExDo P cx n0 mk n ro (ex b) b) : ExDo P cx n0 mk n ro (xBlock ex id b) (.block id b) := by
  intro e h f g w a F Q hr hF hro S hQ
  obtain ⟨r, h1, h2⟩ := bnd_inv hr
  refine wpIn_block (hb e h r g w a F _ h1 hF hro S fun g' a' w' x1 S' => ?_)
  obtain ⟨rx, re, rh⟩ := r
  cases rx with
  | normal => cases h2; exact hQ g' a' w' x1 S'
  | exit i =>
    show (if i = id then Q .normal a' w' else Q (.exit i) a' w')
    cases hi : Nat.beq i id with
    | true =>
      have h2 : ifB (Nat.beq i id) (some (⟨.normal, re, rh⟩ : Fin)) (some ⟨.exit i, re, rh⟩) = some f := h2
      rw [hi] at h2
      cases h2
      rw [nbeq_eq, decide_eq_true_eq] at hi
      rw [if_pos hi]
      exact hQ g' a' w' x1 S'
    | false =>
      have h2 : ifB (Nat.beq i id) (some (⟨.normal, re, rh⟩ : Fin)) (some ⟨.exit i, re, rh⟩) = some f := h2
      rw [hi] at h2
      cases h2
      rw [nbeq_eq, decide_eq_false_iff_not] at hi
      rw [if_neg hi]
      exact hQ g' a' w' x1 S'
  | goto l => cases h2; exact hQ g' a' w' x1 S'
  | ret => cases h2; exact hQ g' a' w' x1 S'
theorem jumps_do {all : Code} (hex : ∀ b, codeOk n b → ExDo P cx n0 mk n ro (ex b) b) (hlab : ∀ l rest, findLabel all l = some rest → codeOk n rest) : ∀ (k : Nat) (b : Code), codeOk n b → ∀ (e : Env) (h : Hp) (f : Fin) (g : Gh) (w : World) (a : Act) (F : Fence) (Q : Exit → Act → World → Prop),
    jumps ex all k b e h = some f → WideF F → roOk g ro F → St cx n0 mk n g e h a w → (∀ g' a' w', Ext n0 g w g' w' → St cx n0 mk n g' f.env f.h a' w' → Q (exitOf f.e) a' w') → jumpsIn F 0 P all Q k b a w
  | 0, b, _, e, h, f, g, w, a, F, Q, hr, _, _, _, _ => by cases hr
  | k + 1, b, hb, e, h, f, g, w, a, F, Q, hr, hF, hro, S, hQ => by
    obtain ⟨r, h1, h2⟩ := bnd_inv (show bnd (ex b e h) _ = some f from hr)
    refine hex b hb e h r g w a F _ h1 hF hro S fun g' a' w' x1 S' => ?_
    obtain ⟨rx, re, rh⟩ := r
    cases rx with
    | goto l =>
      have h2 : (Option.rec (some (⟨.goto l, re, rh⟩ : Fin)) (fun rest => jumps ex all k rest re rh) (findLabel all l) : Option Fin) = some f := h2
      show (match findLabel all l with | some rest => jumpsIn F 0 P all Q k rest a' w' | none => Q (.goto l) a' w')
      cases hf : findLabel all l with
      | none => rw [hf] at h2; cases h2; exact hQ g' a' w' x1 S'
      | some rest =>
        rw [hf] at h2
        exact jumps_do hex hlab k rest (hlab l rest hf) re rh f g' w' a' F Q h2 hF (hro.mono x1.le) S' fun g'' a'' w'' x2 S'' => hQ g'' a'' w'' (x1.trans x2) S''
    | normal => cases h2; exact hQ g' a' w' x1 S'
    | exit i => cases h2; exact hQ g' a' w' x1 S'
    | ret => cases h2; exact hQ g' a' w' x1 S'
theorem scope_do {b : Code} (hb : codeOk n b) (hex : ∀ b, codeOk n b → ExDo P cx n0 mk n ro (ex b) b) (hlab : ∀ l rest, findLabel b l = some rest → codeOk n rest) : ExDo P cx n0 mk n ro (xScope ex b) (.scope b) := by
  intro e h f g w a F Q hr hF hro S hQ
  exact wpIn_scope 1000 (jumps_do hex hlab 1000 b hb e h f g w a F Q hr hF hro S hQ)
theorem findLabel_ok : ∀ {c : Code} {l : Nat} {rest : Code}, codeOk n c → findLabel c l = some rest → codeOk n rest
  | .seq a b, l, rest, hc, hf => by
    unfold findLabel at hf
    split at hf
    · rename_i r hr
      cases hf
      exact ⟨findLabel_ok hc.1 hr, hc.2⟩
    · exact findLabel_ok hc.2 hf
  | .label l', l, rest, _, hf => by
    unfold findLabel at hf
    split at hf
    · cases hf; trivial
    · cases hf
  | .skip, _, _, _, hf => by cases hf
  | .region .., _, _, _, hf => by cases hf
  | .cond .., _, _, _, hf => by cases hf
  | .block .., _, _, _, hf => by cases hf
  | .loop _, _, _, _, hf => by cases hf
  | .scope _, _, _, _, hf => by cases hf
  | .exit _, _, _, _, hf => by cases hf
  | .goto _, _, _, _, hf => by cases hf
  | .ret, _, _, _, hf => by cases hf
  | .rangeFunc .., _, _, _, hf => by cases hf
  | .refuse _, _, _, _, hf => by cases hf
/-- A loop, round by round. -/
def LoopDo (P : Program) (cx : Ctx) (n0 mk n : Nat) (ro : Option Ps) (ex : RunK) (m : Nat) (b : Code) : Prop := ∀ (e : Env) (h : Hp) (f : Fin) (g : Gh) (w : World) (a : Act) (F : Fence) (Q : Exit → Act → World → Prop), ex e h = some f → WideF F → roOk g ro F → St cx n0 mk n g e h a w →
  (∀ g' a' w', Ext n0 g w g' w' → St cx n0 mk n g' f.env f.h a' w' → Q (exitOf f.e) a' w') → Code.roundsIn F 0 P b Q m a w
theorem rounds_do {b : Code} {m : Nat} (hb : ExDo P cx n0 mk n ro (ex b) b) (hl : LoopDo P cx n0 mk n ro (ex (.loop b)) m b) : LoopDo P cx n0 mk n ro (xLoop ex b) (m + 1) b := by
  intro e h f g w a F Q hr hF hro S hQ
  obtain ⟨r, h1, h2⟩ := bnd_inv hr
  rw [roundsIn_succ]
  refine hb e h r g w a F _ h1 hF hro S fun g' a' w' x1 S' => ?_
  obtain ⟨rx, re, rh⟩ := r
  cases rx with
  | normal => exact hl re rh f g' w' a' F Q h2 hF (hro.mono x1.le) S' fun g'' a'' w'' x2 S'' => hQ g'' a'' w'' (x1.trans x2) S''
  | exit i => cases h2; exact hQ g' a' w' x1 S'
  | goto l => cases h2; exact hQ g' a' w' x1 S'
  | ret => cases h2; exact hQ g' a' w' x1 S'
theorem loop_do {b : Code} {m : Nat} (hl : LoopDo P cx n0 mk n ro (xLoop ex b) m b) : ExDo P cx n0 mk n ro (xLoop ex b) (.loop b) := by
  intro e h f g w a F Q hr hF hro S hQ
  exact wpIn_loop_rounds m (hl e h f g w a F Q hr hF hro S hQ)
theorem notDefer_ok {o : Oper} (h : notDefer o = true) (c : Call) : o.op ≠ .defer c := fun e => by
  unfold notDefer at h
  rw [e] at h
  cases h
theorem region_do {id : Nat} {ops : Array Oper} {call : CallK} (hA : ∀ F, WideF F → AllDo P cx n0 F call) (hd : dstsOk n ops.toList) (hro : okRo ro ops.toList = true) : ExDo P cx n0 mk n ro (runOps cx mk call ops.toList ops.toList) (.region id ops false) := by
  intro e h f g w a F Q hr hF hr2 S hQ
  refine wpIn_region_list (runOps_ok (hA F hF) hF ?_ ops.toList e g h a w (fun o ho => ho) hd S hr fun g' a' w' x1 S' hx => ?_)
  · cases ro with
    | none => exact .inr hr2
    | some l =>
      left
      intro o ho c
      exact notDefer_ok (List.all_eq_true.1 (show ops.toList.all notDefer = true from hro) o ho) c
  · have := hQ g' a' w' x1 S'
    rw [hx] at this
    exact this
theorem skip_do : ExDo P cx n0 mk n ro (fun e h => some ⟨.normal, e, h⟩) .skip := by
  intro e h f g w a F Q hr hF hro S hQ
  cases hr
  exact wpIn_skip (hQ g a w (.refl n0 g w) S)
theorem label_do (l : Nat) : ExDo P cx n0 mk n ro (fun e h => some ⟨.normal, e, h⟩) (.label l) := by
  intro e h f g w a F Q hr hF hro S hQ
  cases hr
  exact wpIn_label (hQ g a w (.refl n0 g w) S)
theorem exit_do (i : Nat) : ExDo P cx n0 mk n ro (fun e h => some ⟨.exit i, e, h⟩) (.exit i) := by
  intro e h f g w a F Q hr hF hro S hQ
  cases hr
  exact wpIn_exit (hQ g a w (.refl n0 g w) S)
theorem goto_do (i : Nat) : ExDo P cx n0 mk n ro (fun e h => some ⟨.goto i, e, h⟩) (.goto i) := by
  intro e h f g w a F Q hr hF hro S hQ
  cases hr
  exact wpIn_goto (hQ g a w (.refl n0 g w) S)
theorem ret_do : ExDo P cx n0 mk n ro (fun e h => some ⟨.ret, e, h⟩) .ret := by
  intro e h f g w a F Q hr hF hro S hQ
  cases hr
  exact wpIn_ret (hQ g a w (.refl n0 g w) S)
end
end Go.E
end

section
/- E: a region whose order is drawn: what holds on the way. No condition. -/
namespace Go.E
open Go Go.RowKit
theorem Hp.set_some (h : Hp) (b : Ps) (o : RO) : ∃ h', h.set b o = some h' := by
  obtain ⟨t, n, d⟩ := h
  obtain ⟨t', h'⟩ := Tr.set_some o t b
  exact ⟨⟨t', n, d⟩, by show bnd (t.set o b) _ = _; rw [h']⟩
theorem Env.put_some (mk : Nat) (e : Env) (i : Nat) (v : RV) : ∃ e', e.put mk i v = some e' := by
  obtain ⟨l, g⟩ := e
  show ∃ e', ifB (bit mk i) (bnd (g.set v (toPs i)) fun g => some (⟨l, g⟩ : Env)) (some ⟨(i, v) :: l, g⟩) = some e'
  cases bit mk i with
  | true =>
    obtain ⟨t, h⟩ := Tr.set_some v g (toPs i)
    exact ⟨⟨l, t⟩, by rw [ifB_true, h]⟩
  | false => exact ⟨_, rfl⟩
/-- Some of an environment. -/
theorem Env.some_of (mk : Nat) (e : Env) : ∀ (L : List Nat), ∃ e' : Env, ∀ i, e'.get mk i = if i ∈ L then e.get mk i else none
  | [] => ⟨⟨[], .nil⟩, fun i => by
    show ifB (bit mk i) ((Tr.nil : Tr RV).get (toPs i)) (assoc [] i) = _
    cases bit mk i <;> rfl⟩
  | a :: L => by
    obtain ⟨e1, h1⟩ := Env.some_of mk e L
    cases ha : e.get mk a with
    | none =>
      refine ⟨e1, fun i => ?_⟩
      rw [h1]
      by_cases hi : i = a
      · subst hi
        simp [ha]
      · simp [hi]
    | some v =>
      obtain ⟨e2, h2⟩ := Env.put_some mk e1 a v
      refine ⟨e2, fun i => ?_⟩
      rw [Env.put_ok h2, h1]
      by_cases hi : i = a
      · subst hi
        simp [ha]
      · simp [hi]
section
variable {P : Program} {cx : Ctx} {n0 : Nat} {mk : Nat} {call : CallK} {ops : List Oper}
theorem newsM_ok {g : Gh} {h : Hp} {w : World} {e : Env} {a : Act} {o : Oper} {R : Type} {y : R} {k : RV → Hp → Option R} (hT : TOk P cx.Γ) (H : HR cx g h w n0) (he : ER g mk e a.tmps) (hc : clsOf cx.Γ o.op = .news) (hk : stepO o.op cx mk call e h k = some y) :
    ∃ ob val O VAL, News P cx n0 g ob val O VAL (fun h k => stepO o.op cx mk call e h k) fun w => (execOp a.eval o).run P w := by
  cases hop : o.op <;> rw [hop] at hc hk <;> first
    | (cases hc; done)
    | (exact box_news (call := call) H he hop hk)
    | (exact map_news (call := call) (mk := mk) (e := e) hop hk)
    | (exact buildSlice_news (call := call) hT H he hop hk)
    | (exact makeSlice_news (call := call) hT H he hop hk)
    | skip
  case alloc t => exact alloc_news (call := call) (mk := mk) (e := e) hT hop hk
  case convert s d x =>
    exfalso
    simp only [clsOf] at hc
    split at hc
    · split at hc <;> cases hc
    · cases hc
  case call c =>
    exfalso
    simp only [clsOf] at hc
    split at hc
    · split at hc <;> cases hc
    · cases hc
theorem isActs_iff {Γ : Tys} {o : Oper} : isActs Γ o = true ↔ clsOf Γ o.op = .acts := by unfold isActs; cases clsOf Γ o.op <;> simp
theorem isNews_iff {Γ : Tys} {o : Oper} : isNews Γ o = true ↔ clsOf Γ o.op = .news := by unfold isNews; cases clsOf Γ o.op <;> simp
theorem isReads_iff {Γ : Tys} {o : Oper} : isReads Γ o = true ↔ clsOf Γ o.op = .reads := by unfold isReads; cases clsOf Γ o.op <;> simp

/-- A region's run, and what is static in it. -/
structure Reg (cx : Ctx) (mk nt : Nat) (call : CallK) (ops : List Oper) (W : List Nat) (ts : List Tc) (e0 en : Env) (h0 hn : Hp) : Prop where
  tr : Trace cx mk call ops ops e0 h0 ts en hn
  st : Stat cx.Γ ops W
  wo : WaitsOk ops W
  dl : dstsOk nt ops
  tries : ∀ (r : Nat) (t : Tc), ts[r]? = some t → t.w = true → isReads cx.Γ t.o = true → ∀ k, k ≤ ops.length → (k = loOf cx.Γ ops W r ∨ (loOf cx.Γ ops W r < k ∧ k ≤ hiOf cx.Γ ops W r ∧ kAct cx.Γ ops k = true)) → ∃ h', stepO (R := Out) t.o.op cx mk call t.e (hAt ts hn k) out1 = some ⟨t.v, h'⟩
variable {W : List Nat} {ts : List Tc} {e0 en : Env} {h0 hn : Hp} {nt : Nat}
/-- A new block that is wanted. -/
def newW (Γ : Tys) (ts : List Tc) (j : Nat) : Prop := ∃ t, ts[j]? = some t ∧ t.w = true ∧ isNews Γ t.o = true
def pl (ts : List Tc) (hn : Hp) (j : Nat) : Ps := (hAt ts hn j).n
theorem Reg.len (G : Reg cx mk nt call ops W ts e0 en h0 hn) : ts.length = ops.length := G.tr.len
theorem Reg.ex (G : Reg cx mk nt call ops W ts e0 en h0 hn) {j : Nat} (hj : j < ops.length) : ∃ t, ts[j]? = some t ∧ ops[j]? = some t.o ∧ TcOk cx mk call ops t (eAt ts en (j + 1)) (hAt ts hn (j + 1)) := by
  have hj' : j < ts.length := by rw [G.len]; exact hj
  obtain ⟨t, ht⟩ : ∃ t, ts[j]? = some t := ⟨_, List.getElem?_eq_getElem hj'⟩
  exact ⟨t, ht, G.tr.at j t ht⟩
theorem newW_lt (G : Reg cx mk nt call ops W ts e0 en h0 hn) {j : Nat} (h : newW cx.Γ ts j) : j < ops.length := by
  obtain ⟨t, h1, _⟩ := h
  rw [← G.len]
  exact (List.getElem?_eq_some_iff.1 h1).1
theorem newW_newI (G : Reg cx mk nt call ops W ts e0 en h0 hn) {j : Nat} (h : newW cx.Γ ts j) : newI cx.Γ ops j := by
  obtain ⟨t, h1, _, h2⟩ := h
  exact ⟨t.o, (G.tr.at j t h1).1, h2⟩
theorem newI_not_act {Γ : Tys} {j : Nat} (h : newI Γ ops j) : ¬ actI Γ ops j := fun ⟨o, h1, h2⟩ => by
  obtain ⟨o', h3, h4⟩ := h
  rw [h1] at h3
  cases h3
  rw [isActs_iff] at h2
  rw [isNews_iff, h2] at h4
  cases h4
/-- What a new block does to the evaluator's memory. -/
structure NewT (cx : Ctx) (mk : Nat) (call : CallK) (ts : List Tc) (hn : Hp) (j : Nat) (ob : RO) (val : Ps → RV) : Prop where
  vl : ∀ t, ts[j]? = some t → t.v = val (pl ts hn j)
  get : ∀ r, (hAt ts hn (j + 1)).get r = if r = pl ts hn j then some ob else (hAt ts hn j).get r
  n : (hAt ts hn (j + 1)).n = (pl ts hn j).succ
  df : (hAt ts hn (j + 1)).df = (hAt ts hn j).df
  op : ∀ t, ts[j]? = some t → NewO cx mk call t.e t.o.op ob val
theorem Reg.newT (G : Reg cx mk nt call ops W ts e0 en h0 hn) {j : Nat} (h : newW cx.Γ ts j) : ∃ ob val, NewT cx mk call ts hn j ob val := by
  obtain ⟨t, h1, h2, h3⟩ := h
  obtain ⟨_, k⟩ := G.tr.at j t h1
  have hs := k.step h2 (R := Out) out1
  obtain ⟨ob, val, ho⟩ := newO_ok (isNews_iff.1 h3) hs
  have hs2 := ho t.h (R := Out) out1
  obtain ⟨h', n1, n2, n3, n4⟩ := Hp.new_eq t.h ob
  rw [n1, hs] at hs2
  have hv : t.v = val t.h.n ∧ hAt ts hn (j + 1) = h' := by
    have := Option.some.inj hs2
    exact ⟨congrArg Out.v this, congrArg Out.h this⟩
  have hh := hAt_at (hn := hn) h1
  refine ⟨ob, val, fun t' ht' => ?_, fun r => ?_, ?_, ?_, fun t' ht' => ?_⟩
  · rw [h1] at ht'
    cases ht'
    rw [hv.1, pl, hh]
  · rw [hv.2, pl, hh]; exact n2 r
  · rw [hv.2, pl, hh]; exact n3
  · rw [hv.2, hh]; exact n4
  · rw [h1] at ht'
    cases ht'
    exact ho
/-- Other operations leave memory as it is. -/
theorem Reg.stay (G : Reg cx mk nt call ops W ts e0 en h0 hn) {j : Nat} (hj : j < ops.length) (ha : ¬ actI cx.Γ ops j) (hw : ¬ newW cx.Γ ts j) : hAt ts hn (j + 1) = hAt ts hn j := by
  obtain ⟨t, h1, h2, k⟩ := G.ex hj
  rw [hAt_at (hn := hn) h1]
  cases ht : t.w with
  | false => exact (k.skip ht).2
  | true =>
    have hs := k.step ht (R := Out) out1
    cases hc : clsOf cx.Γ t.o.op with
    | acts => exact absurd ⟨t.o, h2, isActs_iff.2 hc⟩ ha
    | news => exact absurd ⟨t, h1, ht, isNews_iff.2 hc⟩ hw
    | pure =>
      obtain ⟨X, hX⟩ := pureO_ok (mk := mk) (call := call) (e := t.e) hc
      rw [hX t.h (R := Out) out1] at hs
      obtain ⟨v, _, q2⟩ := bnd_inv hs
      exact (congrArg Out.h (Option.some.inj q2)).symm
    | reads =>
      obtain ⟨X, hX⟩ := readO_ok (mk := mk) (call := call) (e := t.e) hc
      rw [hX.step t.h (R := Out) out1] at hs
      obtain ⟨v, _, q2⟩ := bnd_inv hs
      exact (congrArg Out.h (Option.some.inj q2)).symm
/-- Ahead of an operation that is no act, memory grows alone. -/
theorem Reg.grow (G : Reg cx mk nt call ops W ts e0 en h0 hn) {j : Nat} (hj : j < ops.length) (ha : ¬ actI cx.Γ ops j) : (hAt ts hn j).n.num ≤ (hAt ts hn (j + 1)).n.num ∧ (∀ b o, (hAt ts hn j).get b = some o → b.num < (hAt ts hn j).n.num → (hAt ts hn (j + 1)).get b = some o) ∧
    (∀ b o, (hAt ts hn (j + 1)).get b = some o → (hAt ts hn j).get b = some o ∨ (newW cx.Γ ts j ∧ b = pl ts hn j)) := by
  by_cases hw : newW cx.Γ ts j
  · obtain ⟨ob, val, T⟩ := G.newT hw
    refine ⟨by rw [T.n, Ps.num_succ, pl]; omega, fun b o hb hlt => ?_, fun b o hb => ?_⟩
    · rw [T.get, if_neg (fun e => by rw [e] at hlt; exact absurd hlt (Nat.lt_irrefl _))]
      exact hb
    · rw [T.get] at hb
      by_cases hbp : b = pl ts hn j
      · exact .inr ⟨hw, hbp⟩
      · rw [if_neg hbp] at hb
        exact .inl hb
  · rw [G.stay hj ha hw]
    exact ⟨Nat.le_refl _, fun b o hb _ => hb, fun b o hb => .inl hb⟩
theorem Reg.growTo (G : Reg cx mk nt call ops W ts e0 en h0 hn) {k : Nat} : ∀ (m : Nat), k + m ≤ ops.length → (∀ i, k ≤ i → i < k + m → ¬ actI cx.Γ ops i) → (hAt ts hn k).n.num ≤ (hAt ts hn (k + m)).n.num ∧ (∀ b o, (hAt ts hn k).get b = some o → b.num < (hAt ts hn k).n.num → (hAt ts hn (k + m)).get b = some o) ∧
    (∀ b o, (hAt ts hn (k + m)).get b = some o → (hAt ts hn k).get b = some o ∨ ∃ i, k ≤ i ∧ i < k + m ∧ newW cx.Γ ts i ∧ b = pl ts hn i)
  | 0, _, _ => ⟨Nat.le_refl _, fun b o h _ => h, fun b o h => .inl h⟩
  | m + 1, hm, ha => by
    obtain ⟨i1, i2, i3⟩ := G.growTo m (by omega) fun i h1 h2 => ha i h1 (by omega)
    obtain ⟨j1, j2, j3⟩ := G.grow (j := k + m) (by omega) (ha _ (by omega) (by omega))
    refine ⟨Nat.le_trans i1 j1, fun b o hb hlt => j2 b o (i2 b o hb hlt) (by omega), fun b o hb => ?_⟩
    rcases j3 b o hb with h | ⟨h1, h2⟩
    · rcases i3 b o h with h | ⟨i, h1, h2, h3⟩
      · exact .inl h
      · exact .inr ⟨i, h1, by omega, h3⟩
    · exact .inr ⟨k + m, by omega, by omega, h1, h2⟩
end
end Go.E
end

section
/- E: a region whose order is drawn: the way on. No condition. -/
namespace Go.E
open Go Go.RowKit
def Dn (S : Array Bool) (j : Nat) : Prop := S.getD j true = true
/-- New blocks that are made ahead of their turn. -/
def FlI (Γ : Tys) (ts : List Tc) (S : Array Bool) (q j : Nat) : Prop := newW Γ ts j ∧ Dn S j ∧ q ≤ j
/-- New blocks that are not made yet, though others behind them may be. -/
def UI (Γ : Tys) (ts : List Tc) (S : Array Bool) (q i : Nat) : Prop := newW Γ ts i ∧ ¬ Dn S i ∧ i < q
section
variable (P : Program) (cx : Ctx) (n0 nt mk : Nat) (call : CallK) (ops : List Oper) (W : List Nat) (ts : List Tc) (e0 : Env) (hn : Hp) (gS : Gh) (wS : World)
/-- A block that was made ahead of its turn. -/
def FOk (j B : Nat) (g : Gh) (a : Act) (w : World) : Prop := ∃ (ob : RO) (val : Ps → RV) (O : Obj) (VAL : Nat → Value), NewT cx mk call ts hn j ob val ∧ (∀ (g' : Gh) (q : Ps) (B' : Nat), g.Le g' → g'.μ q = some (B', 0) → g'.x q = 0 → VR g' (val q) (VAL B')) ∧
  (∀ (g' : Gh) (q : Ps) (B' : Nat) (w' : World), g.Le g' → g'.μ q = some (B', 0) → g'.x q = 0 → w'.heap[B']? = some O → n0 ≤ B' → OR cx g' w' n0 q ob) ∧ ob.live = true ∧ ob.anc = [] ∧ wS.heap.size ≤ B ∧ B < w.heap.size ∧ w.heap[B]? = some O ∧
  (∀ b o, g.μ b ≠ some (B, o)) ∧ ∀ t d, ts[j]? = some t → t.o.dst = some d → a.tmps[d]? = some (VAL B)
/-- How far it is. -/
structure Fr (S : Array Bool) (q b0 : Nat) : Prop where
  sz : S.size = ops.length
  dn : ∀ j, j < ops.length → Dn S j → ∀ i, wt W j i = true → Dn S i
  qn : q ≤ ops.length
  qa : q < ops.length → actI cx.Γ ops q ∧ ¬ Dn S q
  qd : ∀ i, i < q → actI cx.Γ ops i → Dn S i
  b0q : b0 ≤ q
  seg : ∀ i, b0 ≤ i → i < q → ¬ actI cx.Γ ops i
  b0a : b0 = 0 ∨ ∃ i, b0 = i + 1 ∧ actI cx.Γ ops i
structure Body (S : Array Bool) (q : Nat) (H : Hp) (g : Gh) (Bf : Nat → Nat) (a : Act) (w : World) : Prop where
  hr : HR cx g H w n0
  hN : H.n = (hAt ts hn q).n
  hD : H.df = (hAt ts hn q).df
  hG : ∀ b o, o ≠ .dead → (H.get b = some o ↔ (hAt ts hn q).get b = some o ∧ ∀ i, UI cx.Γ ts S q i → b ≠ pl ts hn i)
  fr : ∀ i, UI cx.Γ ts S q i → g.μ (pl ts hn i) = none ∧ (pl ts hn i).num < (hAt ts hn q).n.num
  dr : DR g H.df a.defers
  le : n0 ≤ w.heap.size
  szt : nt ≤ a.tmps.size
  ext : Ext n0 gS wS g w
  tmp : ∀ (j : Nat) (t : Tc) (d : Tmp), ts[j]? = some t → Dn S j → t.o.dst = some d → ¬ FlI cx.Γ ts S q j → ∃ V, a.tmps[d]? = some V ∧ VR g t.v V
  ini : ∀ d, (∀ (j : Nat) (t : Tc), ts[j]? = some t → Dn S j → t.o.dst ≠ some d) → ∀ v, e0.get mk d = some v → ∃ V, a.tmps[d]? = some V ∧ VR g v V
  flt : ∀ j, FlI cx.Γ ts S q j → FOk cx n0 mk call ts hn wS j (Bf j) g a w
  inj : ∀ i j, FlI cx.Γ ts S q i → FlI cx.Γ ts S q j → Bf i = Bf j → i = j
end
section
variable {P : Program} {cx : Ctx} {n0 nt mk : Nat} {call : CallK} {ops : List Oper} {W : List Nat} {ts : List Tc} {e0 en : Env} {h0 hn : Hp} {gS g g' : Gh} {wS w w' : World} {S : Array Bool} {q b0 : Nat} {H : Hp} {Bf : Nat → Nat} {a a' : Act}
theorem FOk.mono {j B : Nat} (h : FOk cx n0 mk call ts hn wS j B g a w) (hg : g.Le g') (hw : w.heap.size ≤ w'.heap.size) (hB : w'.heap[B]? = w.heap[B]?) (hμ : ∀ b o, g'.μ b = some (B, o) → ∃ b' o', g.μ b' = some (B, o'))
    (ha : ∀ t d, ts[j]? = some t → t.o.dst = some d → a'.tmps[d]? = a.tmps[d]?) : FOk cx n0 mk call ts hn wS j B g' a' w' := by
  obtain ⟨ob, val, O, VAL, h1, h2, h3, h4, h5, h6, h7, h8, h9, h10⟩ := h
  exact ⟨ob, val, O, VAL, h1, fun g'' q B' hg' => h2 g'' q B' (hg.trans hg'), fun g'' q B' w'' hg' => h3 g'' q B' w'' (hg.trans hg'), h4, h5, h6, Nat.lt_of_lt_of_le h7 hw, hB.trans h8, fun b o hb => by
    obtain ⟨b', o', hb'⟩ := hμ b o hb
    exact h9 b' o' hb', fun t d ht hd => (ha t d ht hd).trans (h10 t d ht hd)⟩
/-- The frontier goes by an operation that is no act. -/
theorem Body.adv (G : Reg cx mk nt call ops W ts e0 en h0 hn) (hS : n0 ≤ wS.heap.size) {k : Nat} (hk : k < ops.length) (ha : ¬ actI cx.Γ ops k) (B : Body cx n0 nt mk call ts e0 hn gS wS S k H g Bf a w) :
    ∃ H' g', Body cx n0 nt mk call ts e0 hn gS wS S (k + 1) H' g' Bf a w := by
  by_cases hw : newW cx.Γ ts k
  · obtain ⟨t, t1, t2, t3⟩ := hw
    by_cases hd : Dn S k
    · -- its turn has come
      have hfl : FlI cx.Γ ts S k k := ⟨⟨t, t1, t2, t3⟩, hd, Nat.le_refl _⟩
      obtain ⟨ob, val, O, VAL, T, f2, f3, f4, f5, f6, f7, f8, f9, f10⟩ := B.flt k hfl
      obtain ⟨H', n1, n2, n3, n4⟩ := Hp.new_eq H ob
      have hpk : H.n = pl ts hn k := B.hN
      have hfresh : g.μ (pl ts hn k) = none := by rw [← hpk]; exact B.hr.fresh
      have hle : g.Le (g.add (pl ts hn k) (Bf k) 0 0) := Gh.add_le hfresh
      have hμ : (g.add (pl ts hn k) (Bf k) 0 0).μ (pl ts hn k) = some (Bf k, 0) := by simp [Gh.add]
      have hx : (g.add (pl ts hn k) (Bf k) 0 0).x (pl ts hn k) = 0 := by simp [Gh.add]
      have hu : ∀ i, UI cx.Γ ts S (k + 1) i ↔ UI cx.Γ ts S k i := fun i => by
        constructor
        · rintro ⟨u1, u2, u3⟩
          refine ⟨u1, u2, ?_⟩
          have : i ≠ k := fun e => by subst e; exact u2 hd
          omega
        · rintro ⟨u1, u2, u3⟩
          exact ⟨u1, u2, by omega⟩
      have hf : ∀ j, FlI cx.Γ ts S (k + 1) j → FlI cx.Γ ts S k j ∧ j ≠ k := fun j hj => ⟨⟨hj.1, hj.2.1, by have := hj.2.2; omega⟩, fun e => by have := hj.2.2; omega⟩
      have hnum : (hAt ts hn (k + 1)).n.num = (pl ts hn k).num + 1 := by rw [T.n, Ps.num_succ]
      refine ⟨H', g.add (pl ts hn k) (Bf k) 0 0, ?_⟩
      refine { hr := ?_, hN := ?_, hD := ?_, hG := ?_, fr := ?_, dr := ?_, le := B.le, szt := B.szt, ext := ?_, tmp := ?_, ini := ?_, flt := ?_, inj := ?_ }
      · refine B.hr.adopt hfresh f7 f9 f4 (fun r => by rw [n2, hpk]) (by rw [n3, hpk, Ps.num_succ]; omega) (by rw [n3, Ps.num_succ]; omega) ?_
        exact f3 _ _ _ _ hle hμ hx f8 (Nat.le_trans hS f6)
      · rw [n3, hpk, T.n]
      · rw [n4, B.hD, T.df]
      · intro b o ho
        rw [n2, T.get, hpk]
        by_cases hb : b = pl ts hn k
        · subst hb
          rw [if_pos rfl, if_pos rfl]
          refine ⟨fun h => ⟨h, fun i hi e => ?_⟩, fun h => h.1⟩
          have := (B.fr i ((hu i).1 hi)).2
          rw [← e] at this
          exact absurd this (Nat.lt_irrefl _)
        · rw [if_neg hb, if_neg hb, B.hG b o ho]
          simp only [hu]
      · intro i hi
        obtain ⟨u1, u2⟩ := B.fr i ((hu i).1 hi)
        have hne : pl ts hn i ≠ pl ts hn k := fun e => by rw [e] at u2; exact absurd u2 (Nat.lt_irrefl _)
        refine ⟨by simp [Gh.add, hne, u1], ?_⟩
        have : (pl ts hn i).num < (pl ts hn k).num := u2
        omega
      · rw [n4]; exact B.dr.mono hle
      · refine ⟨B.ext.le.trans hle, B.ext.size, fun b B' o hb => ?_, B.ext.keep, B.ext.os, B.ext.tape, B.ext.output⟩
        by_cases hbk : b = pl ts hn k
        · subst hbk
          rw [hμ] at hb
          cases hb
          exact .inr f6
        · have : g.μ b = some (B', o) := by simpa [Gh.add, hbk] using hb
          exact B.ext.new b B' o this
      · intro j t' d ht' hdj hdd hnf
        by_cases hjk : j = k
        · subst hjk
          rw [t1] at ht'
          cases ht'
          refine ⟨VAL (Bf j), f10 t d t1 hdd, ?_⟩
          rw [T.vl t t1]
          exact f2 _ _ _ hle hμ hx
        · obtain ⟨V, v1, v2⟩ := B.tmp j t' d ht' hdj hdd fun hfj => hnf ⟨hfj.1, hfj.2.1, by have := hfj.2.2; omega⟩
          exact ⟨V, v1, v2.mono hle⟩
      · intro d hd v hv
        obtain ⟨V, v1, v2⟩ := B.ini d hd v hv
        exact ⟨V, v1, v2.mono hle⟩
      · intro j hj
        obtain ⟨hj1, hj2⟩ := hf j hj
        refine (B.flt j hj1).mono hle (Nat.le_refl _) rfl (fun b o hb => ?_) fun _ _ _ _ => rfl
        by_cases hbk : b = pl ts hn k
        · subst hbk
          rw [hμ] at hb
          exact absurd (B.inj j k hj1 hfl ((Prod.mk.inj (Option.some.inj hb)).1.symm)) hj2
        · exact ⟨b, o, by simpa [Gh.add, hbk] using hb⟩
      · exact fun i j hi hj => B.inj i j (hf i hi).1 (hf j hj).1
    · -- it is not made yet
      obtain ⟨ob, val, T⟩ := G.newT ⟨t, t1, t2, t3⟩
      have hpk : H.n = pl ts hn k := B.hN
      have hfresh : g.μ (pl ts hn k) = none := by rw [← hpk]; exact B.hr.fresh
      have hnum : (hAt ts hn (k + 1)).n.num = (pl ts hn k).num + 1 := by rw [T.n, Ps.num_succ]
      have hget : ∀ b, (⟨H.t, (pl ts hn k).succ, H.df⟩ : Hp).get b = H.get b := fun b => by rw [Hp.get_eq, Hp.get_eq]
      have hu : ∀ i, UI cx.Γ ts S (k + 1) i ↔ UI cx.Γ ts S k i ∨ i = k := fun i => by
        constructor
        · rintro ⟨u1, u2, u3⟩
          by_cases e : i = k
          · exact .inr e
          · exact .inl ⟨u1, u2, by omega⟩
        · rintro (⟨u1, u2, u3⟩ | rfl)
          · exact ⟨u1, u2, by omega⟩
          · exact ⟨⟨t, t1, t2, t3⟩, hd, by omega⟩
      have hf : ∀ j, FlI cx.Γ ts S (k + 1) j ↔ FlI cx.Γ ts S k j := fun j => by
        constructor
        · rintro ⟨u1, u2, u3⟩; exact ⟨u1, u2, by omega⟩
        · rintro ⟨u1, u2, u3⟩
          have : j ≠ k := fun e => by subst e; exact hd u2
          exact ⟨u1, u2, by omega⟩
      refine ⟨⟨H.t, (pl ts hn k).succ, H.df⟩, g, ?_⟩
      refine { hr := ?_, hN := ?_, hD := ?_, hG := ?_, fr := ?_, dr := B.dr, le := B.le, szt := B.szt, ext := B.ext, tmp := ?_, ini := B.ini, flt := ?_, inj := ?_ }
      · exact B.hr.like (fun b o _ hb => by rw [← hget]; exact hb) (by rw [hpk]; show _ ≤ (pl ts hn k).succ.num; rw [Ps.num_succ]; omega)
      · exact T.n.symm
      · rw [T.df]; exact B.hD
      · intro b o ho
        rw [hget, T.get, B.hG b o ho]
        constructor
        · rintro ⟨u1, u2⟩
          have hlt : b.num < H.n.num := B.hr.top (by rw [B.hG b o ho]; exact ⟨u1, u2⟩) ho
          have hne : b ≠ pl ts hn k := fun e => by rw [e, hpk] at hlt; exact absurd hlt (Nat.lt_irrefl _)
          rw [if_neg hne]
          refine ⟨u1, fun i hi => ?_⟩
          rcases (hu i).1 hi with hi | rfl
          · exact u2 i hi
          · exact hne
        · rintro ⟨u1, u2⟩
          rw [if_neg (u2 k ((hu k).2 (.inr rfl)))] at u1
          exact ⟨u1, fun i hi => u2 i ((hu i).2 (.inl hi))⟩
      · intro i hi
        rcases (hu i).1 hi with hi | rfl
        · obtain ⟨u1, u2⟩ := B.fr i hi
          have : (pl ts hn i).num < (pl ts hn k).num := u2
          exact ⟨u1, by omega⟩
        · exact ⟨hfresh, by omega⟩
      · intro j t' d ht' hdj hdd hnf
        exact B.tmp j t' d ht' hdj hdd fun hfj => hnf ((hf j).2 hfj)
      · exact fun j hj => B.flt j ((hf j).1 hj)
      · exact fun i j hi hj => B.inj i j ((hf i).1 hi) ((hf j).1 hj)
  · have hst := G.stay hk ha hw
    have hu : ∀ i, UI cx.Γ ts S (k + 1) i ↔ UI cx.Γ ts S k i := fun i => by
      constructor
      · rintro ⟨u1, u2, u3⟩
        have : i ≠ k := fun e => by subst e; exact hw u1
        exact ⟨u1, u2, by omega⟩
      · rintro ⟨u1, u2, u3⟩
        exact ⟨u1, u2, by omega⟩
    have hf : ∀ j, FlI cx.Γ ts S (k + 1) j ↔ FlI cx.Γ ts S k j := fun j => by
      constructor
      · rintro ⟨u1, u2, u3⟩; exact ⟨u1, u2, by omega⟩
      · rintro ⟨u1, u2, u3⟩
        have : j ≠ k := fun e => by subst e; exact hw u1
        exact ⟨u1, u2, by omega⟩
    refine ⟨H, g, ?_⟩
    refine { hr := B.hr, hN := by rw [hst]; exact B.hN, hD := by rw [hst]; exact B.hD, hG := ?_, fr := ?_, dr := B.dr, le := B.le, szt := B.szt, ext := B.ext, tmp := ?_, ini := B.ini, flt := ?_, inj := ?_ }
    · intro b o ho
      rw [hst, B.hG b o ho]
      simp only [hu]
    · intro i hi
      rw [hst]
      exact B.fr i ((hu i).1 hi)
    · exact fun j t' d ht' hdj hdd hnf => B.tmp j t' d ht' hdj hdd fun hfj => hnf ((hf j).2 hfj)
    · exact fun j hj => B.flt j ((hf j).1 hj)
    · exact fun i j hi hj => B.inj i j ((hf i).1 hi) ((hf j).1 hj)
theorem Body.advTo (G : Reg cx mk nt call ops W ts e0 en h0 hn) (hS : n0 ≤ wS.heap.size) {k : Nat} : ∀ (m : Nat) {H : Hp} {g : Gh}, k + m ≤ ops.length → (∀ i, k ≤ i → i < k + m → ¬ actI cx.Γ ops i) → Body cx n0 nt mk call ts e0 hn gS wS S k H g Bf a w →
    ∃ H' g', Body cx n0 nt mk call ts e0 hn gS wS S (k + m) H' g' Bf a w
  | 0, H, g, _, _, B => ⟨H, g, B⟩
  | m + 1, H, g, hm, ha, B => by
    obtain ⟨H1, g1, B1⟩ := B.advTo G hS m (by omega) fun i h1 h2 => ha i h1 (by omega)
    exact B1.adv (k := k + m) G hS (by omega) (ha _ (by omega) (by omega))
/-- The next act. -/
theorem next_act (Γ : Tys) (ops : List Oper) (k : Nat) : ∀ (m : Nat), k + m = ops.length → ∃ q, k ≤ q ∧ q ≤ ops.length ∧ (∀ i, k ≤ i → i < q → ¬ actI Γ ops i) ∧ (q < ops.length → actI Γ ops q)
  | 0, h => ⟨k, Nat.le_refl _, by omega, fun i h1 h2 => by omega, fun h' => by omega⟩
  | m + 1, h => by
    by_cases ha : actI Γ ops k
    · exact ⟨k, Nat.le_refl _, by omega, fun i h1 h2 => by omega, fun _ => ha⟩
    · obtain ⟨q, h1, h2, h3, h4⟩ := next_act Γ ops (k + 1) m (by omega)
      refine ⟨q, by omega, h2, fun i i1 i2 => ?_, h4⟩
      by_cases hi : i = k
      · rw [hi]; exact ha
      · exact h3 i (by omega) i2
end
end Go.E
end

section
/- E: a region whose order is drawn: one operation. No condition. -/
namespace Go.E
open Go Go.RowKit
theorem dn_set {S : Array Bool} {j i : Nat} (hj : j < S.size) : Dn (S.setIfInBounds j true) i ↔ Dn S i ∨ i = j := by
  unfold Dn
  by_cases h : i = j
  · subst h
    simp [hj]
  · have h' : ¬ j = i := fun e => h e.symm
    simp [Array.getD_eq_getD_getElem?, h, h']
theorem put_tmps (a : Act) (d : Option Tmp) (V : Value) (i : Nat) : (a.put d V).tmps[i]? = if d = some i ∧ i < a.tmps.size then some V else a.tmps[i]? := by
  cases d with
  | none => simp [Act.put]
  | some j =>
    show (a.tmps.setIfInBounds j V)[i]? = _
    rw [Array.getElem?_setIfInBounds]
    by_cases h : j = i
    · subst h
      by_cases h2 : j < a.tmps.size
      · simp [h2]
      · simp [h2]
    · have : ¬ (some j = some i ∧ i < a.tmps.size) := fun e => h (by cases e.1; rfl)
      rw [if_neg h, if_neg this]
section
variable {P : Program} {cx : Ctx} {n0 nt mk : Nat} {call : CallK} {ops : List Oper} {W : List Nat} {ts : List Tc} {e0 en : Env} {h0 hn : Hp} {gS g g' : Gh} {wS w w' : World} {S : Array Bool} {q b0 : Nat} {H : Hp} {Bf : Nat → Nat} {a a' : Act}
/-- Of two operations, one alone makes a temporary. -/
theorem Reg.one (G : Reg cx mk nt call ops W ts e0 en h0 hn) {i j : Nat} {t t' : Tc} {d : Tmp} (hi : ts[i]? = some t) (hj : ts[j]? = some t') (h1 : t.o.dst = some d) (h2 : t'.o.dst = some d) : i = j := by
  obtain ⟨k1, _⟩ := G.tr.at i t hi
  obtain ⟨k2, _⟩ := G.tr.at j t' hj
  rcases Nat.lt_trichotomy i j with h | h | h
  · exact absurd h2 (G.st.dst i j t.o t'.o d h k1 k2 h1)
  · exact h
  · exact absurd h1 (G.st.dst j i t'.o t.o d h k2 k1 h2)
/-- What an operation that may be done looks at. -/
theorem Body.env (G : Reg cx mk nt call ops W ts e0 en h0 hn) (F : Fr cx ops W S q b0) (B : Body cx n0 nt mk call ts e0 hn gS wS S q H g Bf a w) {j : Nat} {t : Tc} (ht : ts[j]? = some t) (hj : ¬ Dn S j) (hw : ∀ i, wt W j i = true → Dn S i) :
    ∃ es : Env, (∀ i, i ∈ looksT ops t.o → es.get mk i = t.e.get mk i) ∧ ER g mk es a.tmps := by
  obtain ⟨es, hes⟩ := Env.some_of mk t.e (looksT ops t.o)
  refine ⟨es, fun i hi => by rw [hes, if_pos hi], fun i v hv => ?_⟩
  rw [hes] at hv
  by_cases hi : i ∈ looksT ops t.o
  · rw [if_pos hi] at hv
    obtain ⟨k1, _⟩ := G.tr.at j t ht
    have hjl : j < ts.length := (List.getElem?_eq_some_iff.1 ht).1
    rw [← eAt_at (en := en) ht] at hv
    by_cases hex : ∃ (j' : Nat) (t' : Tc), ts[j']? = some t' ∧ t'.o.dst = some i
    · obtain ⟨j', t', h1, h2⟩ := hex
      obtain ⟨k2, _⟩ := G.tr.at j' t' h1
      rcases Nat.lt_trichotomy j' j with hlt | heq | hgt
      · have hd := hw j' (G.st.fwd j' j t'.o t.o i hlt k2 k1 h2 hi)
        have hm := G.tr.made h1 h2 j (by omega) hlt fun i' t'' a1 a2 a3 a4 => by
          have := G.one h1 a3 h2 a4
          omega
        rw [hm] at hv
        cases hv
        refine B.tmp j' t' i h1 hd h2 fun hfl => ?_
        -- it is none that was made ahead of its turn
        obtain ⟨f1, f2, f3⟩ := hfl
        have hjn := newW_lt G f1
        have hq : q < ops.length := by omega
        obtain ⟨qa, qn⟩ := F.qa hq
        have hne : q ≠ j' := fun e => newI_not_act (newW_newI G f1) (by rw [← e]; exact qa)
        rcases G.st.flo q j' t'.o (by omega) qa (newW_newI G f1) k2 with h | h
        · exact qn (F.dn j' hjn f2 q h)
        · exact qn (hw q (h i h2 j t.o k1 hi))
      · subst heq
        rw [ht] at h1
        cases h1
        rw [G.tr.old j' (by omega) fun i' t'' a1 a2 a3 => by
          have := G.one ht a2 h2 a3
          omega] at hv
        refine B.ini i (fun j'' t'' a1 a2 a3 => ?_) v hv
        have := G.one ht a1 h2 a3
        subst this
        exact hj a2
      · have hwt := G.st.bwd j j' t.o t'.o i hgt k1 k2 h2 hi
        rw [G.tr.old j (by omega) fun i' t'' a1 a2 a3 => by
          have := G.one h1 a2 h2 a3
          omega] at hv
        refine B.ini i (fun j'' t'' a1 a2 a3 => ?_) v hv
        have := G.one h1 a1 h2 a3
        subst this
        exact hj (F.dn j' (by rw [← G.len]; exact (List.getElem?_eq_some_iff.1 h1).1) a2 j hwt)
    · rw [G.tr.old j (by omega) fun i' t'' a1 a2 a3 => hex ⟨i', t'', a2, a3⟩] at hv
      exact B.ini i (fun j'' t'' a1 a2 a3 => hex ⟨j'', t'', a1, a3⟩) v hv
  · rw [if_neg hi] at hv; cases hv
/-- One more that is done, and is no act. -/
theorem Fr.done (F : Fr cx ops W S q b0) {j : Nat} (hj : j < ops.length) (ha : ¬ actI cx.Γ ops j) (hw : ∀ i, wt W j i = true → Dn S i) : Fr cx ops W (S.setIfInBounds j true) q b0 := by
  have hjs : j < S.size := by rw [F.sz]; exact hj
  refine ⟨by simp [F.sz], fun i hi hd k hk => ?_, F.qn, fun hq => ⟨(F.qa hq).1, fun hd => ?_⟩, fun i h1 h2 => (dn_set hjs).2 (.inl (F.qd i h1 h2)), F.b0q, F.seg, F.b0a⟩
  · rw [dn_set hjs] at hd ⊢
    rcases hd with hd | rfl
    · exact .inl (F.dn i hi hd k hk)
    · exact .inl (hw k hk)
  · rw [dn_set hjs] at hd
    rcases hd with hd | rfl
    · exact (F.qa hq).2 hd
    · exact ha (F.qa hq).1
/-- Temporaries, when operation j has made its own. -/
theorem Body.puts (G : Reg cx mk nt call ops W ts e0 en h0 hn) (B : Body cx n0 nt mk call ts e0 hn gS wS S q H g Bf a w) {j : Nat} {t : Tc} (ht : ts[j]? = some t) (hjs : j < S.size) {V : Value} {ds : List Deferred} (hle : g.Le g') {S' : Array Bool} (hS' : S' = S.setIfInBounds j true) {q' : Nat}
    (ha' : a' = ({ a with defers := ds } : Act).put t.o.dst V) (hv : ¬ FlI cx.Γ ts S' q' j → VR g' t.v V) (hf : ∀ i, i ≠ j → FlI cx.Γ ts S q i → FlI cx.Γ ts S' q' i) :
    (∀ (i : Nat) (t' : Tc) (d : Tmp), ts[i]? = some t' → Dn S' i → t'.o.dst = some d → ¬ FlI cx.Γ ts S' q' i → ∃ V, a'.tmps[d]? = some V ∧ VR g' t'.v V) ∧
    (∀ d, (∀ (i : Nat) (t' : Tc), ts[i]? = some t' → Dn S' i → t'.o.dst ≠ some d) → ∀ v, e0.get mk d = some v → ∃ V, a'.tmps[d]? = some V ∧ VR g' v V) ∧
    (∀ (i : Nat) (t' : Tc) (d : Tmp), i ≠ j → ts[i]? = some t' → t'.o.dst = some d → a'.tmps[d]? = a.tmps[d]?) ∧ (∀ d, t.o.dst = some d → a'.tmps[d]? = some V) ∧ nt ≤ a'.tmps.size := by
  subst hS' ha'
  obtain ⟨k1, _⟩ := G.tr.at j t ht
  have hin : ∀ d, t.o.dst = some d → d < a.tmps.size := fun d hd => Nat.lt_of_lt_of_le (G.dl t.o (List.mem_of_getElem? k1) d hd) B.szt
  have hoth : ∀ (i : Nat) (t' : Tc) (d : Tmp), i ≠ j → ts[i]? = some t' → t'.o.dst = some d → (({ a with defers := ds } : Act).put t.o.dst V).tmps[d]? = a.tmps[d]? := by
    intro i t' d hij hi hd
    rw [put_tmps, if_neg]
    rintro ⟨h1, _⟩
    exact hij (G.one hi ht hd h1)
  have hown : ∀ d, t.o.dst = some d → (({ a with defers := ds } : Act).put t.o.dst V).tmps[d]? = some V := by
    intro d hd
    rw [put_tmps, if_pos ⟨hd, hin d hd⟩]
  refine ⟨fun i t' d hi hdn hd hnf => ?_, fun d hno v hv' => ?_, hoth, hown, by rw [put_size]; exact B.szt⟩
  · by_cases hij : i = j
    · subst hij
      rw [ht] at hi
      cases hi
      exact ⟨V, hown d hd, hv hnf⟩
    · rw [hoth i t' d hij hi hd]
      rw [dn_set hjs] at hdn
      have hdn : Dn S i := hdn.resolve_right hij
      obtain ⟨V', v1, v2⟩ := B.tmp i t' d hi hdn hd fun hfl => hnf (hf i hij hfl)
      exact ⟨V', v1, v2.mono hle⟩
  · have h1 : t.o.dst ≠ some d := hno j t ht ((dn_set hjs).2 (.inr rfl))
    rw [put_tmps, if_neg fun e => h1 e.1]
    obtain ⟨V', v1, v2⟩ := B.ini d (fun i t' hi hdn => hno i t' hi ((dn_set hjs).2 (.inl hdn))) v hv'
    exact ⟨V', v1, v2.mono hle⟩
/-- An operation that leaves memory as it is. -/
theorem Body.still (G : Reg cx mk nt call ops W ts e0 en h0 hn) (B : Body cx n0 nt mk call ts e0 hn gS wS S q H g Bf a w) {j : Nat} {t : Tc} (ht : ts[j]? = some t) (hjs : j < S.size) (hnw : ¬ newW cx.Γ ts j) {V : Value} (hv : VR g t.v V) :
    Body cx n0 nt mk call ts e0 hn gS wS (S.setIfInBounds j true) q H g Bf (a.put t.o.dst V) w := by
  have hu : ∀ i, UI cx.Γ ts (S.setIfInBounds j true) q i ↔ UI cx.Γ ts S q i := fun i => by
    unfold UI
    rw [dn_set hjs]
    constructor
    · rintro ⟨h1, h2, h3⟩; exact ⟨h1, fun h => h2 (.inl h), h3⟩
    · rintro ⟨h1, h2, h3⟩
      exact ⟨h1, fun h => h.elim h2 fun e => by subst e; exact hnw h1, h3⟩
  have hf : ∀ i, FlI cx.Γ ts (S.setIfInBounds j true) q i ↔ FlI cx.Γ ts S q i := fun i => by
    unfold FlI
    rw [dn_set hjs]
    constructor
    · rintro ⟨h1, h2, h3⟩; exact ⟨h1, h2.resolve_right fun e => by subst e; exact hnw h1, h3⟩
    · rintro ⟨h1, h2, h3⟩; exact ⟨h1, .inl h2, h3⟩
  obtain ⟨p1, p2, p3, _, p5⟩ := B.puts (a' := a.put t.o.dst V) (ds := a.defers) (q' := q) G ht hjs (Gh.Le.refl g) rfl rfl (fun _ => hv) (fun i _ hi => (hf i).2 hi)
  refine { hr := B.hr, hN := B.hN, hD := B.hD, hG := ?_, fr := ?_, dr := by rw [put_defers]; exact B.dr, le := B.le, szt := p5, ext := B.ext, tmp := p1, ini := p2, flt := ?_, inj := ?_ }
  · intro b o ho
    rw [B.hG b o ho]
    simp only [hu]
  · exact fun i hi => B.fr i ((hu i).1 hi)
  · intro i hi
    have hi' := (hf i).1 hi
    have hij : i ≠ j := fun e => by subst e; exact hnw hi'.1
    exact (B.flt i hi').mono (.refl g) (Nat.le_refl _) rfl (fun b o hb => ⟨b, o, hb⟩) fun t' d h1 h2 => p3 i t' d hij h1 h2
  · exact fun i i' hi hi' => B.inj i i' ((hf i).1 hi) ((hf i').1 hi')
/-- Blocks of the machine's that nobody was told of. -/
theorem HR.bigger {cx : Ctx} {g : Gh} {h : Hp} {w : World} {n0 : Nat} (H : HR cx g h w n0) (O : Obj) : HR cx g h (w.alloc O) n0 := by
  have hlt : ∀ b B, blk g b = some B → B < w.heap.size := fun b _ hb => by
    unfold blk at hb
    cases hm : g.μ b with
    | none => rw [hm] at hb; cases hb
    | some p => rw [hm] at hb; cases hb; exact H.lt b p.1 p.2 hm
  exact ⟨fun b o hb => (H.obj b o hb).keep (.refl g) fun B hB => Below.heap_alloc w O B (hlt b B hB), H.sep, H.old, fun b B o hb => by
    have := H.lt b B o hb
    simp only [World.size_alloc]
    omega, H.dom, H.glb, H.base.alloc rfl O⟩
/-- A new block in its turn. -/
theorem Body.newIn (G : Reg cx mk nt call ops W ts e0 en h0 hn) (F : Fr cx ops W S q b0) (B : Body cx n0 nt mk call ts e0 hn gS wS S q H g Bf a w) {j : Nat} {t : Tc} (ht : ts[j]? = some t) (hj : ¬ Dn S j) (hnw : newW cx.Γ ts j) (hjq : j < q) {ob : RO} {val : Ps → RV} {O : Obj} {VAL : Nat → Value} (T : NewT cx mk call ts hn j ob val)
    (hval : ∀ (g' : Gh) (q : Ps) (B' : Nat), g.Le g' → g'.μ q = some (B', 0) → g'.x q = 0 → VR g' (val q) (VAL B')) (hobj : ∀ (g' : Gh) (q : Ps) (B' : Nat) (w' : World), g.Le g' → g'.μ q = some (B', 0) → g'.x q = 0 → w'.heap[B']? = some O → n0 ≤ B' → OR cx g' w' n0 q ob) (hl : ob.live = true) :
    ∃ H' g', Body cx n0 nt mk call ts e0 hn gS wS (S.setIfInBounds j true) q H' g' Bf (a.put t.o.dst (VAL w.heap.size)) (w.alloc O) := by
  have hjl := newW_lt G hnw
  have hjs : j < S.size := by rw [F.sz]; exact hjl
  have hui : UI cx.Γ ts S q j := ⟨hnw, hj, hjq⟩
  obtain ⟨hfresh, hnum⟩ := B.fr j hui
  -- it stands in the segment
  have hb0 : b0 ≤ j := by
    rcases F.b0a with h | ⟨i, h1, h2⟩
    · omega
    · rcases Nat.lt_trichotomy j i with h | h | h
      · have hiq : i < q := by have := F.b0q; omega
        exact absurd (F.dn i (by have := F.qn; omega) (F.qd i hiq h2) j (G.st.act j i h (.inr (newW_newI G hnw)) h2)) hj
      · subst h
        exact absurd h2 (newI_not_act (newW_newI G hnw))
      · omega
  have hseg : ∀ i, j ≤ i → i < q → ¬ actI cx.Γ ops i := fun i h1 h2 => F.seg i (by omega) h2
  -- others lie elsewhere
  have hlt2 : ∀ i, newW cx.Γ ts i → b0 ≤ i → i < j → (pl ts hn i).num < (pl ts hn j).num := by
    intro i hi h1 h2
    obtain ⟨ob', val', T'⟩ := G.newT hi
    have := (G.growTo (k := i + 1) (j - (i + 1)) (by omega) fun k k1 k2 => F.seg k (by omega) (by omega)).1
    rw [T'.n, Ps.num_succ, show i + 1 + (j - (i + 1)) = j by omega] at this
    have : (pl ts hn i).num + 1 ≤ (pl ts hn j).num := this
    omega
  have hlt3 : ∀ i, newW cx.Γ ts i → j < i → i < q → (pl ts hn j).num < (pl ts hn i).num := by
    intro i hi h1 h2
    have := (G.growTo (k := j + 1) (i - (j + 1)) (by have := F.qn; omega) fun k k1 k2 => F.seg k (by omega) (by omega)).1
    rw [T.n, Ps.num_succ, show j + 1 + (i - (j + 1)) = i by omega] at this
    have : (pl ts hn j).num + 1 ≤ (pl ts hn i).num := this
    omega
  have hub0 : ∀ i, UI cx.Γ ts S q i → b0 ≤ i := by
    intro i hi
    rcases F.b0a with h | ⟨k, h1, h2⟩
    · omega
    · rcases Nat.lt_trichotomy i k with h | h | h
      · have hkq : k < q := by have := F.b0q; omega
        exact absurd (F.dn k (by have := F.qn; omega) (F.qd k hkq h2) i (G.st.act i k h (.inr (newW_newI G hi.1)) h2)) hi.2.1
      · subst h
        exact absurd h2 (newI_not_act (newW_newI G hi.1))
      · omega
  have hne : ∀ i, UI cx.Γ ts S q i → i ≠ j → pl ts hn i ≠ pl ts hn j := by
    intro i hi hij e
    rcases Nat.lt_or_gt_of_ne hij with h | h
    · have := hlt2 i hi.1 (hub0 i hi) h
      rw [e] at this
      exact absurd this (Nat.lt_irrefl _)
    · have := hlt3 i hi.1 h hi.2.2
      rw [e] at this
      exact absurd this (Nat.lt_irrefl _)
  have hu : ∀ i, UI cx.Γ ts (S.setIfInBounds j true) q i ↔ UI cx.Γ ts S q i ∧ i ≠ j := fun i => by
    unfold UI
    rw [dn_set hjs]
    constructor
    · rintro ⟨h1, h2, h3⟩; exact ⟨⟨h1, fun h => h2 (.inl h), h3⟩, fun e => h2 (.inr e)⟩
    · rintro ⟨⟨h1, h2, h3⟩, h4⟩; exact ⟨h1, fun h => h.elim h2 h4, h3⟩
  have hf : ∀ i, FlI cx.Γ ts (S.setIfInBounds j true) q i ↔ FlI cx.Γ ts S q i := fun i => by
    unfold FlI
    rw [dn_set hjs]
    constructor
    · rintro ⟨h1, h2, h3⟩; exact ⟨h1, h2.resolve_right fun e => by omega, h3⟩
    · rintro ⟨h1, h2, h3⟩; exact ⟨h1, .inl h2, h3⟩
  obtain ⟨H', hs⟩ := Hp.set_some H (pl ts hn j) ob
  obtain ⟨s1, s2, s3⟩ := Hp.set_ok hs
  have hle : g.Le (g.add (pl ts hn j) w.heap.size 0 0) := Gh.add_le hfresh
  have hμ : (g.add (pl ts hn j) w.heap.size 0 0).μ (pl ts hn j) = some (w.heap.size, 0) := by simp [Gh.add]
  have hx : (g.add (pl ts hn j) w.heap.size 0 0).x (pl ts hn j) = 0 := by simp [Gh.add]
  obtain ⟨r1, r2⟩ := B.hr.alloc_at (O := O) (x := 0) hfresh s1 (by rw [s2, B.hN]; exact hnum) (by rw [s2]; exact Nat.le_refl _) (hobj _ _ _ _ hle hμ hx (by show (w.heap.push O)[w.heap.size]? = _; simp) B.le)
  obtain ⟨p1, p2, p3, _, p5⟩ := B.puts (a' := a.put t.o.dst (VAL w.heap.size)) (ds := a.defers) (q' := q) G ht hjs hle rfl rfl (fun _ => by rw [T.vl t ht]; exact hval _ _ _ hle hμ hx) (fun i _ hi => (hf i).2 hi)
  refine ⟨H', _, { hr := r1, hN := by rw [s2, B.hN], hD := by rw [s3, B.hD], hG := ?_, fr := ?_, dr := by rw [put_defers, s3]; exact B.dr.mono hle, le := Nat.le_trans B.le r2.size, szt := p5, ext := B.ext.trans r2, tmp := p1, ini := p2, flt := ?_, inj := ?_ }⟩
  · intro b o ho
    rw [s1]
    by_cases hb : b = pl ts hn j
    · subst hb
      rw [if_pos rfl]
      have hq : (hAt ts hn q).get (pl ts hn j) = some ob := by
        have h1 : (hAt ts hn (j + 1)).get (pl ts hn j) = some ob := by rw [T.get, if_pos rfl]
        have := (G.growTo (k := j + 1) (q - (j + 1)) (by have := F.qn; omega) fun k k1 k2 => F.seg k (by omega) (by omega)).2.1 _ _ h1 (by rw [T.n, Ps.num_succ]; omega)
        rw [show j + 1 + (q - (j + 1)) = q by omega] at this
        exact this
      rw [hq]
      refine ⟨fun h => ⟨h, fun i hi e => hne i ((hu i).1 hi).1 ((hu i).1 hi).2 e.symm⟩, fun h => h.1⟩
    · rw [if_neg hb, B.hG b o ho]
      constructor
      · rintro ⟨h1, h2⟩; exact ⟨h1, fun i hi => h2 i ((hu i).1 hi).1⟩
      · rintro ⟨h1, h2⟩
        refine ⟨h1, fun i hi => ?_⟩
        by_cases hij : i = j
        · rw [hij]; exact hb
        · exact h2 i ((hu i).2 ⟨hi, hij⟩)
  · intro i hi
    obtain ⟨hi1, hi2⟩ := (hu i).1 hi
    obtain ⟨u1, u2⟩ := B.fr i hi1
    exact ⟨by simp [Gh.add, hne i hi1 hi2, u1], u2⟩
  · intro i hi
    have hi' := (hf i).1 hi
    have hij : i ≠ j := fun e => by have := hi'.2.2; omega
    have hBl : Bf i < w.heap.size := by
      obtain ⟨_, _, _, _, _, _, _, _, _, _, f7, _⟩ := B.flt i hi'
      exact f7
    refine (B.flt i hi').mono hle (by simp) (Below.heap_alloc w O _ hBl) (fun b o hb => ?_) fun t' d h1 h2 => p3 i t' d hij h1 h2
    by_cases hbj : b = pl ts hn j
    · subst hbj
      rw [hμ] at hb
      have := (Prod.mk.inj (Option.some.inj hb)).1
      omega
    · exact ⟨b, o, by simpa [Gh.add, hbj] using hb⟩
  · exact fun i i' hi hi' => B.inj i i' ((hf i).1 hi) ((hf i').1 hi')
/-- A new block ahead of its turn. -/
theorem Body.newEarly (G : Reg cx mk nt call ops W ts e0 en h0 hn) (F : Fr cx ops W S q b0) (B : Body cx n0 nt mk call ts e0 hn gS wS S q H g Bf a w) {j : Nat} {t : Tc} (ht : ts[j]? = some t) (hj : ¬ Dn S j) (hnw : newW cx.Γ ts j) (hjq : q ≤ j) {ob : RO} {val : Ps → RV} {O : Obj} {VAL : Nat → Value} (T : NewT cx mk call ts hn j ob val)
    (hval : ∀ (g' : Gh) (q : Ps) (B' : Nat), g.Le g' → g'.μ q = some (B', 0) → g'.x q = 0 → VR g' (val q) (VAL B')) (hobj : ∀ (g' : Gh) (q : Ps) (B' : Nat) (w' : World), g.Le g' → g'.μ q = some (B', 0) → g'.x q = 0 → w'.heap[B']? = some O → n0 ≤ B' → OR cx g' w' n0 q ob) (hl : ob.live = true) (hanc : ob.anc = []) :
    ∃ Bf', Body cx n0 nt mk call ts e0 hn gS wS (S.setIfInBounds j true) q H g Bf' (a.put t.o.dst (VAL w.heap.size)) (w.alloc O) := by
  have hjl := newW_lt G hnw
  have hjs : j < S.size := by rw [F.sz]; exact hjl
  have hu : ∀ i, UI cx.Γ ts (S.setIfInBounds j true) q i ↔ UI cx.Γ ts S q i := fun i => by
    unfold UI
    rw [dn_set hjs]
    constructor
    · rintro ⟨h1, h2, h3⟩; exact ⟨h1, fun h => h2 (.inl h), h3⟩
    · rintro ⟨h1, h2, h3⟩; exact ⟨h1, fun h => h.elim h2 fun e => by omega, h3⟩
  have hf : ∀ i, FlI cx.Γ ts (S.setIfInBounds j true) q i ↔ FlI cx.Γ ts S q i ∨ i = j := fun i => by
    unfold FlI
    rw [dn_set hjs]
    constructor
    · rintro ⟨h1, h2, h3⟩; exact h2.imp (fun h2 => ⟨h1, h2, h3⟩) id
    · rintro (⟨h1, h2, h3⟩ | rfl)
      · exact ⟨h1, .inl h2, h3⟩
      · exact ⟨hnw, .inr rfl, hjq⟩
  have hBl : ∀ i, FlI cx.Γ ts S q i → Bf i < w.heap.size := fun i hi => by
    obtain ⟨_, _, _, _, _, _, _, _, _, _, f7, _⟩ := B.flt i hi
    exact f7
  have hfj : FlI cx.Γ ts (S.setIfInBounds j true) q j := (hf j).2 (.inr rfl)
  have hnf : ∀ i, FlI cx.Γ ts S q i → i ≠ j := fun i hi e => by subst e; exact hj hi.2.1
  obtain ⟨p1, p2, p3, p4, p5⟩ := B.puts (a' := a.put t.o.dst (VAL w.heap.size)) (ds := a.defers) (q' := q) G ht hjs (Gh.Le.refl g) rfl rfl (fun h => absurd hfj h) (fun i _ hi => (hf i).2 (.inl hi))
  have hext : Ext n0 g w g (w.alloc O) := ⟨.refl g, by simp, fun b B' o hb => .inl ⟨b, o, hb⟩, fun B' hB' _ => Below.heap_alloc w O B' hB', rfl, rfl, rfl⟩
  refine ⟨fun i => if i = j then w.heap.size else Bf i, { hr := B.hr.bigger O, hN := B.hN, hD := B.hD, hG := ?_, fr := fun i hi => B.fr i ((hu i).1 hi), dr := by rw [put_defers]; exact B.dr, le := Nat.le_trans B.le hext.size, szt := p5, ext := B.ext.trans hext, tmp := p1, ini := p2, flt := ?_, inj := ?_ }⟩
  · intro b o ho
    rw [B.hG b o ho]
    simp only [hu]
  · intro i hi
    rcases (hf i).1 hi with hi' | rfl
    · have hij := hnf i hi'
      rw [if_neg hij]
      exact (B.flt i hi').mono (.refl g) (by simp) (Below.heap_alloc w O _ (hBl i hi')) (fun b o hb => ⟨b, o, hb⟩) fun t' d h1 h2 => p3 i t' d hij h1 h2
    · rw [if_pos rfl]
      refine ⟨ob, val, O, VAL, T, hval, hobj, hl, hanc, B.ext.size, by simp, by show (w.heap.push O)[w.heap.size]? = _; simp, fun b o hb => absurd (B.hr.lt b _ o hb) (Nat.lt_irrefl _), fun t' d h1 h2 => ?_⟩
      rw [ht] at h1
      cases h1
      exact p4 d h2
  · intro i i' hi hi' he
    rcases (hf i).1 hi with h1 | h1 <;> rcases (hf i').1 hi' with h2 | h2
    · rw [if_neg (hnf i h1), if_neg (hnf i' h2)] at he
      exact B.inj i i' h1 h2 he
    · rw [if_neg (hnf i h1), if_pos h2] at he
      exact absurd he (Nat.ne_of_lt (hBl i h1))
    · rw [if_pos h1, if_neg (hnf i' h2)] at he
      exact absurd he.symm (Nat.ne_of_lt (hBl i' h2))
    · exact h1.trans h2.symm
end
end Go.E
end

section
/- E: a region whose order is drawn. No condition. -/
namespace Go.E
open Go Go.RowKit
theorem count_set : ∀ {l : List Bool} {j : Nat}, l[j]? = some false → ((l.set j true).filter (fun b => !b)).length + 1 = (l.filter (fun b => !b)).length
  | [], _, h => by simp at h
  | a :: l, 0, h => by
    simp at h
    subst h
    simp
  | a :: l, j + 1, h => by
    have ih := count_set (l := l) (j := j) (by simpa using h)
    cases a <;> simp at ih ⊢ <;> omega
theorem find_le {p : Nat → Bool} {n d k : Nat} (hk : k < n) (hp : p k = true) : findN p n d ≤ k := by
  unfold findN
  cases h : (List.range n).find? p with
  | none =>
    rw [List.find?_eq_none] at h
    exact absurd hp (h k (List.mem_range.2 hk))
  | some x =>
    obtain ⟨_, as, bs, h1, h2⟩ := List.find?_eq_some_iff_append.1 h
    show x ≤ k
    rcases Nat.lt_or_ge k x with hlt | hge
    · exfalso
      have hsort : List.Pairwise (· < ·) (as ++ x :: bs) := by rw [← h1]; exact List.pairwise_lt_range
      have hmem : k ∈ as ++ x :: bs := by rw [← h1]; exact List.mem_range.2 hk
      rw [List.mem_append, List.mem_cons] at hmem
      rcases hmem with hm | hm | hm
      · have := h2 k hm
        rw [hp] at this
        cases this
      · omega
      · have := (List.pairwise_append.1 hsort).2.1
        have := (List.pairwise_cons.1 this).1 k hm
        omega
    · exact hge
theorem find_before {p : Nat → Bool} {n d k : Nat} (hk : k < findN p n d) (hn : k < n) : p k = false := by
  cases h : p k with
  | false => rfl
  | true =>
    have := find_le (d := d) hn h
    omega
theorem find_le_d {p : Nat → Bool} {n : Nat} : findN p n n ≤ n := by
  unfold findN
  cases h : (List.range n).find? p with
  | none => exact Nat.le_refl _
  | some x => exact Nat.le_of_lt (List.mem_range.1 (List.mem_of_find?_eq_some h))
theorem binds_any (e : Edge) : Region.binds .any e = binds_ e := by
  unfold Region.binds binds_
  cases e.ground <;> rfl
section
variable {P : Program} {cx : Ctx} {n0 nt mk : Nat} {call : CallK} {A : Array Oper} {W : List Nat} {ts : List Tc} {e0 en : Env} {h0 hn : Hp} {gS g g' : Gh} {wS w w' : World} {S : Array Bool} {q b0 : Nat} {H : Hp} {Bf : Nat → Nat} {a a' : Act} {F : Fence}
theorem wp_value {o : Oper} {V : Value} {K : Act → World → Prop} {Q : Exit → Act → World → Prop} (hF : WideF F) (hnd : ∀ c, o.op ≠ .defer c) (hr : (execOp a.eval o).run P w = .ok (.value V) w') (hK : K (a.put o.dst V) w') : o.wpIn F 0 P a w K Q := by
  refine ⟨fun f _ => hF.fn f, ?_⟩
  rw [Oper.semAt_eq _ _ _ hnd, hr]
  exact hK
/-- Is an operation that may be done wanted? -/
theorem wanted_ok {e es : Env} {o : Oper} {b : Bool} (h : wants mk A.toList e o = some b) (hes : ∀ i, i ∈ looksT A.toList o → es.get mk i = e.get mk i) (he : ER g mk es a.tmps) : Region.wanted o (yielded A a.tmps) = b := by
  unfold Go.E.wants at h
  unfold Region.wanted
  cases hg : o.guard with
  | none => rw [hg] at h; cases h; rfl
  | some gw =>
    obtain ⟨j, want⟩ := gw
    rw [hg] at h
    obtain ⟨q, h1, h2⟩ := bnd_inv (show bnd (guardB mk A.toList e j) (fun q => some (q == some want)) = some b from h)
    have h3 : guardB mk A.toList es j = some q := by
      obtain ⟨o', k1, k2⟩ := bnd_inv h1
      obtain ⟨d, k3, k4⟩ := bnd_inv k2
      show bnd (at_ A.toList j) (fun o => bnd o.dst fun d => bnd (es.get mk d) fun v => match v with
        | .bool b => some (some b)
        | .tup [] => some none
        | _ => none) = some q
      rw [k1, bnd_mk, k3, bnd_mk, hes d]
      · exact k4
      · unfold looksT
        rw [hg]
        rw [at_eq] at k1
        simp only [k1, k3]
        simp
    have := guard_ok he h3
    cases h2
    simp only [this]
/-- The act whose turn it is. -/
theorem Body.actDone (G : Reg cx mk nt call A.toList W ts e0 en h0 hn) (F : Fr cx A.toList W S q b0) (B : Body cx n0 nt mk call ts e0 hn gS wS S q H g Bf a w) (hS : n0 ≤ wS.heap.size) {t : Tc} (ht : ts[q]? = some t) (hj : ¬ Dn S q) (ha : actI cx.Γ A.toList q) (hw : ∀ i, wt W q i = true → Dn S i)
    {V : Value} {ds : List Deferred} (hx : Ext n0 g w g' w') (hr : HR cx g' (hAt ts hn (q + 1)) w' n0) (hv : VR g' t.v V) (hd : DR g' (hAt ts hn (q + 1)).df ds) :
    ∃ q' H' g'', Fr cx A.toList W (S.setIfInBounds q true) q' (q + 1) ∧ Body cx n0 nt mk call ts e0 hn gS wS (S.setIfInBounds q true) q' H' g'' Bf (({ a with defers := ds } : Act).put t.o.dst V) w' := by
  have hql : q < A.toList.length := by rw [← G.len]; exact (List.getElem?_eq_some_iff.1 ht).1
  have hqs : q < S.size := by rw [F.sz]; exact hql
  have hnone : ∀ i, ¬ UI cx.Γ ts (S.setIfInBounds q true) (q + 1) i := by
    rintro i ⟨h1, h2, h3⟩
    rw [dn_set hqs] at h2
    have hne : i ≠ q := fun e => h2 (.inr e)
    exact h2 (.inl (hw i (G.st.act i q (by omega) (.inr (newW_newI G h1)) ha)))
  have hf : ∀ i, FlI cx.Γ ts (S.setIfInBounds q true) (q + 1) i ↔ FlI cx.Γ ts S q i := fun i => by
    unfold FlI
    rw [dn_set hqs]
    constructor
    · rintro ⟨h1, h2, h3⟩; exact ⟨h1, h2.resolve_right fun e => by omega, by omega⟩
    · rintro ⟨h1, h2, h3⟩
      have : i ≠ q := fun e => by subst e; exact newI_not_act (newW_newI G h1) ha
      exact ⟨h1, .inl h2, by omega⟩
  obtain ⟨p1, p2, p3, _, p5⟩ := B.puts (a' := ({ a with defers := ds } : Act).put t.o.dst V) (ds := ds) (q' := q + 1) G ht hqs hx.le rfl rfl (fun _ => hv) (fun i _ hi => (hf i).2 hi)
  have B1 : Body cx n0 nt mk call ts e0 hn gS wS (S.setIfInBounds q true) (q + 1) (hAt ts hn (q + 1)) g' Bf (({ a with defers := ds } : Act).put t.o.dst V) w' := by
    refine { hr := hr, hN := rfl, hD := rfl, hG := fun b o _ => ⟨fun h => ⟨h, fun i hi => absurd hi (hnone i)⟩, fun h => h.1⟩, fr := fun i hi => absurd hi (hnone i), dr := by rw [put_defers]; exact hd, le := Nat.le_trans B.le hx.size, szt := p5, ext := B.ext.trans hx, tmp := p1, ini := p2, flt := ?_, inj := fun i i' hi hi' => B.inj i i' ((hf i).1 hi) ((hf i').1 hi') }
    intro i hi
    have hi' := (hf i).1 hi
    have hij : i ≠ q := fun e => by subst e; exact newI_not_act (newW_newI G hi'.1) ha
    obtain ⟨_, _, _, _, _, _, _, _, _, _, f7, _, f9, _⟩ := B.flt i hi'
    refine (B.flt i hi').mono hx.le hx.size (hx.keep _ f7 (.inr f9)) (fun b o hb => ?_) fun t' d h1 h2 => p3 i t' d hij h1 h2
    rcases hx.new b _ o hb with h | h
    · exact h
    · omega
  obtain ⟨q', n1, n2, n3, n4⟩ := next_act cx.Γ A.toList (q + 1) (A.toList.length - (q + 1)) (by omega)
  obtain ⟨H', g'', B2⟩ := B1.advTo (k := q + 1) G hS (q' - (q + 1)) (by omega) (fun i h1 h2 => n3 i h1 (by omega))
  rw [show q + 1 + (q' - (q + 1)) = q' by omega] at B2
  refine ⟨q', H', g'', ⟨by simp [F.sz], fun i hi hdn k hk => ?_, n2, fun hq' => ⟨n4 hq', fun hdn => ?_⟩, fun i hi hai => ?_, n1, n3, .inr ⟨q, rfl, ha⟩⟩, B2⟩
  · rw [dn_set hqs] at hdn ⊢
    rcases hdn with hdn | rfl
    · exact .inl (F.dn i hi hdn k hk)
    · exact .inl (hw k hk)
  · rw [dn_set hqs] at hdn
    rcases hdn with hdn | hdn
    · exact hj (F.dn q' hq' hdn q (G.st.act q q' (by omega) (.inl ha) (n4 hq')))
    · omega
  · rw [dn_set hqs]
    rcases Nat.lt_trichotomy i q with h | h | h
    · exact .inl (F.qd i h hai)
    · exact .inr h
    · exact absurd hai (n3 i (by omega) hi)
/-- What a reader reads. -/
theorem Body.reads (G : Reg cx mk nt call A.toList W ts e0 en h0 hn) (F : Fr cx A.toList W S q b0) (B : Body cx n0 nt mk call ts e0 hn gS wS S q H g Bf a w) (htop : ∀ b o, (hAt ts hn b0).get b = some o → o ≠ .dead → b.num < (hAt ts hn b0).n.num)
    {j : Nat} {t : Tc} (ht : ts[j]? = some t) (htw : t.w = true) (hc : clsOf cx.Γ t.o.op = .reads) (hj : ¬ Dn S j) (hw : ∀ i, wt W j i = true → Dn S i) : stepO (R := Out) t.o.op cx mk call t.e H out1 = some ⟨t.v, H⟩ := by
  obtain ⟨k1, _⟩ := G.tr.at j t ht
  have hjl : j < A.toList.length := (List.getElem?_eq_some_iff.1 k1).1
  obtain ⟨X, hX⟩ := readO_ok (mk := mk) (call := call) (e := t.e) hc
  -- all that acts, or makes blocks, ahead of 'lo' is done
  have hlo : ∀ i, i < loOf cx.Γ A.toList W j → actI cx.Γ A.toList i ∨ newI cx.Γ A.toList i → Dn S i := by
    intro i hi hai
    have hil : i < A.toList.length := by
      rcases hai with ⟨o, h1, _⟩ | ⟨o, h1, _⟩ <;> exact (List.getElem?_eq_some_iff.1 h1).1
    have := find_before hi hil
    obtain ⟨o, h1, h2⟩ : ∃ o, A.toList[i]? = some o ∧ isAN cx.Γ o = true := by
      rcases hai with ⟨o, h1, h2⟩ | ⟨o, h1, h2⟩
      · exact ⟨o, h1, by unfold isAN; rw [h2]; rfl⟩
      · exact ⟨o, h1, by unfold isAN; rw [h2, Bool.or_true]⟩
    rw [h1] at this
    rw [Bool.or_eq_false_iff] at this
    have h3 : (isAN cx.Γ o && !(wt W j i)) = false := this.2
    rw [h2] at h3
    exact hw i (by simpa using h3)
  have hloj : loOf cx.Γ A.toList W j ≤ j := find_le hjl (by rw [nbeq_eq]; simp)
  have hloq : loOf cx.Γ A.toList W j ≤ q := by
    rcases Nat.lt_or_ge q (loOf cx.Γ A.toList W j) with h | h
    · have hq : q < A.toList.length := by omega
      exact absurd (hlo q h (.inl (F.qa hq).1)) (F.qa hq).2
    · exact h
  have hhi : q ≤ hiOf cx.Γ A.toList W j := by
    rcases Nat.lt_or_ge (hiOf cx.Γ A.toList W j) q with h | h
    · exfalso
      have hhl : hiOf cx.Γ A.toList W j < A.toList.length := by have := F.qn; omega
      have hp : ∃ o, A.toList[hiOf cx.Γ A.toList W j]? = some o ∧ isActs cx.Γ o = true ∧ wt W (hiOf cx.Γ A.toList W j) j = true := by
        have : ∀ (p : Nat → Bool) (n : Nat), findN p n n < n → p (findN p n n) = true := by
          intro p n
          unfold findN
          cases hf : (List.range n).find? p with
          | none => intro h; exact absurd h (Nat.lt_irrefl _)
          | some x => intro _; exact List.find?_some hf
        have := this _ _ hhl
        change Option.rec false (fun b => isActs cx.Γ b && wt W (hiOf cx.Γ A.toList W j) j) A.toList[hiOf cx.Γ A.toList W j]? = true at this
        obtain ⟨o, ho⟩ : ∃ o, A.toList[hiOf cx.Γ A.toList W j]? = some o := ⟨_, List.getElem?_eq_getElem hhl⟩
        rw [ho] at this
        simp only [Bool.and_eq_true] at this
        exact ⟨o, ho, this⟩
      obtain ⟨o, o1, o2, o3⟩ := hp
      exact hj (F.dn _ hhl (F.qd _ h ⟨o, o1, o2⟩) j o3)
    · exact h
  -- the memory to be read in
  obtain ⟨k, hk1, hk2, hk3, hk4⟩ : ∃ k, b0 ≤ k ∧ k ≤ q ∧ (k = loOf cx.Γ A.toList W j ∨ (loOf cx.Γ A.toList W j < k ∧ k ≤ hiOf cx.Γ A.toList W j ∧ kAct cx.Γ A.toList k = true)) ∧ ∀ i, UI cx.Γ ts S q i → k ≤ i := by
    rcases Nat.lt_or_ge (loOf cx.Γ A.toList W j) b0 with h | h
    · refine ⟨b0, Nat.le_refl _, F.b0q, .inr ⟨h, Nat.le_trans F.b0q hhi, ?_⟩, fun i hi => ?_⟩
      · rcases F.b0a with h1 | ⟨i, rfl, o, h1, h2⟩
        · omega
        · show Option.rec false (isActs cx.Γ) A.toList[i]? = true
          rw [h1]
          exact h2
      · rcases F.b0a with h1 | ⟨k, h1, h2⟩
        · omega
        · rcases Nat.lt_trichotomy i k with h3 | h3 | h3
          · have hkq : k < q := by have := F.b0q; omega
            exact absurd (F.dn k (by have := F.qn; omega) (F.qd k hkq h2) i (G.st.act i k h3 (.inr (newW_newI G hi.1)) h2)) hi.2.1
          · subst h3
            exact absurd h2 (newI_not_act (newW_newI G hi.1))
          · omega
    · refine ⟨_, h, hloq, .inl rfl, fun i hi => ?_⟩
      rcases Nat.lt_or_ge i (loOf cx.Γ A.toList W j) with h3 | h3
      · exact absurd (hlo i h3 (.inr (newW_newI G hi.1))) hi.2.1
      · exact h3
  obtain ⟨h', htry⟩ := G.tries j t ht htw (isReads_iff.2 hc) k (by have := F.qn; omega) hk3
  rw [hX.step (hAt ts hn k)] at htry
  obtain ⟨v, v1, v2⟩ := bnd_inv htry
  have hv : v = t.v := congrArg Out.v (Option.some.inj v2)
  subst hv
  have hsub : Sub (hAt ts hn k) H := by
    intro b o hb ho
    have hg1 := G.growTo (k := b0) (k - b0) (by have := F.qn; omega) fun i h1 h2 => F.seg i h1 (by omega)
    rw [show b0 + (k - b0) = k by omega] at hg1
    have hg2 := G.growTo (k := k) (q - k) (by have := F.qn; omega) fun i h1 h2 => F.seg i (by omega) (by omega)
    rw [show k + (q - k) = q by omega] at hg2
    have hbk : b.num < (hAt ts hn k).n.num := by
      rcases hg1.2.2 b o hb with h | ⟨i, i1, i2, i3, rfl⟩
      · exact Nat.lt_of_lt_of_le (htop b o h ho) hg1.1
      · obtain ⟨ob, val, T⟩ := G.newT i3
        have := (G.growTo (k := i + 1) (k - (i + 1)) (by have := F.qn; omega) fun i' h1 h2 => F.seg i' (by omega) (by omega)).1
        rw [T.n, Ps.num_succ, show i + 1 + (k - (i + 1)) = k by omega] at this
        omega
    rw [B.hG b o ho]
    refine ⟨hg2.2.1 b o hb hbk, fun i hi e => ?_⟩
    have := (G.growTo (k := k) (i - k) (by have := hi.2.2; have := F.qn; omega) fun i' h1 h2 => F.seg i' (by omega) (by have := hi.2.2; omega)).1
    have hki := hk4 i hi
    rw [show k + (i - k) = i by omega] at this
    have : (hAt ts hn k).n.num ≤ (pl ts hn i).num := this
    rw [← e] at this
    omega
  rw [hX.step H, hX.mono _ _ _ hsub v1]
  rfl
end
end Go.E
end

section
/- E: a region whose order is drawn, whole. No condition. -/
namespace Go.E
open Go Go.RowKit
theorem bool_same {x y : Bool} (h : ifB x y (not y) = true) : x = y := by cases x <;> cases y <;> first | rfl | cases h
theorem int_same {x y : Int} (h : eqI x y = true) : x = y := by rw [eqI_eq] at h; simpa using h
theorem nat_same {x y : Nat} (h : Nat.beq x y = true) : x = y := by rw [nbeq_eq] at h; simpa using h
theorem txt_same {x y : List Nat} (h : eqL x y = true) : x = y := by rw [eqL_eq] at h; simpa using h
theorem lls_same : ∀ {x y : List (List Nat)}, eqLL x y = true → x = y
  | [], [], _ => rfl
  | [], _ :: _, h => by cases h
  | _ :: _, [], h => by cases h
  | a :: l, b :: m, h => by
    have h : ifB (eqL a b) (eqLL l m) false = true := h
    cases e : eqL a b with
    | false => rw [e] at h; cases h
    | true => rw [e] at h; rw [txt_same e, lls_same (show eqLL l m = true from h)]
theorem ifB_and {c d : Bool} (h : ifB c d false = true) : c = true ∧ d = true := by cases c <;> cases d <;> first | exact ⟨rfl, rfl⟩ | cases h
theorem sames_eq : ∀ (l m : List RV), sameV.sames l m = true → l = m := by
  intro l
  induction l with
  | nil => intro m h; cases m with
    | nil => rfl
    | cons b m => cases b <;> cases h
  | cons a l ih =>
    intro m h
    cases m with
    | nil => cases a <;> cases h
    | cons b m =>
      cases a <;> cases b <;> first
        | (cases h; done)
        | (rw [ih m h]; done)
        | skip
      case bool.bool x y => obtain ⟨h1, h2⟩ := ifB_and h; rw [bool_same h1, ih m h2]
      case int.int k x k' y =>
        obtain ⟨h1, h2⟩ := ifB_and h
        obtain ⟨h2, h3⟩ := ifB_and h2
        rw [kEq_eq h1, int_same h2, ih m h3]
      case str.str x y => obtain ⟨h1, h2⟩ := ifB_and h; rw [txt_same h1, ih m h2]
      case emp.emp x y => obtain ⟨h1, h2⟩ := ifB_and h; rw [bool_same h1, ih m h2]
      case map.map x y => obtain ⟨h1, h2⟩ := ifB_and h; rw [Ps.same_eq h1, ih m h2]
      case ptr.ptr b1 o1 b2 o2 =>
        obtain ⟨h1, h2⟩ := ifB_and h
        obtain ⟨h2, h3⟩ := ifB_and h2
        rw [Ps.same_eq h1, nat_same h2, ih m h3]
      case opq.opq q1 n1 q2 n2 =>
        obtain ⟨h1, h2⟩ := ifB_and h
        obtain ⟨h2, h3⟩ := ifB_and h2
        rw [nat_same h1, nat_same h2, ih m h3]
      case ops.ops n1 x1 n2 x2 =>
        obtain ⟨h1, h2⟩ := ifB_and h
        obtain ⟨h2, h3⟩ := ifB_and h2
        rw [nat_same h1, lls_same h2, ih m h3]
      case sl.sl b1 o1 l1 c1 t1 b2 o2 l2 c2 t2 =>
        obtain ⟨h1, h2⟩ := ifB_and h
        obtain ⟨h2, h3⟩ := ifB_and h2
        obtain ⟨h3, h4⟩ := ifB_and h3
        obtain ⟨h4, h5⟩ := ifB_and h4
        obtain ⟨h5, h6⟩ := ifB_and h5
        rw [Ps.same_eq h1, nat_same h2, nat_same h3, nat_same h4, bool_same h5, ih m h6]
theorem sameV_eq {a b : RV} (h : sameV a b = true) : a = b := by
  cases a <;> cases b <;> first
    | (cases h; done)
    | rfl
    | skip
  case bool.bool x y => rw [bool_same h]
  case int.int k x k' y =>
    obtain ⟨h1, h2⟩ := ifB_and h
    rw [kEq_eq h1, int_same h2]
  case str.str x y => rw [txt_same h]
  case emp.emp x y => rw [bool_same h]
  case map.map x y => rw [Ps.same_eq h]
  case ptr.ptr b1 o1 b2 o2 =>
    obtain ⟨h1, h2⟩ := ifB_and h
    rw [Ps.same_eq h1, nat_same h2]
  case opq.opq q1 n1 q2 n2 =>
    obtain ⟨h1, h2⟩ := ifB_and h
    rw [nat_same h1, nat_same h2]
  case ops.ops n1 x1 n2 x2 =>
    obtain ⟨h1, h2⟩ := ifB_and h
    rw [nat_same h1, lls_same h2]
  case sl.sl b1 o1 l1 c1 t1 b2 o2 l2 c2 t2 =>
    obtain ⟨h1, h2⟩ := ifB_and h
    obtain ⟨h2, h3⟩ := ifB_and h2
    obtain ⟨h3, h4⟩ := ifB_and h3
    obtain ⟨h4, h5⟩ := ifB_and h4
    rw [Ps.same_eq h1, nat_same h2, nat_same h3, nat_same h4, bool_same h5]
  case agg.agg l m => rw [sames_eq l m h]
section
variable {P : Program} {cx : Ctx} {n0 nt mk : Nat} {call : CallK} {A : Array Oper} {W : List Nat} {ts : List Tc} {e0 en : Env} {h0 hn : Hp} {gS g g' : Gh} {wS w w' : World} {S : Array Bool} {q b0 : Nat} {H : Hp} {Bf : Nat → Nat} {a a' : Act} {F : Fence}
def Top (ts : List Tc) (hn : Hp) (b0 : Nat) : Prop := ∀ b o, (hAt ts hn b0).get b = some o → o ≠ .dead → b.num < (hAt ts hn b0).n.num
theorem drawn_step (hT : TOk P cx.Γ) (hQ : qAll P cx.Γ = true) (hA : AllDo P cx n0 F call) (hF : WideF F) (G : Reg cx mk nt call A.toList W ts e0 en h0 hn) (hS : n0 ≤ wS.heap.size) (Fq : Fr cx A.toList W S q b0) (B : Body cx n0 nt mk call ts e0 hn gS wS S q H g Bf a w) (htop : Top ts hn b0)
    {Q : Exit → Act → World → Prop} {K : Act → World → Prop} {j : Nat} (hj : j ∈ Region.ready .any A S)
    (hK : ∀ q' b0' H' g' Bf' a' w', Fr cx A.toList W (S.setIfInBounds j true) q' b0' → Body cx n0 nt mk call ts e0 hn gS wS (S.setIfInBounds j true) q' H' g' Bf' a' w' → Top ts hn b0' → K a' w') : wpOpIn F 0 P A Q j K a w := by
  obtain ⟨hj1, o, hj2, hj3⟩ := mem_ready.1 hj
  have hjl : j < A.toList.length := by
    have := (Array.getElem?_eq_some_iff.1 hj2).1
    simpa using this
  obtain ⟨t, ht, ht2, k⟩ := G.ex hjl
  rw [Array.getElem?_toList, hj2] at ht2
  obtain rfl := Option.some.inj ht2
  have hjs : j < S.size := by rw [Fq.sz]; exact hjl
  have hnd : ¬ Dn S j := fun h => by unfold Dn at h; rw [hj1] at h; cases h
  have hoj : A.toList[j]? = some t.o := by rw [Array.getElem?_toList]; exact hj2
  have hw : ∀ i, wt W j i = true → Dn S i := by
    intro i hi
    obtain ⟨ed, e1, e2, e3⟩ := (G.wo j t.o hoj).2 i hi
    have h1 := hj3 ed (by simpa using e1) (by rw [binds_any]; exact e2)
    have hd : ed.on < S.size ∧ Dn S ed.on := by
      rcases Nat.lt_or_ge ed.on S.size with h | h
      · exact ⟨h, by unfold Dn; simp [h] at h1 ⊢; exact h1⟩
      · simp [Array.getElem?_eq_none h] at h1
    rcases e3 with rfl | ⟨e3, e4⟩
    · exact hd.2
    · exact Fq.dn ed.on (by rw [← Fq.sz]; exact hd.1) hd.2 i e4
  obtain ⟨es, hes, her⟩ := B.env G Fq ht hnd hw
  have hwant := wanted_ok (a := a) k.wants hes her
  have hndf := G.st.nodef t.o (List.mem_of_getElem? hoj)
  unfold wpOpIn
  simp only [hj2, hwant]
  -- as the evaluator has it, in the temporaries that are known
  have hcong : ∀ {R : Type} (h : Hp) (k : RV → Hp → Option R), stepO t.o.op cx mk call es h k = stepO t.o.op cx mk call t.e h k := fun h k => stepO_congr (fun i hi => hes i (by
    unfold looksT
    rw [List.mem_append]
    exact .inl (List.mem_flatMap.2 ⟨_, hi, by simp [opndT]⟩))) k
  cases htw : t.w with
  | false =>
    rw [if_neg (by simp)]
    obtain ⟨hv, hh⟩ := k.skip htw
    have hnw : ¬ newW cx.Γ ts j := fun ⟨t', h1, h2, _⟩ => by rw [ht] at h1; cases h1; rw [htw] at h2; cases h2
    refine ⟨fun f _ => hF.fn f, ?_⟩
    by_cases ha : actI cx.Γ A.toList j
    · have hjq : j = q := by
        rcases Nat.lt_trichotomy j q with h | h | h
        · exact absurd (Fq.qd j h ha) hnd
        · exact h
        · obtain ⟨qa, qn⟩ := Fq.qa (by omega)
          exact absurd (hw q (G.st.act q j h (.inl qa) ha)) qn
      subst hjq
      have hnone : ∀ i, ¬ UI cx.Γ ts S j i := fun i ⟨h1, h2, h3⟩ => h2 (hw i (G.st.act i j h3 (.inr (newW_newI G h1)) ha))
      have hr : HR cx g (hAt ts hn (j + 1)) w n0 := by
        rw [hh, ← hAt_at (hn := hn) ht]
        exact B.hr.like (fun b o ho hb => (B.hG b o ho).2 ⟨hb, fun i hi => absurd hi (hnone i)⟩) (by rw [B.hN]; exact Nat.le_refl _)
      obtain ⟨q', H', g'', F', B'⟩ := B.actDone G Fq hS ht hnd ha hw (V := undef) (ds := a.defers) (.refl n0 g w) hr (by rw [hv]; exact VR.undef) (by rw [hh, ← hAt_at (hn := hn) ht, ← B.hD]; exact B.dr)
      exact hK q' (j + 1) H' g'' Bf _ _ F' B' fun b o hb ho => hr.top hb ho
    · exact hK q b0 H g Bf _ _ (Fq.done hjl ha hw) (B.still G ht hjs hnw (by rw [hv]; exact VR.undef)) htop
  | true =>
    rw [if_pos rfl]
    have hs := k.step htw (R := Out) out1
    have hnw0 : clsOf cx.Γ t.o.op ≠ .news → ¬ newW cx.Γ ts j := fun hc ⟨t', h1, _, h2⟩ => by rw [ht] at h1; cases h1; exact hc (isNews_iff.1 h2)
    have still : (clsOf cx.Γ t.o.op = .pure ∨ clsOf cx.Γ t.o.op = .reads) → stepO (R := Out) t.o.op cx mk call t.e H out1 = some ⟨t.v, H⟩ → t.o.wpIn F 0 P a w K Q := by
      intro hc hst
      have hne : clsOf cx.Γ t.o.op ≠ .news := by rcases hc with hc | hc <;> rw [hc] <;> simp
      have hna : ¬ actI cx.Γ A.toList j := fun ⟨o', h1, h2⟩ => by
        rw [hoj] at h1
        cases h1
        rw [isActs_iff] at h2
        rcases hc with hc | hc <;> rw [hc] at h2 <;> cases h2
      obtain ⟨v, V, d1, _, d3, d4⟩ := still_ok (P := P) (w := w) (a := a) hT hQ B.hr her B.dr hc (by rw [hcong]; exact hst)
      have hv : v = t.v := congrArg Out.v (Option.some.inj d1)
      subst hv
      exact wp_value hF hndf d3 (hK q b0 H g Bf _ _ (Fq.done hjl hna hw) (B.still G ht hjs (hnw0 hne) d4) htop)
    cases hc : clsOf cx.Γ t.o.op with
    | pure =>
      obtain ⟨X, hX⟩ := pureO_ok (mk := mk) (call := call) (e := t.e) hc
      refine still (.inl hc) ?_
      rw [hX t.h] at hs
      obtain ⟨v, v1, v2⟩ := bnd_inv hs
      have hv : v = t.v := congrArg Out.v (Option.some.inj v2)
      subst hv
      rw [hX H, v1]
      rfl
    | reads => exact still (.inr hc) (B.reads G Fq htop ht htw hc hnd hw)
    | news =>
      have hnw : newW cx.Γ ts j := ⟨t, ht, htw, isNews_iff.2 hc⟩
      obtain ⟨ob, val, T⟩ := G.newT hnw
      obtain ⟨H1, n1, _⟩ := Hp.new_eq H ob
      have hst : stepO (R := Out) t.o.op cx mk call es H out1 = some ⟨val H.n, H1⟩ := by
        rw [hcong, T.op t ht H, n1]
        rfl
      obtain ⟨ob', val', O, VAL, N⟩ := newsM_ok (P := P) (n0 := n0) (w := w) (a := a) hT B.hr her hc hst
      -- the two tell the same block
      have hsame : ob' = ob ∧ val' H.n = val H.n ∧ ∀ p, val' p = val p := by
        have e1 := fun (h : Hp) => (N.step (R := Out) h out1).symm.trans ((hcong h out1).trans (T.op t ht h (R := Out) out1))
        have key : ∀ h : Hp, ob' = ob ∧ val' h.n = val h.n := by
          intro h
          obtain ⟨h1, a1, a2, _⟩ := Hp.new_eq h ob'
          obtain ⟨h2, b1, b2, _⟩ := Hp.new_eq h ob
          have := e1 h
          rw [a1, b1] at this
          have h3 := Option.some.inj this
          have hv := congrArg Out.v h3
          have hh := congrArg Out.h h3
          have hh : h1 = h2 := hh
          refine ⟨?_, hv⟩
          have c1 := a2 h.n
          have c2 := b2 h.n
          rw [if_pos rfl] at c1 c2
          rw [hh, c2] at c1
          exact (Option.some.inj c1).symm
        exact ⟨(key H).1, (key H).2, fun p => (key ⟨.nil, p, []⟩).2⟩
      obtain ⟨rfl, _, hval⟩ := hsame
      have hval' : val' = val := funext hval
      subst hval'
      have hna : ¬ actI cx.Γ A.toList j := newI_not_act (newW_newI G hnw)
      rcases Nat.lt_or_ge j q with hlt | hge
      · obtain ⟨H', g', B'⟩ := B.newIn G Fq ht hnd hnw hlt T N.val N.obj N.live
        exact wp_value hF hndf (N.run w) (hK q b0 H' g' Bf _ _ (Fq.done hjl hna hw) B' htop)
      · obtain ⟨Bf', B'⟩ := B.newEarly G Fq ht hnd hnw hge T N.val N.obj N.live N.anc
        exact wp_value hF hndf (N.run w) (hK q b0 H g Bf' _ _ (Fq.done hjl hna hw) B' htop)
    | acts =>
      have ha : actI cx.Γ A.toList j := ⟨t.o, hoj, isActs_iff.2 hc⟩
      have hjq : j = q := by
        rcases Nat.lt_trichotomy j q with h | h | h
        · exact absurd (Fq.qd j h ha) hnd
        · exact h
        · obtain ⟨qa, qn⟩ := Fq.qa (by omega)
          exact absurd (hw q (G.st.act q j h (.inl qa) ha)) qn
      subst hjq
      have hnone : ∀ i, ¬ UI cx.Γ ts S j i := fun i ⟨h1, h2, h3⟩ => h2 (hw i (G.st.act i j h3 (.inr (newW_newI G h1)) ha))
      have hh := hAt_at (hn := hn) ht
      have hr : HR cx g t.h w n0 := by
        rw [← hh]
        exact B.hr.like (fun b o ho hb => (B.hG b o ho).2 ⟨hb, fun i hi => absurd hi (hnone i)⟩) (by rw [B.hN]; exact Nat.le_refl _)
      have hd : DR g t.h.df a.defers := by rw [← hh, ← B.hD]; exact B.dr
      refine Does.wp hF (.inl hndf) (hA t.o mk g t.h w es a Out _ out1 hr B.le her hd (by rw [hcong]; exact hs)) fun v h' V ds w' d1 _ d3 => ?_
      have hv : v = t.v ∧ h' = hAt ts hn (j + 1) := ⟨congrArg Out.v (Option.some.inj d1), congrArg Out.h (Option.some.inj d1)⟩
      obtain ⟨rfl, rfl⟩ := hv
      obtain ⟨g', x1, x2, x3, x4⟩ := d3
      obtain ⟨q', H', g'', F', B'⟩ := B.actDone G Fq hS ht hnd ha hw x1 x2 x3 x4
      exact hK q' (j + 1) H' g'' Bf _ _ F' B' fun b o hb ho => x2.top hb ho
theorem drawn_end (G : Reg cx mk nt call A.toList W ts e0 en h0 hn) (Fq : Fr cx A.toList W S q b0) (B : Body cx n0 nt mk call ts e0 hn gS wS S q H g Bf a w) (hr : Region.ready .any A S = []) : St cx n0 mk nt g en.over hn a w := by
  have all : ∀ j, j < A.toList.length → Dn S j := by
    intro j
    induction j using Nat.strongRecOn with
    | _ j ih =>
      intro hj
      by_cases h : Dn S j
      · exact h
      · exfalso
        obtain ⟨t, ht, ht2, k⟩ := G.ex hj
        have : j ∈ Region.ready .any A S := by
          rw [mem_ready]
          have hf : S.getD j true = false := by unfold Dn at h; simpa using h
          refine ⟨hf, t.o, by rw [← Array.getElem?_toList]; exact ht2, fun ed he hb => ?_⟩
          rw [binds_any] at hb
          have hwt := (G.wo j t.o ht2).1 ed (by simpa using he) hb
          have hlt := G.st.low ed.on j hj hwt
          have hd := ih ed.on hlt (by omega)
          have hsz : ed.on < S.size := by rw [Fq.sz]; omega
          unfold Dn at hd
          simp [hsz] at hd ⊢
          exact hd
        rw [hr] at this
        cases this
  have hq : q = A.toList.length := by
    rcases Nat.lt_or_ge q A.toList.length with h | h
    · exact absurd (all q h) (Fq.qa h).2
    · have := Fq.qn; omega
  have hnone : ∀ i, ¬ UI cx.Γ ts S q i := fun i ⟨h1, h2, _⟩ => h2 (all i (newW_lt G h1))
  have hnf : ∀ i, ¬ FlI cx.Γ ts S q i := fun i ⟨h1, _, h3⟩ => by have := newW_lt G h1; omega
  have hend : hAt ts hn q = hn := hAt_end (by rw [G.len]; omega)
  refine ⟨?_, B.le, fun i v hv => ?_, ?_, B.szt⟩
  · rw [← hend]
    exact B.hr.like (fun b o ho hb => (B.hG b o ho).2 ⟨hb, fun i hi => absurd hi (hnone i)⟩) (by rw [B.hN]; exact Nat.le_refl _)
  · have hv := Env.over_ok hv
    rw [← eAt_end (ts := ts) (en := en) (Nat.le_refl _)] at hv
    by_cases hex : ∃ (j' : Nat) (t' : Tc), ts[j']? = some t' ∧ t'.o.dst = some i
    · obtain ⟨j', t', h1, h2⟩ := hex
      have hjl := (List.getElem?_eq_some_iff.1 h1).1
      rw [G.tr.made h1 h2 ts.length (Nat.le_refl _) hjl fun i' t'' a1 a2 a3 a4 => by
        have := G.one h1 a3 h2 a4
        omega] at hv
      cases hv
      exact B.tmp j' t' i h1 (all j' (by rw [← G.len]; exact hjl)) h2 (hnf j')
    · rw [G.tr.old ts.length (Nat.le_refl _) fun i' t'' a1 a2 a3 => hex ⟨i', t'', a2, a3⟩] at hv
      exact B.ini i (fun j'' t'' a1 a2 a3 => hex ⟨j'', t'', a1, a3⟩) v hv
  · rw [← hend, ← B.hD]; exact B.dr
theorem drawn_any (hT : TOk P cx.Γ) (hQ : qAll P cx.Γ = true) (hA : AllDo P cx n0 F call) (hF : WideF F) (G : Reg cx mk nt call A.toList W ts e0 en h0 hn) (hS : n0 ≤ wS.heap.size) {Q : Exit → Act → World → Prop}
    (hK : ∀ g' a' w', Ext n0 gS wS g' w' → St cx n0 mk nt g' en.over hn a' w' → Q .normal a' w') : ∀ (fuel : Nat) (S : Array Bool) (q b0 : Nat) (H : Hp) (g : Gh) (Bf : Nat → Nat) (a : Act) (w : World), (S.toList.filter (fun b => !b)).length ≤ fuel →
      Fr cx A.toList W S q b0 → Body cx n0 nt mk call ts e0 hn gS wS S q H g Bf a w → Top ts hn b0 → wpAnyIn F 0 P .any A Q fuel S a w
  | 0, S, q, b0, H, g, Bf, a, w, hfu, Fq, B, _ => by
    have hr : Region.ready .any A S = [] := by
      cases hl : Region.ready .any A S with
      | nil => rfl
      | cons j l =>
        exfalso
        have hj : j ∈ Region.ready .any A S := by rw [hl]; exact List.mem_cons_self
        obtain ⟨hj1, _⟩ := mem_ready.1 hj
        have hlt : j < S.size := by
          rcases Nat.lt_or_ge j S.size with h | h
          · exact h
          · simp [Array.getElem?_eq_none h] at hj1
        have hm : false ∈ S.toList.filter (fun b => !b) := by
          rw [List.mem_filter]
          refine ⟨?_, rfl⟩
          have : S[j] = false := by simpa [hlt] using hj1
          rw [← this]
          simp
        rw [List.length_eq_zero_iff.1 (Nat.le_zero.1 hfu)] at hm
        cases hm
    exact ⟨hr, hK g a w B.ext (drawn_end G Fq B hr)⟩
  | fuel + 1, S, q, b0, H, g, Bf, a, w, hfu, Fq, B, htop => by
    refine ⟨fun hr => hK g a w B.ext (drawn_end G Fq B hr), fun j hj => drawn_step hT hQ hA hF G hS Fq B htop hj fun q' b0' H' g' Bf' a' w' F' B' ht' => ?_⟩
    refine drawn_any hT hQ hA hF G hS hK fuel _ q' b0' H' g' Bf' a' w' ?_ F' B' ht'
    obtain ⟨hj1, _⟩ := mem_ready.1 hj
    have hlt : j < S.size := by
      rcases Nat.lt_or_ge j S.size with h | h
      · exact h
      · simp [Array.getElem?_eq_none h] at hj1
    have hjf : S.toList[j]? = some false := by
      have : S[j] = false := by simpa [hlt] using hj1
      rw [Array.getElem?_toList, Array.getElem?_eq_getElem hlt, this]
    have := count_set hjf
    rw [Array.toList_setIfInBounds]
    omega
theorem reg_of {f : Fin} {n : Nat} (hd : dstsOk n A.toList) (h : runDrawn cx mk call A.toList (waitsOf A.toList []) e0 h0 = some f) : ∃ ts en hn, Reg cx mk n call A.toList (waitsOf A.toList []) ts e0 en h0 hn ∧ f = ⟨.normal, en.over, hn⟩ := by
  unfold runDrawn at h
  obtain ⟨h1, h2⟩ := ifB_none h
  have st := statOk_ok h1
  have wo := waits_ok A.toList st.low
  -- readers that stand alone, and are not to be tried
  have lone : ∀ {ts en hn}, Trace cx mk call A.toList A.toList e0 h0 ts en hn → ∀ (r : Nat) (t : Tc), ts[r]? = some t → t.w = true → onlyR r (ksOf cx.Γ A.toList (waitsOf A.toList []) r) = true → ∀ k, (k = loOf cx.Γ A.toList (waitsOf A.toList []) r ∨ (loOf cx.Γ A.toList (waitsOf A.toList []) r < k ∧ k ≤ hiOf cx.Γ A.toList (waitsOf A.toList []) r ∧ kAct cx.Γ A.toList k = true)) →
      ∃ h', stepO (R := Out) t.o.op cx mk call t.e (hAt ts hn k) out1 = some ⟨t.v, h'⟩ := by
    intro ts en hn T r t ht hw ho k hk
    unfold ksOf at ho
    have hlo : loOf cx.Γ A.toList (waitsOf A.toList []) r = r ∧ (List.range (Nat.succ (hiOf cx.Γ A.toList (waitsOf A.toList []) r))).filter (fun k => Nat.blt (loOf cx.Γ A.toList (waitsOf A.toList []) r) k && kAct cx.Γ A.toList k) = [] := by
      cases hl : (List.range (Nat.succ (hiOf cx.Γ A.toList (waitsOf A.toList []) r))).filter (fun k => Nat.blt (loOf cx.Γ A.toList (waitsOf A.toList []) r) k && kAct cx.Γ A.toList k) with
      | nil => rw [hl] at ho; exact ⟨by simpa [onlyR, nbeq_eq] using ho, rfl⟩
      | cons => rw [hl] at ho; cases ho
    have hkr : k = r := by
      rcases hk with hk | ⟨k1, k2, k3⟩
      · rw [hk]; exact hlo.1
      · exfalso
        have : k ∈ (List.range (Nat.succ (hiOf cx.Γ A.toList (waitsOf A.toList []) r))).filter (fun k => Nat.blt (loOf cx.Γ A.toList (waitsOf A.toList []) r) k && kAct cx.Γ A.toList k) := by
          rw [List.mem_filter, List.mem_range]
          exact ⟨Nat.lt_succ_of_le k2, by rw [k3, Bool.and_true, nblt_eq]; simpa using k1⟩
        rw [hlo.2] at this
        cases this
    subst hkr
    obtain ⟨_, kk⟩ := T.at k t ht
    exact ⟨_, by rw [hAt_at ht]; exact kk.step hw out1⟩
  cases hag : again cx.Γ A.toList (waitsOf A.toList []) with
  | nil =>
    rw [hag] at h2
    obtain ⟨ts, en, hn, T, rfl⟩ := runOps_trace (show runOps cx mk call A.toList A.toList e0 h0 = some f from h2)
    refine ⟨ts, en, hn, ⟨T, st, wo, hd, fun r t ht hw hr k _ hk => lone T r t ht hw ?_ k hk⟩, rfl⟩
    obtain ⟨k1, _⟩ := T.at r t ht
    cases ho : onlyR r (ksOf cx.Γ A.toList (waitsOf A.toList []) r) with
    | true => rfl
    | false =>
      exfalso
      have : (r, ksOf cx.Γ A.toList (waitsOf A.toList []) r) ∈ again cx.Γ A.toList (waitsOf A.toList []) := by
        unfold again
        rw [List.mem_filterMap]
        refine ⟨r, List.mem_range.2 (List.getElem?_eq_some_iff.1 k1).1, ?_⟩
        rw [k1]
        simp only [hr, ho, Bool.not_false, Bool.and_self, ifB_true]
      rw [hag] at this
      cases this
  | cons x l =>
    rw [hag] at h2
    obtain ⟨⟨tr, f'⟩, h3, h4⟩ := bnd_inv (show bnd (trOps cx mk call A.toList A.toList e0 h0 []) (fun r => match r with
      | (ts, f) => ifB (tryAll cx mk call (ts.reverse.map (·.h) ++ [f.h]) ts.reverse (x :: l)) (some f) none) = some f from h2)
    obtain ⟨h5, h6⟩ := ifB_none h4
    cases h6
    obtain ⟨ts, en, hn, T, rfl, rfl⟩ := trOps_trace h3
    rw [List.append_nil, List.reverse_reverse] at h5
    refine ⟨ts, en, hn, ⟨T, st, wo, hd, fun r t ht hw hr k hkn hk => ?_⟩, rfl⟩
    obtain ⟨k1, kk⟩ := T.at r t ht
    cases ho : onlyR r (ksOf cx.Γ A.toList (waitsOf A.toList []) r) with
    | true => exact lone T r t ht hw ho k hk
    | false =>
      have hm : (r, ksOf cx.Γ A.toList (waitsOf A.toList []) r) ∈ again cx.Γ A.toList (waitsOf A.toList []) := by
        unfold again
        rw [List.mem_filterMap]
        refine ⟨r, List.mem_range.2 (List.getElem?_eq_some_iff.1 k1).1, ?_⟩
        rw [k1]
        simp only [hr, ho, Bool.not_false, Bool.and_self, ifB_true]
      rw [hag] at hm
      have h7 := List.all_eq_true.1 h5 _ hm
      simp only [ht, hw, Bool.not_true, Bool.false_or] at h7
      have hkm : k ∈ ksOf cx.Γ A.toList (waitsOf A.toList []) r := by
        unfold ksOf
        rcases hk with hk | ⟨q1, q2, q3⟩
        · rw [hk]; exact List.mem_cons_self
        · refine List.mem_cons_of_mem _ ?_
          rw [List.mem_filter, List.mem_range]
          exact ⟨Nat.lt_succ_of_le q2, by rw [q3, Bool.and_true, nblt_eq]; simpa using q1⟩
      have h8 := List.all_eq_true.1 h7 k hkm
      have hhs : (ts.map (·.h) ++ [hn])[k]? = some (hAt ts hn k) := by
        rcases Nat.lt_or_ge k ts.length with h | h
        · rw [List.getElem?_append_left (by simpa using h), List.getElem?_map]
          obtain ⟨t', ht'⟩ : ∃ t', ts[k]? = some t' := ⟨_, List.getElem?_eq_getElem h⟩
          rw [ht', hAt_at ht']
          rfl
        · have hk' : k = ts.length := by have := T.len; omega
          subst hk'
          rw [hAt_end (Nat.le_refl _), List.getElem?_append_right (by simp)]
          simp
      rw [hhs] at h8
      have h8 : tryIn cx mk call t (hAt ts hn k) = true := h8
      unfold tryIn at h8
      cases hst : stepO t.o.op cx mk call t.e (hAt ts hn k) (fun v _ => some (sameV v t.v)) with
      | none => rw [hst] at h8; cases h8
      | some b =>
        rw [hst] at h8
        have h8 : b = true := h8
        subst h8
        obtain ⟨v, h', q1, q2⟩ := stepO_inv hst
        have hv : v = t.v := sameV_eq (Option.some.inj q1)
        subst hv
        exact ⟨h', q2 out1⟩
end
end Go.E
end

section
/- E: a region whose order is drawn, as code. No condition. -/
namespace Go.E
open Go Go.RowKit
section
variable {P : Program} {cx : Ctx} {n0 mk n : Nat} {ro : Option Ps}
theorem regionD_do {id : Nat} {ops : Array Oper} {call : CallK} (hT : TOk P cx.Γ) (hQ : qAll P cx.Γ = true) (hm : P.follows .mixedOrders = true) (hA : ∀ F, WideF F → AllDo P cx n0 F call) (hd : dstsOk n ops.toList) :
    ExDo P cx n0 mk n ro (runDrawn cx mk call ops.toList (waitsOf ops.toList [])) (.region id ops true) := by
  intro e h f g w a F Q hr hF hr2 S hQ'
  obtain ⟨ts, en, hn, G, rfl⟩ := reg_of hd hr
  refine wpIn_region_any hm ?_
  have hx0 : Ext n0 g w g w.drew := (Ext.refl n0 g w).drew
  have h0 := G.tr.zero
  -- nothing is done
  have hnd : ∀ j, j < ops.toList.length → ¬ Dn (Array.replicate ops.size false) j := fun j hj hd => by
    unfold Dn at hd
    have : j < ops.size := by simpa using hj
    simp [Array.getD_eq_getD_getElem?, this] at hd
  have hlt : ∀ {j t}, ts[j]? = some t → j < ops.toList.length := fun {j t} hj => by rw [← G.len]; exact (List.getElem?_eq_some_iff.1 hj).1
  have hnf : ∀ j, ¬ FlI cx.Γ ts (Array.replicate ops.size false) 0 j := fun j ⟨h1, h2, _⟩ => hnd j (newW_lt G h1) h2
  have B0 : Body cx n0 n mk call ts e hn g w.drew (Array.replicate ops.size false) 0 h g (fun _ => 0) a w.drew := by
    refine { hr := S.hr.drew, hN := by rw [h0.2], hD := by rw [h0.2], hG := fun b o _ => ?_, fr := ?_, dr := S.dr, le := S.le, szt := S.sz, ext := .refl n0 g _, tmp := ?_, ini := ?_, flt := ?_, inj := ?_ }
    · rw [h0.2]
      exact ⟨fun h => ⟨h, fun i hi => absurd hi.2.2 (Nat.not_lt_zero _)⟩, fun h => h.1⟩
    · exact fun i hi => absurd hi.2.2 (Nat.not_lt_zero _)
    · exact fun j t d hj hdn _ _ => absurd hdn (hnd j (hlt hj))
    · exact fun d _ v hv => S.er d v hv
    · exact fun j hj => absurd hj (hnf j)
    · exact fun i j hi _ => absurd hi (hnf i)
  obtain ⟨q, _, q2, q3, q4⟩ := next_act cx.Γ ops.toList 0 ops.toList.length (by omega)
  obtain ⟨H', g', B1⟩ := B0.advTo (k := 0) G (show n0 ≤ w.drew.heap.size from S.le) q (by omega) (fun i h1 h2 => q3 i h1 (by omega))
  rw [Nat.zero_add] at B1
  refine drawn_any (gS := g) (wS := w.drew) hT hQ (hA F hF) hF G (show n0 ≤ w.drew.heap.size from S.le) (fun g'' a' w' x S' => hQ' g'' a' w' (hx0.trans x) S') ops.size _ q 0 H' g' _ a w.drew ?_ ⟨by simp, fun j hj hdn => absurd hdn (hnd j hj), q2, fun hq => ⟨q4 hq, hnd q hq⟩, fun i hi ha => absurd ha (q3 i (Nat.zero_le _) hi), Nat.zero_le _, fun i h1 h2 => q3 i h1 h2, .inl rfl⟩ B1 fun b o hb ho => ?_
  · rw [Array.toList_replicate]
    exact Nat.le_trans (List.length_filter_le _ _) (by simp)
  · rw [h0.2] at hb ⊢
    exact S.hr.top hb ho
end
end Go.E
end

section
/- E: results. No condition. -/
namespace Go.E
open Go Go.RowKit
/-- One result. -/
def resSem (tmps : Array Value) : ResultVar → Sem Value
  | .tmp t => pure (tmps.getD t undef)
  | .cell a t => do loadVar t (← asAddr (tmps.getD a undef))
theorem results_eq (fn : Func) (tmps : Array Value) : results fn tmps = (do
    let vs ← fn.results.mapM (resSem tmps)
    pure (if h : vs.size = 1 then vs[0] else .tuple vs)) := rfl
section
variable {P : Program} {cx : Ctx} {n0 : Nat} {g : Gh} {h : Hp} {w : World} {mk : Nat} {e : Env}
theorem resOf_ok (hT : TOk P cx.Γ) (H : HR cx g h w n0) {tmps : Array Value} (he : ER g mk e tmps) {r : ResultVar} {v : RV} (hr : resOf cx.Γ h mk e r = some v) :
    ∃ V, (resSem tmps r).run P w = .ok V w ∧ VR g v V := by
  have getD : ∀ {i : Nat} {V : Value}, tmps[i]? = some V → tmps.getD i undef = V := fun hi => by rw [Array.getD_eq_getD_getElem?, hi]; rfl
  cases r with
  | tmp t =>
    obtain ⟨V, h1, h2⟩ := he t v hr
    exact ⟨V, by simp only [resSem, getD h1, Sem.run_pure], h2⟩
  | cell a t =>
    obtain ⟨u, h1, h2⟩ := bnd_inv hr
    obtain ⟨U, h3, h4⟩ := he a u h1
    split at h2
    · rename_i b off
      obtain ⟨B, o, m, rfl⟩ := h4.ptr_inv
      obtain ⟨B', o', V, m', k2, k3⟩ := loadV_ok hT H h2
      rw [m] at m'
      cases m'
      refine ⟨V, ?_, k3⟩
      simp only [resSem, getD h3, asAddr, Sem.run_bind, Sem.run_pure, Result.andThen_ok, k2]
    · cases h2
theorem resAll_ok (hT : TOk P cx.Γ) (H : HR cx g h w n0) {tmps : Array Value} (he : ER g mk e tmps) : ∀ {rs : List ResultVar} {l : List RV}, resAll cx.Γ h mk e rs = some l →
    ∃ L, (rs.mapM (resSem tmps)).run P w = .ok L w ∧ VRs g l L
  | [], l, hl => by cases hl; exact ⟨[], by simp, .nil⟩
  | r :: rs, l, hl => by
    obtain ⟨v, h1, h2⟩ := bnd_inv hl
    obtain ⟨q, h3, h4⟩ := bnd_inv h2
    cases h4
    obtain ⟨V, v1, v2⟩ := resOf_ok hT H he h1
    obtain ⟨L, l1, l2⟩ := resAll_ok hT H he h3
    refine ⟨V :: L, ?_, .cons v2 l2⟩
    rw [List.mapM_cons]
    simp only [Sem.run_bind, v1, l1, Result.andThen_ok, Sem.run_pure]
theorem results_ok (hT : TOk P cx.Γ) (H : HR cx g h w n0) {tmps : Array Value} (he : ER g mk e tmps) {fn : Func} {l : List RV} (hl : resAll cx.Γ h mk e fn.results.toList = some l) :
    ∃ V, (results fn tmps).run P w = .ok V w ∧ VR g (single l) V := by
  obtain ⟨L, l1, l2⟩ := resAll_ok (P := P) hT H he hl
  rw [results_eq, Array.mapM_eq_mapM_toList]
  simp only [Sem.run_bind, Sem.run_map, l1, Result.andThen_ok, Sem.run_pure]
  cases l2 with
  | nil => exact ⟨_, rfl, .tup .nil⟩
  | cons h1 hs =>
    cases hs with
    | nil => exact ⟨_, rfl, h1⟩
    | cons h2 hs => exact ⟨_, rfl, .tup (.cons h1 (.cons h2 hs))⟩
end
end Go.E
end

section
/- E: a block that is let go, and changes. No condition. -/
namespace Go.E
open Go Go.RowKit
/-- A live block is let go; the machine's block may be whatever from now on, if no elder one lies there. -/
theorem HR.kill {cx : Ctx} {g : Gh} {h h' : Hp} {w : World} {n0 : Nat} (H : HR cx g h w n0) {b : Ps} {o : RO} {B k : Nat} {O : Obj} (hb : h.get b = some o) (hl : o.live = true) (ha : o.anc = []) (hμ : g.μ b = some (B, k)) (hB : n0 ≤ B)
    (hget : ∀ q, h'.get q = if q = b then some .dead else h.get q) (hn : h'.n = h.n) : HR cx g h' (w.putObj B O) n0 ∧ Ext n0 g w g (w.putObj B O) := by
  have hbk : blk g b = some B := by simp [blk, hμ]
  have hno : ∀ c oc, h.get c = some oc → c ≠ b → oc ≠ .dead → blk g c ≠ some B := by
    intro c oc hc hne hd he
    cases hlc : oc.live with
    | true => exact H.sep c b oc o hc hb hlc hl hne (he.trans hbk.symm)
    | false =>
      cases oc with
      | old cs ty =>
        have := H.old b c o cs ty hb hl hc (hbk.trans he.symm)
        rw [ha] at this
        cases this
      | dead => exact hd rfl
      | _ => cases hlc
  have of : ∀ {c oc}, h'.get c = some oc → oc ≠ .dead → c ≠ b ∧ h.get c = some oc := fun {c oc} hc hd => by
    rw [hget] at hc
    by_cases hq : c = b
    · rw [if_pos hq] at hc; cases hc; exact absurd rfl hd
    · rw [if_neg hq] at hc; exact ⟨hq, hc⟩
  have lv : ∀ {oc : RO}, oc.live = true → oc ≠ .dead := fun {oc} hl e => by rw [e] at hl; cases hl
  refine ⟨⟨fun c oc hc => ?_, fun c c' o1 o2 h1 h2 l1 l2 hne => H.sep c c' o1 o2 (of h1 (lv l1)).2 (of h2 (lv l2)).2 l1 l2 hne, fun c c' o1 cs ty h1 l1 h2 he => H.old c c' o1 cs ty (of h1 (lv l1)).2 l1 (of h2 (by simp)).2 he, fun c C k' hc => by simp only [World.putObj_size]; exact H.lt c C k' hc, by rw [hn]; exact H.dom, H.glb, H.base.put hB O⟩,
    ⟨.refl g, by simp, fun c C k' hc => .inl ⟨c, k', hc⟩, fun C _ hne => World.putObj_heap_other fun e => by
      rcases hne with hne | hne
      · omega
      · exact hne b k (by rw [e]; exact hμ), rfl, rfl, rfl⟩⟩
  by_cases hd : oc = .dead
  · rw [hd]; trivial
  · obtain ⟨e1, e2⟩ := of hc hd
    exact (H.obj c oc e2).keep (.refl g) fun C hC => World.putObj_heap_other fun e => hno c oc e2 e1 hd (by rw [hC, e])
section
variable {P : Program} {cx : Ctx} {n0 : Nat} {F : Fence} {call : RV → List RV → Hp → Option Hp}
/-- Deferred calls that are made at a function's end. -/
def DfDo (P : Program) (cx : Ctx) (n0 : Nat) (dcall : RV → List RV → Hp → Option Hp) : Prop := ∀ (F : Fence) (f : FuncId) (a c xs : List RV) (A C X : Array Value) (g : Gh) (h h' : Hp) (w : World), WideF F → HR cx g h w n0 → n0 ≤ w.heap.size → VRs g a A.toList → VRs g c C.toList → VRs g xs X.toList → dcall (.fn f a c) xs h = some h' →
  ∃ f' args, (invoke (.fn (.func f) C) (A ++ X)).run P w = .ok (.enter f' args) w ∧ CallsDIn F 0 P f' args .returning w fun en u w' => ∃ V, en = .returned V ∧ u = .returning ∧ ∃ g', Ext n0 g w g' w' ∧ HR cx g' h' w' n0
theorem leaves_do (hD : DfDo P cx n0 call) (hF : WideF F) {fn : Func} {tmps : Array Value} {Rr : Ending → World → Prop} : ∀ {df : List DF} {ds : List Deferred} {h h' : Hp} {g : Gh} {w : World}, DR g df ds → HR cx g h w n0 → n0 ≤ w.heap.size → runDf call df h = some h' →
    (∀ g' w', Ext n0 g w g' w' → HR cx g' h' w' n0 → ∃ v, (results fn tmps).run P w' = .ok v w' ∧ Rr (.returned v) w') → LeavesInM F 0 P fn tmps Rr ds .returning w
  | _, _, h, h', g, w, .nil, H, _, hr, hk => by
    cases hr
    exact hk g w (.refl n0 g w) H
  | _, _, h, h', g, w, .call (f := f) (a := a) (c := c) (xs := xs) (l := l) ha hc hx hs, H, h0, hr, hk => by
    obtain ⟨h2, h3, h4⟩ := bnd_inv (show bnd (call (.fn f a c) xs h) (fun h => runDf call l h) = some h' from hr)
    obtain ⟨f', args, i1, i2⟩ := hD F _ _ _ _ _ _ _ g h h2 w hF H h0 ha hc hx h3
    refine ⟨by simp, .inr ⟨fun hs => (by rw [hF.depth] at hs; cases hs), _, _, f', args, rfl, i1, fun _ _ => hF.fn _, ?_⟩⟩
    obtain ⟨j1, j2⟩ := i2
    refine ⟨j1, fun c cs hm hr => ?_⟩
    obtain ⟨e, u', w', fr, ⟨V, rfl, rfl, g', x1, x2⟩, k2⟩ := j2 c cs hm hr
    exact ⟨_, _, w', fr, leaves_do hD hF (hs.mono x1.le) x2 (Nat.le_trans h0 x1.size) h4 fun g'' w'' x3 x4 => hk g'' w'' (x1.trans x3) x4, k2⟩
  | _, _, h, h', g, w, .mark (d := d) (D := DD) (l := l) hμ hs, H, h0, hr, hk => by
    obtain ⟨o, h1, h2⟩ := bnd_inv (show bnd (h.get d) (fun o => ifB (isDfd o) (bnd (h.set d .dead) fun h => runDf call l h) none) = some h' from hr)
    obtain ⟨h3, h4⟩ := ifB_none h2
    obtain ⟨h5, h6, h7⟩ := bnd_inv h4
    have ho : o = .dfd := by cases o <;> first | rfl | cases h3
    subst ho
    obtain ⟨D, d1, d2, d3⟩ := H.obj d _ h1
    rw [hμ] at d1
    obtain rfl : DD = D := (Prod.mk.inj (Option.some.inj d1)).1
    obtain ⟨b1, b2, b3⟩ := Hp.set_ok h6
    obtain ⟨x1, x2⟩ := H.kill (O := .deferred none) h1 rfl rfl hμ d2 b1 b2
    refine ⟨by simp, .inl ⟨DD, w.putObj DD (.deferred none), rfl, ?_, leaves_do hD hF hs x1 (Nat.le_trans h0 x2.size) h7 fun g'' w'' x3 x4 => hk g'' w'' (x2.trans x3) x4⟩⟩
    unfold Instr.takeDeferred
    have hg : (getObj DD).run P w = .ok (.deferred (some [])) w := by simp [getObj, Sem.run, d3]
    simp only [Sem.run_bind, hg, Result.andThen_ok]
    have hset : (setObj DD (.deferred none)).run P w = .ok () (w.putObj DD (.deferred none)) := by simp [setObj, Sem.run, d3, World.putObj]
    simp only [hset, Result.andThen_ok, Sem.run_pure]
end
end Go.E
end

section
/- E: calls of functions. No condition. -/
namespace Go.E
open Go Go.RowKit
section
variable {P : Program} {cx : Ctx} {n0 : Nat} {F : Fence} {mk : Nat}
theorem HR.withDf {g : Gh} {h : Hp} {w : World} (H : HR cx g h w n0) (d : List DF) : HR cx g (h.withDf d) w n0 :=
  ⟨fun b o hb => H.obj b o (by simpa using hb), fun b b' o o' h1 h2 => H.sep b b' o o' (by simpa using h1) (by simpa using h2), fun b b' o cs ty h1 l1 h2 => H.old b b' o cs ty (by simpa using h1) l1 (by simpa using h2), H.lt, fun b p hp => by rw [Hp.n_withDf]; exact H.dom b p hp, H.glb, H.base⟩
theorem setArgs_ok {g : Gh} : ∀ {xs : List RV} {i : Nat} {e e' : Env} {tmps : Array Value}, setArgs mk xs i e = some e' → ER g mk e tmps → (∀ j v, xs[j]? = some v → ∃ V, tmps[i + j]? = some V ∧ VR g v V) → ER g mk e' tmps
  | [], i, e, e', tmps, h, he, _ => by cases h; exact he
  | x :: xs, i, e, e', tmps, h, he, hx => by
    obtain ⟨e1, h1, h2⟩ := bnd_inv (show bnd (e.put mk i x) (fun e => setArgs mk xs (Nat.succ i) e) = some e' from h)
    refine setArgs_ok h2 (fun k u hu => ?_) fun j v hj => by
      have := hx (j + 1) v (by simpa using hj)
      rwa [show i + (j + 1) = i.succ + j by omega] at this
    rw [Env.put_ok h1] at hu
    by_cases hk : k = i
    · subst hk
      rw [if_pos rfl] at hu
      cases hu
      exact hx 0 _ rfl
    · rw [if_neg hk] at hu
      exact he k u hu
theorem empty_ER (g : Gh) (tmps : Array Value) : ER g mk ⟨[], .nil⟩ tmps := fun i v hv => by
  have hv : ifB (bit mk i) ((Tr.nil : Tr RV).get (toPs i)) (assoc [] i) = some v := hv
  cases hb : bit mk i <;> rw [hb] at hv <;> cases hv
/-- A call of a function that has a text. -/
theorem callF_do (hT : TOk P cx.Γ) {ex : ExecK} (hD : DfDo P cx n0 (dcallF cx ex)) (hF : WideF F) (hro : F.round = none) {f : FuncId} {fn : Func} {code : Code} (hf : P.funcs[f]? = some fn) (hb : fn.body = some code) (hex : ExDo P cx n0 mk fn.ntmps none (ex f mk none code) code)
    {xs : List RV} {XS : Array Value} {g : Gh} {h h' : Hp} {v : RV} {w : World} {ds : List Deferred} (H : HR cx g h w n0) (h0 : n0 ≤ w.heap.size) (hd : DR g h.df ds) (hx : VRs g xs XS.toList) (hc : callF cx ex f fn mk xs h = some ⟨v, h'⟩) :
    CallsIn F 0 P f XS w fun en w'' => ∃ V, en = .returned V ∧ Post cx n0 g w h' v V ds w'' := by
  unfold callF at hc
  rw [hb] at hc
  obtain ⟨e, h1, h2⟩ := bnd_inv hc
  obtain ⟨⟨x, e1, h1'⟩, h3, h4⟩ := bnd_inv h2
  refine callsIn_of_wp_marks hf hb (hF.fn f) ?_ hro
  have hER : ER g mk e.over (XS ++ Array.replicate (fn.ntmps - XS.size) undef) := fun i u hu => setArgs_ok h1 (empty_ER g _) (fun j u hj => by
    obtain ⟨V, v1, v2⟩ := hx.at hj
    rw [Array.getElem?_toList] at v1
    refine ⟨V, ?_, v2⟩
    have hlt := (Array.getElem?_eq_some_iff.1 v1).1
    rw [Nat.zero_add, Array.getElem?_append_left hlt]
    exact v1) i u (Env.over_ok hu)
  refine hex e.over (h.withDf []) ⟨x, e1, h1'⟩ g w _ F _ h3 hF hro ⟨H.withDf [], h0, hER, by rw [Hp.df_withDf]; exact .nil, by simp; omega⟩ fun g' a' w' x1 S' => ?_
  have fin : retF cx mk (dcallF cx ex) fn h.df e1 h1' = some ⟨v, h'⟩ → LeavesInM F 0 P fn a'.tmps (fun en w'' => ∃ V, en = .returned V ∧ Post cx n0 g w h' v V ds w'') a'.defers .returning w' := fun hr => by
    obtain ⟨h2', k1, k2⟩ := bnd_inv hr
    obtain ⟨l, k3, k4⟩ := bnd_inv k2
    cases k4
    refine leaves_do hD hF S'.dr S'.hr S'.le k1 fun g'' w'' x2 H2 => ?_
    obtain ⟨V, r1, r2⟩ := results_ok (P := P) hT H2 (S'.er.mono x2.le) k3
    exact ⟨V, r1, V, rfl, g'', x1.trans x2, H2.withDf _, r2, by rw [Hp.df_withDf]; exact hd.mono (x1.trans x2).le⟩
  cases x with
  | normal => exact fin h4
  | ret => exact fin h4
  | exit i => cases h4
  | goto l => cases h4
end
end Go.E
end

section
/- E: calls of values. No condition. -/
namespace Go.E
open Go Go.RowKit
section
variable (P : Program) (cx : Ctx) (n0 : Nat)
/-- The table of functions. -/
def FTab : Prop := ∀ f fn mk, cx.F.get (toPs f) = some (fn, mk) → P.funcs[f]? = some fn ∧ (fn.name == "runtime.NumGoroutine") = false ∧ ∀ code, fn.body = some code → codeOk fn.ntmps code
/-- Methods behind interface values. -/
def MTab : Prop := ∀ t m f, methodOf cx t m = some f → ∀ (a : Addr) (w : World), (method (P.types.size + Made.depth) t (.pointer (some a)) m).run P w = .ok (f, .pointer (some a)) w
/-- What is known of functions. -/
def KnownOk : Prop := ∀ f xs h v, knownV cx f xs h = some v → ∀ (g : Gh) (w : World) (XS : Array Value), HR cx g h w n0 → VRs g xs XS.toList → (∃ fn mk code, cx.F.get (toPs f) = some (fn, mk) ∧ fn.body = some code) ∧ ∃ V, VR g v V ∧ Calls P f XS w fun en w' => en = .returned V ∧ Below w.heap.size w w'
structure CallOk (call : CallK) : Prop where
  goes : ∀ (F : Fence) (f : RV) (xs : List RV) (FV : Value) (XS : Array Value) (g : Gh) (h h' : Hp) (v : RV) (w : World) (ds : List Deferred), WideF F → HR cx g h w n0 → n0 ≤ w.heap.size → DR g h.df ds → VR g f FV → VRs g xs XS.toList → call f xs h = some ⟨v, h'⟩ →
    ∃ d, (Deferred.ofValue FV XS).run P w = .ok d w ∧ Goes F P ds (Post cx n0 g w h' v) ((invoke d.target d.args).run P w)
  enter : ∀ (F : Fence) (f : FuncId) (a c xs : List RV) (A C X : Array Value) (g : Gh) (h h' : Hp) (v : RV) (w : World) (ds : List Deferred), WideF F → HR cx g h w n0 → n0 ≤ w.heap.size → DR g h.df ds → VRs g a A.toList → VRs g c C.toList → VRs g xs X.toList → textFn cx (.fn f a c) = true → call (.fn f a c) xs h = some ⟨v, h'⟩ →
    ∃ args, (invoke (.fn (.func f) C) (A ++ X)).run P w = .ok (.enter f args) w ∧ CallsIn F 0 P f args w fun en w'' => ∃ V, en = .returned V ∧ Post cx n0 g w h' v V ds w''
/-- Code of functions of the table. -/
def ExOk (ex : ExecK) : Prop := ∀ (me : FuncId) (fn : Func) (mk : Nat) (ro : Option Ps) (c : Code), cx.F.get (toPs me) = some (fn, mk) → codeOk fn.ntmps c → ExDo P cx n0 mk fn.ntmps ro (ex me mk ro c) c
end
section
variable {P : Program} {cx : Ctx} {n0 : Nat} {F : Fence} {ex : ExecK}
theorem callsIn_plain {f : FuncId} {args : Array Value} {w : World} {R : Ending → World → Prop} (h : CallsIn F.plain 0 P f args w R) : CallsIn F 0 P f args w R := h
theorem WideF.plain (h : WideF F) : WideF F.plain := ⟨h.fn, h.depth, h.alive⟩
theorem callsIn_of_calls (hF : WideF F) {f : FuncId} {args : Array Value} {w : World} {R : Ending → World → Prop} (h : Calls P f args w R) : CallsIn F 0 P f args w R := by
  refine callsIn_plain ?_
  rw [hF.eq]
  exact callsIn_wide.2 h
theorem HR.later {g : Gh} {h : Hp} {w w' : World} (H : HR cx g h w n0) (hb : Below w.heap.size w w') : HR cx g h w' n0 := by
  have hlt : ∀ b B, blk g b = some B → B < w.heap.size := fun b _ hb => by
    unfold blk at hb
    cases hm : g.μ b with
    | none => rw [hm] at hb; cases hb
    | some p => rw [hm] at hb; cases hb; exact H.lt b p.1 p.2 hm
  exact ⟨fun b o hb' => (H.obj b o hb').keep (.refl g) fun B hB => hb.block B (hlt b B hB), H.sep, H.old, fun b B o hb' => Nat.lt_of_lt_of_le (H.lt b B o hb') hb.size, H.dom, H.glb,
    H.base.step rfl ⟨hb.os, hb.tape, hb.output, hb.size, fun k hk => hb.block k (Nat.lt_of_lt_of_le hk H.base.n0le)⟩⟩
theorem Ext.later {g : Gh} {w w' : World} (hb : Below w.heap.size w w') : Ext n0 g w g w' :=
  ⟨.refl g, hb.size, fun b B o h => .inl ⟨b, o, h⟩, fun B hB _ => hb.block B hB, hb.os, hb.tape, hb.output⟩
theorem callFunc_enter (hTab : FTab P cx) {f : FuncId} {fn : Func} {mk : Nat} {code : Code} (hf : cx.F.get (toPs f) = some (fn, mk)) (hb : fn.body = some code) (args : Array Value) (w : World) : (callFunc f args).run P w = .ok (.enter f args) w := by
  obtain ⟨h1, h2, _⟩ := hTab f fn mk hf
  unfold callFunc
  simp only [Sem.run_bind, run_program, Result.andThen_ok, h1, h2, Bool.false_eq_true, if_false, hb, Option.isNone_some, Sem.run_pure]
/-- A deferred call. -/
theorem dcall_do (hT : TOk P cx.Γ) (hTab : FTab P cx) (hE : ExOk P cx n0 ex) : DfDo P cx n0 (dcallF cx ex) := by
  intro F f a c xs A C X g h h' w hF H h0 ha hc hx hcall
  obtain ⟨l1, h1, h2⟩ := bnd_inv (show bnd (appS xs c) _ = some h' from hcall)
  rw [appS_eq] at h1
  cases h1
  obtain ⟨l2, h3, h4⟩ := bnd_inv h2
  rw [appS_eq] at h3
  cases h3
  obtain ⟨⟨fn, mk⟩, h5, h6⟩ := bnd_inv h4
  obtain ⟨t1, t2, t3⟩ := hTab f fn mk h5
  cases hb : fn.body with
  | none => simp only [hb] at h6; cases h6
  | some code =>
    simp only [hb] at h6
    obtain ⟨e, h7, h8⟩ := bnd_inv h6
    obtain ⟨⟨x, e1, h1'⟩, h9, h10⟩ := bnd_inv h8
    have hXS : VRs g (a ++ (xs ++ c)) ((A ++ X) ++ C).toList := by
      rw [Array.toList_append, Array.toList_append, List.append_assoc]
      exact VRs.append (VRs.append hc hx) ha
    refine ⟨f, (A ++ X) ++ C, ?_, ?_⟩
    · show (callFunc f ((A ++ X) ++ C)).run P w = _
      exact callFunc_enter hTab h5 hb _ w
    · have hER : ER g mk e.over (((A ++ X) ++ C) ++ Array.replicate (fn.ntmps - ((A ++ X) ++ C).size) undef) := fun i u hu => setArgs_ok h7 (empty_ER g _) (fun j u hj => by
        obtain ⟨V, v1, v2⟩ := hXS.at hj
        rw [Array.getElem?_toList] at v1
        refine ⟨V, ?_, v2⟩
        have hlt := (Array.getElem?_eq_some_iff.1 v1).1
        rw [Nat.zero_add, Array.getElem?_append_left hlt]
        exact v1) i u (Env.over_ok hu)
      have key : CallsDIn F.plain 0 P f ((A ++ X) ++ C) .returning w fun en u w' => u = .returning ∧ ∃ V, en = .returned V ∧ ∃ g', Ext n0 g w g' w' ∧ HR cx g' h' w' n0 := by
        refine callsDIn_of_wp t1 hb (hF.fn f) ?_ rfl
        refine hE f fn mk none code h5 (t3 code hb) e.over (h.withDf []) ⟨x, e1, h1'⟩ g w _ F.plain _ h9 hF.plain rfl ⟨H.withDf [], h0, hER, by rw [Hp.df_withDf]; exact .nil, by simp; omega⟩ fun g' a' w' x1 S' => ?_
        have fin : bnd (noDf h1' h.df) (fun h => bnd (resAll cx.Γ h mk e1 fn.results.toList) fun _ => some h) = some h' → a'.defers = [] ∧ ∃ v, (results fn a'.tmps).run P w' = .ok v w' ∧ (FrameMode.returning = .returning ∧ ∃ V, Ending.returned v = .returned V ∧ ∃ g', Ext n0 g w g' w' ∧ HR cx g' h' w' n0) := fun hr => by
          obtain ⟨h2', q1, q2⟩ := bnd_inv hr
          obtain ⟨l, q3, q4⟩ := bnd_inv q2
          cases q4
          have hdf : h1'.df = [] ∧ h' = h1'.withDf h.df := by
            unfold noDf at q1
            split at q1
            · rename_i hd; cases q1; exact ⟨hd, rfl⟩
            · cases q1
          have hdr := S'.dr
          rw [hdf.1] at hdr
          have hH : HR cx g' h' w' n0 := by rw [hdf.2]; exact S'.hr.withDf _
          obtain ⟨V, r1, r2⟩ := results_ok (P := P) hT hH S'.er q3
          refine ⟨?_, V, r1, rfl, V, rfl, g', x1, hH⟩
          generalize hD : a'.defers = D at hdr
          cases hdr
          rfl
        cases x with
        | normal =>
          obtain ⟨q1, v, q2, q3⟩ := fin h10
          exact ⟨q1, v, q2, q3.2⟩
        | ret =>
          obtain ⟨q1, v, q2, q3⟩ := fin h10
          exact ⟨q1, v, q2, q3.2⟩
        | exit i => cases h10
        | goto l => cases h10
      exact CallsDIn.mono (F := F) key fun en u w' ⟨h1, V, h2, h3⟩ => ⟨V, h2, h1, h3⟩
end
end Go.E
end
