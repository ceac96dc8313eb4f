/- AclViews: parts of its proof. No condition. -/
import Derived.Test.YtljeeehimcdmbaaGreatDoorMGreatDoorAc4
import Derived.Test.YtljeeehimcdmbaaGreatDoorMGreatDoorRq
import Derived.Laws.Cover3
section
/- Names and attributes by what they hold; slices.Clone of a name's part and of texts. No condition. -/
namespace Go.Proofs.YtljeeehimcdmbaaGreatDoor
open Go.RowKit Go.Wd Go.Dir Go.Shelf Go.Rq
open Go.Proofs.YtljeeehimcdmbaaGreatDoor.En (strC Vls Vls.none Vls.cells Pr Pr.none Pr.cells Hd.none VQ PQ2 EQ Ent Ent.val Ent.cells behind behind2 behind_ok behind2_ok few29_any hd_at pr_at vls_at ofEnt)

/-- Slices of type sl have elements of type el, of m cells each. -/
def AppT (sl el : TypeId) (m : Nat) : Prop := ∃ (bytes : Nat) (i : TypeInfo) (z : Value), Tryz.prog.underlying sl = some (.slice el) ∧ Tryz.prog.info? el = some i ∧ i.zero = some z ∧ i.size = m ∧ i.bytes = bytes ∧ bytes ≤ 1000 ∧ 0 < m ∧ z.cells.size = m
theorem appT {sl el : TypeId} {m bytes : Nat} {z : Value} (hu : Tryz.prog.underlying sl = some (.slice el)) (h : (Tryz.prog.info? el).map (fun i => (i.zero, i.size, i.bytes)) = some (some z, m, bytes)) (hb : bytes ≤ 1000) (hm : 0 < m) (hz : z.cells.size = m) : AppT sl el m := by
  obtain ⟨i, h1, h2, h3, h4⟩ := info_parts h
  exact ⟨bytes, i, z, hu, h1, h2, h3, h4, hb, hm, hz⟩
/-- Appending to a slice of one's own: any element type. -/
theorem app_runG {sl el : TypeId} {m : Nat} (hT : AppT sl el m)
    (W0 w : World) (ty : TypeId) (v u : Value) (n k : Nat) (xs ys : List Value) (hb : Bel W0 w) (base : Nat) (hB : W0.heap.size ≤ base) (hB2 : base ≤ w.heap.size) (hown : w.ownsRow base el m v n xs) (hu : Sl w u m k ys) (h1 : ∀ y ∈ ys, y.oneCell' = true) (hn : n + k ≤ 1000000) :
    ∃ v' w', (Builtin.append_ #[sl, sl] ty #[v, u]).run Tryz.prog w = .ok v' w' ∧ w'.ownsRow base el m v' (n + k) (xs ++ ys) ∧ w.grownBy w' v.ownBlock ∧ Bel W0 w' := by
  obtain ⟨bytes, i, z, hu', hi, hz0, hz1, hz2, hbz, hm, hzc⟩ := hT
  obtain ⟨hl, a, cap, rfl, hc1, hc2, hc⟩ := hu
  have hrow : ∀ k, v.ownBlock = some k → W0.heap.size ≤ k := fun k e => Nat.le_trans hB (hown.lt k e).1
  cases a with
  | none =>
    obtain rfl : k = 0 := by
      rcases Nat.eq_zero_or_pos k with h | h
      · exact h
      · obtain ⟨b, off, e, _⟩ := hc 0 (Nat.mul_pos h hm)
        cases e
    obtain rfl : ys = [] := List.eq_nil_of_length_eq_zero (by rw [hl, Nat.zero_mul])
    refine ⟨v, w, ?_, by simpa using hown, ⟨rfl, rfl, rfl, Nat.le_refl _, fun _ _ _ => rfl⟩, hb⟩
    rcases hown.2 with ⟨rfl, rfl⟩ | ⟨g, cap', cur, rfl, _, _, hnc, _⟩
    · simp [Builtin.append_, run_underlying hu', sizeOf, typeInfo, hi, Builtin.lenOf, Builtin.firstCells]
    · simp [Builtin.append_, run_underlying hu', sizeOf, typeInfo, hi, Builtin.lenOf, Builtin.firstCells, hnc, storeCells]
  | some ad =>
    have hnews : ∀ j u, ys[j]? = some u → w.cell? (ad.add j) = some u := by
      intro j u hj
      have hj' : j < k * m := by rw [← hl]; exact (List.getElem?_eq_some_iff.1 hj).1
      obtain ⟨b, off, e, hcell⟩ := hc j hj'
      cases e
      have e : (⟨b, off, none⟩ : Addr).add j = ⟨b, off + j, none⟩ := by unfold Addr.add; split <;> simp_all
      rw [e, hcell, List.getD_eq_getElem?_getD, hj]; rfl
    obtain ⟨v', w', hr, h2, h3, h4⟩ := run_append_own (P := Tryz.prog) w base sl ty el i z m bytes hu' hi hz0 hz1 hz2 hzc hm v n xs hown ad k cap ys hl hnews h1 (by simp only [maxLen]; omega) (by
      have : (n + k) * bytes ≤ 1000000 * 1000 := Nat.mul_le_mul hn hbz
      omega) hB2
    exact ⟨v', w', hr, h2, h3, hb.grown h3 hrow⟩
theorem step_appG {sl el : TypeId} {m : Nat} (hT : AppT sl el m)
    {ops : Array Oper} {o : Oper} {a : Act} {K : Act → World → Prop} {Q : Exit → Act → World → Prop} {E : Prop} {w : World} (W0 : World) (base : Nat) (hgd : o.guard = none) (s x : Operand)
    (ho : o.op = .call { callee := .builtin .append, args := #[s, x], argTypes := #[sl, sl] }) (v u : Value) (n k : Nat) (xs ys : List Value) (hs : a.eval s = v) (hx : a.eval x = u)
    (hb : Bel W0 w) (hB : W0.heap.size ≤ base) (hB2 : base ≤ w.heap.size) (hown : w.ownsRow base el m v n xs) (hu : Sl w u m k ys) (h1 : ∀ y ∈ ys, y.oneCell' = true) (hn : n + k ≤ 1000000)
    (h : ∀ v' w', w'.ownsRow base el m v' (n + k) (xs ++ ys) → w.grownBy w' v.ownBlock → Bel W0 w' → K (a.put o.dst v') w') :
    if Region.wanted o (yielded ops a.tmps) = true then Oper.wp Tryz.prog o a w K Q else E := by
  have hw : Region.wanted o (yielded ops a.tmps) = true := by simp [Region.wanted, hgd]
  rw [if_pos hw]
  obtain ⟨v', w', hr, h2, h3, h4⟩ := app_runG hT W0 w o.type v u n k xs ys hb base hB hB2 hown hu h1 hn
  unfold Oper.wp execOp
  simp only [ho, resolve, invoke, builtin, Sem.run_bind, Sem.run_pure, Result.andThen_ok, List.map_toArray, List.map_cons, List.map_nil, hs, hx, hr]
  exact h v' w' h2 h3 h4
theorem wpList_appG {sl el : TypeId} {m : Nat} (hT : AppT sl el m)
    {ops : Array Oper} {rest : List Oper} {o : Oper} {a : Act} {Q : Exit → Act → World → Prop} {w : World} (W0 : World) (base : Nat) (hgd : o.guard = none) (s x : Operand)
    (ho : o.op = .call { callee := .builtin .append, args := #[s, x], argTypes := #[sl, sl] }) (v u : Value) (n k : Nat) (xs ys : List Value) (hs : a.eval s = v) (hx : a.eval x = u)
    (hb : Bel W0 w) (hB : W0.heap.size ≤ base) (hB2 : base ≤ w.heap.size) (hown : w.ownsRow base el m v n xs) (hu : Sl w u m k ys) (h1 : ∀ y ∈ ys, y.oneCell' = true) (hn : n + k ≤ 1000000)
    (h : ∀ v' w', w'.ownsRow base el m v' (n + k) (xs ++ ys) → w.grownBy w' v.ownBlock → Bel W0 w' → wpList Tryz.prog ops Q rest (a.put o.dst v') w') : wpList Tryz.prog ops Q (o :: rest) a w := by
  refine wpList_plain hgd fun K hK => ?_
  obtain ⟨v', w', hr, h2, h3, h4⟩ := app_runG hT W0 w o.type v u n k xs ys hb base hB hB2 hown hu h1 hn
  unfold Oper.wp execOp
  simp only [ho, resolve, invoke, builtin, Sem.run_bind, Sem.run_pure, Result.andThen_ok, List.map_toArray, List.map_cons, List.map_nil, hs, hx, hr]
  exact hK _ _ (h v' w' h2 h3 h4)

/-! Contents. -/
def TxtIs (w : World) (h : Hd) (ss : List ByteArray) : Prop := h.2.1 = ss.length ∧ Sl w h.val 1 ss.length (ss.flatMap strC)
def RdnIs (w : World) (h : Hd) (ps : List Pr) : Prop := h.2.1 = ps.length ∧ Sl w h.val 2 ps.length (ps.flatMap Pr.cells)
def NameIs (w : World) (h : Hd) (ns : List (List Pr)) : Prop := ∃ zs : List (Hd × List Pr), zs.map Prod.snd = ns ∧ h.2.1 = zs.length ∧ Sl w h.val 1 zs.length (zs.flatMap fun z => z.1.cells) ∧ ∀ z ∈ zs, RdnIs w z.1 z.2
abbrev At := ByteArray × List ByteArray
def AttrsIs (w : World) (h : Hd) (l : List At) : Prop := ∃ zs : List (Vls × List ByteArray), zs.map (fun z => (z.1.name, z.2)) = l ∧ h.2.1 = zs.length ∧ Sl w h.val 2 zs.length (zs.flatMap fun z => z.1.cells) ∧ ∀ z ∈ zs, TxtIs w z.1.vs z.2
theorem TxtIs.bel {w w' : World} {h : Hd} {ss} (k : TxtIs w h ss) (hb : Bel w w') : TxtIs w' h ss := ⟨k.1, k.2.bel hb⟩
theorem RdnIs.bel {w w' : World} {h : Hd} {ss} (k : RdnIs w h ss) (hb : Bel w w') : RdnIs w' h ss := ⟨k.1, k.2.bel hb⟩
theorem NameIs.bel {w w' : World} {h : Hd} {ns} (k : NameIs w h ns) (hb : Bel w w') : NameIs w' h ns := by
  obtain ⟨zs, h1, h2, h3, h4⟩ := k
  exact ⟨zs, h1, h2, h3.bel hb, fun z hz => (h4 z hz).bel hb⟩
theorem AttrsIs.bel {w w' : World} {h : Hd} {ns} (k : AttrsIs w h ns) (hb : Bel w w') : AttrsIs w' h ns := by
  obtain ⟨zs, h1, h2, h3, h4⟩ := k
  exact ⟨zs, h1, h2, h3.bel hb, fun z hz => (h4 z hz).bel hb⟩
theorem NameIs.nil (w : World) : NameIs w (Option.none, 0, 0) [] := ⟨[], rfl, rfl, Sl.nil _ _, fun z hz => by cases hz⟩
theorem AttrsIs.nil (w : World) : AttrsIs w (Option.none, 0, 0) [] := ⟨[], rfl, rfl, Sl.nil _ _, fun z hz => by cases hz⟩
theorem name_of {W : World} {h : Hd} (k : HQ Hd.cells PQ2 1 W h) : ∃ ns, NameIs W h ns := by
  obtain ⟨zs, h1, h2, h3⟩ := k
  refine ⟨_, zs.map (fun z => (z, behind2 W z)), rfl, by rw [List.length_map]; exact h1, ?_, ?_⟩
  · rw [List.length_map, List.flatMap_map]; exact h2
  · intro z hz
    obtain ⟨x, hx, rfl⟩ := List.mem_map.1 hz
    exact behind2_ok (h3 x hx)
theorem attrs_of {W : World} {h : Hd} (k : HQ Vls.cells VQ 2 W h) : ∃ l, AttrsIs W h l := by
  obtain ⟨zs, h1, h2, h3⟩ := k
  refine ⟨_, zs.map (fun z => (z, behind W z)), rfl, by rw [List.length_map]; exact h1, ?_, ?_⟩
  · rw [List.length_map, List.flatMap_map]; exact h2
  · intro z hz
    obtain ⟨x, hx, rfl⟩ := List.mem_map.1 hz
    exact behind_ok (h3 x hx)

/-- The block of a slice holds elements of type T. -/
def Typ (w : World) (v : Value) (T : TypeId) : Prop := ∀ b, inBlock v b → ∃ c fz, w.heap[b]? = some (.cells c T fz)
def Other (w : World) (T : TypeId) (row : Option Nat) : Prop := ∀ k, row = some k → ∃ c t fz, w.heap[k]? = some (.cells c t fz) ∧ t ≠ T
theorem Typ.own {w : World} {base m n : Nat} {T : TypeId} {v : Value} {xs : List Value} (h : w.ownsRow base T m v n xs) : Typ w v T := fun b hb => by
  obtain ⟨off, n', c', e⟩ := hb
  rcases h.2 with ⟨rfl, _⟩ | ⟨g, cap, cur, rfl, _, hg, _⟩
  · cases e
  · cases e; exact ⟨_, _, hg⟩
theorem Typ.nil (w : World) (T : TypeId) (n c : Nat) : Typ w (.slice none n c) T := fun b hb => by
  obtain ⟨off, n', c', e⟩ := hb
  cases e
theorem Other.own {w : World} {base m n : Nat} {T T' : TypeId} {v : Value} {xs : List Value} (h : w.ownsRow base T m v n xs) (hne : T ≠ T') : Other w T' v.ownBlock := fun k e => by
  rcases h.2 with ⟨rfl, _⟩ | ⟨g, cap, cur, rfl, _, hg, _⟩
  · cases e
  · cases e; exact ⟨_, _, _, hg, hne⟩
theorem Other.cells {w : World} {k : Nat} {c : Array Value} {t T : TypeId} {fz : Nat × Nat} (h : w.heap[k]? = some (.cells c t fz)) (hne : t ≠ T) : Other w T (some k) := fun j e => by cases e; exact ⟨_, _, _, h, hne⟩
theorem Other.none (w : World) (T : TypeId) : Other w T none := fun j e => by cases e
theorem Typ.ne {w : World} {T : TypeId} {v : Value} {row : Option Nat} (h : Typ w v T) (ho : Other w T row) (b : Nat) (hb : inBlock v b) : some b ≠ row := fun e => by
  obtain ⟨c, fz, h1⟩ := h b hb
  obtain ⟨c', t, fz', h2, hne⟩ := ho b e.symm
  rw [h1] at h2
  cases h2
  exact hne rfl
theorem Typ.grow {w w' : World} {T : TypeId} {v : Value} {row : Option Nat} (h : Typ w v T) (hg : w.grownBy w' row) (ho : Other w T row) : Typ w' v T := fun b hb => by
  obtain ⟨c, fz, h1⟩ := h b hb
  exact ⟨c, fz, (hg.block b (Array.getElem?_eq_some_iff.1 h1).1 (h.ne ho b hb)).trans h1⟩
theorem slGrow {w w' : World} {T : TypeId} {v : Value} {row : Option Nat} {m n : Nat} {cs : List Value} (h : Sl w v m n cs) (ht : Typ w v T) (hg : w.grownBy w' row) (ho : Other w T row) : Sl w' v m n cs :=
  h.kept fun b hb _ hlt => hg.block b hlt (ht.ne ho b hb)
theorem grown_set (w : World) (p : Addr) (u : Value) : w.grownBy (w.setCell p u) (some p.block) := ⟨rfl, rfl, rfl, by simp [World.setCell], fun k _ hne => Below.heap_setCell w p u k (fun e => hne (by rw [e]))⟩
theorem set_o2 {w : World} {k : Nat} {a0 a1 : Value} {t : TypeId} (h : w.heap[k]? = some (.cells #[a0, a1] t)) (u : Value) : (w.setCell ⟨k, 0, none⟩ u).heap[k]? = some (.cells #[u, a1] t) := by
  simp [World.setCell, Array.getElem?_modify, h]
theorem set_o3 {w : World} {k : Nat} {a0 a1 : Value} {t : TypeId} (h : w.heap[k]? = some (.cells #[a0, a1] t)) (u : Value) : (w.setCell ⟨k, 1, none⟩ u).heap[k]? = some (.cells #[a0, u] t) := by
  simp [World.setCell, Array.getElem?_modify, h]

/-! slices.Clone. -/
theorem run_eqlNil {P : Program} (w : World) {t e : TypeId} (h : P.underlying t = some (.slice e)) (a : Option Addr) (l c : Nat) : (binOp .eql t (.slice a l c) (.slice none 0 0)).run P w = .ok (.bool a.isNone) w := by
  simp [binOp, run_equal_slice_nil w t e a l c h]
theorem eqlRd (w : World) (a : Option Addr) (l c : Nat) : (binOp .eql 82 (.slice a l c) (.slice none 0 0)).run Tryz.prog w = .ok (.bool a.isNone) w := run_eqlNil w Tryz.underlying82 a l c
theorem eqlSt (w : World) (a : Option Addr) (l c : Nat) : (binOp .eql 57 (.slice a l c) (.slice none 0 0)).run Tryz.prog w = .ok (.bool a.isNone) w := run_eqlNil w Tryz.underlying57 a l c
attribute [local go_sem] eqlRd eqlSt
theorem own0G {w : World} {base g m : Nat} {el : TypeId} (h : w.heap[g]? = some (.cells #[] el)) (hb : base ≤ g) : w.ownsRow base el m (.slice (some ⟨g, 0, none⟩) 0 0) 0 [] :=
  ⟨by simp, .inr ⟨g, 0, #[], rfl, hb, h, Nat.le_refl _, Nat.zero_le _, by simp, by simp⟩⟩
theorem appRd : AppT 82 85 2 := appT (z := .agg #[.string ⟨#[]⟩, .string ⟨#[]⟩]) (bytes := 32) Tryz.underlying82 (by kernel_rfl) (by decide) (by decide) rfl
theorem appNm : AppT 39 82 1 := appT (z := .slice none 0 0) (bytes := 24) Tryz.underlying39 (by kernel_rfl) (by decide) (by decide) rfl
theorem appVs : AppT 40 59 2 := appT (z := .agg #[.string ⟨#[]⟩, .slice none 0 0]) (bytes := 40) Tryz.underlying40 (by kernel_rfl) (by decide) (by decide) rfl
theorem appSt : AppT 57 9 1 := appT (z := .string ⟨#[]⟩) (bytes := 16) Tryz.underlying57 (by kernel_rfl) (by decide) (by decide) rfl
theorem pr_one : ∀ (ps : List Pr), ∀ u ∈ ps.flatMap Pr.cells, u.oneCell' = true := fun ps u h => by
  obtain ⟨p, _, hu⟩ := List.mem_flatMap.1 h
  simp only [Pr.cells, List.mem_cons, List.mem_nil_iff, or_false] at hu
  rcases hu with rfl | rfl <;> rfl
theorem str_one : ∀ (ss : List ByteArray), ∀ u ∈ ss.flatMap strC, u.oneCell' = true := fun ss u h => by
  obtain ⟨p, _, hu⟩ := List.mem_flatMap.1 h
  simp only [strC, List.mem_cons, List.mem_nil_iff, or_false] at hu
  subst hu; rfl
set_option maxRecDepth 100000 in
set_option maxHeartbeats 1000000 in
theorem cloneR_any (h : Hd) (ps : List Pr) (w : World) (hs : RdnIs w h ps) (hl : ps.length ≤ 1000) :
    Calls Tryz.prog 28 #[h.val] w fun e w' => ∃ h' : Hd, e = .returned h'.val ∧ RdnIs w' h' ps ∧ Bel w w' ∧ Typ w' h'.val 85 := by
  obtain ⟨q, n, cap⟩ := h
  obtain ⟨e0, hs⟩ := id hs
  obtain rfl : n = ps.length := e0
  have Hs := Lib.hid hs
  have Hb := fun w' (h : Bel w w') => Lib.hid (hs.bel h)
  unfold Hd.val
  dsimp only
  cases q with
  | none =>
    obtain ⟨_, a, c, e, h1, h2, hc⟩ := hs
    cases e
    have h0 : ps.length = 0 := by
      rcases Nat.eq_zero_or_pos ps.length with h | h
      · exact h
      · obtain ⟨b, off, e, _⟩ := hc 0 (by omega)
        cases e
    have := List.eq_nil_of_length_eq_zero h0
    subst this
    clear Hs hc
    go_enter Tryz.func28, Tryz.ntmps28
    go_wp2
    go_ret
    exact ⟨(Option.none, 0, 0), rfl, ⟨rfl, Sl.nil _ _⟩, Bel.refl _, Typ.nil _ _ _ _⟩
  | some a =>
    clear hs
    go_enter Tryz.func28, Tryz.ntmps28
    go_wp2_with (at_builtin; refine wpList_appG appRd w w.heap.size rfl _ _ rfl (.slice (some ⟨w.heap.size, 0, none⟩) 0 0) (.slice (some a) ps.length cap) 0 ps.length [] (ps.flatMap Pr.cells) (by rfl) (by rfl) ((Bel.refl _).alloc _) (Nat.le_refl _) (by simp) (own0G (new_at _ _) (Nat.le_refl _)) (Hb _ ((Bel.refl _).alloc _)).out (pr_one ps) (by omega) ?_; intro v' w' hown hgrow hb')
    have hS := Sl.own hown
    have hT := Typ.own hown
    clear hown hgrow Hb Hs
    rw [Nat.zero_add, List.nil_append] at hS
    go_wp2
    go_ret
    obtain ⟨_, a', c', rfl, _⟩ := id hS
    exact ⟨(a', ps.length, c'), rfl, ⟨rfl, hS⟩, hb', hT⟩
set_option maxRecDepth 100000 in
set_option maxHeartbeats 1000000 in
theorem cloneT_any (h : Hd) (ps : List ByteArray) (w : World) (hs : TxtIs w h ps) (hl : ps.length ≤ 1000) :
    Calls Tryz.prog 29 #[h.val] w fun e w' => ∃ h' : Hd, e = .returned h'.val ∧ TxtIs w' h' ps ∧ Bel w w' ∧ Typ w' h'.val 9 := by
  obtain ⟨q, n, cap⟩ := h
  obtain ⟨e0, hs⟩ := id hs
  obtain rfl : n = ps.length := e0
  have Hs := Lib.hid hs
  have Hb := fun w' (h : Bel w w') => Lib.hid (hs.bel h)
  unfold Hd.val
  dsimp only
  cases q with
  | none =>
    obtain ⟨_, a, c, e, h1, h2, hc⟩ := hs
    cases e
    have h0 : ps.length = 0 := by
      rcases Nat.eq_zero_or_pos ps.length with h | h
      · exact h
      · obtain ⟨b, off, e, _⟩ := hc 0 (by omega)
        cases e
    have := List.eq_nil_of_length_eq_zero h0
    subst this
    clear Hs hc
    go_enter Tryz.func29, Tryz.ntmps29
    go_wp2
    go_ret
    exact ⟨(Option.none, 0, 0), rfl, ⟨rfl, Sl.nil _ _⟩, Bel.refl _, Typ.nil _ _ _ _⟩
  | some a =>
    clear hs
    go_enter Tryz.func29, Tryz.ntmps29
    go_wp2_with (at_builtin; refine wpList_appG appSt w w.heap.size rfl _ _ rfl (.slice (some ⟨w.heap.size, 0, none⟩) 0 0) (.slice (some a) ps.length cap) 0 ps.length [] (ps.flatMap strC) (by rfl) (by rfl) ((Bel.refl _).alloc _) (Nat.le_refl _) (by simp) (own0G (new_at _ _) (Nat.le_refl _)) (Hb _ ((Bel.refl _).alloc _)).out (str_one ps) (by omega) ?_; intro v' w' hown hgrow hb')
    have hS := Sl.own hown
    have hT := Typ.own hown
    clear hown hgrow Hb Hs
    rw [Nat.zero_add, List.nil_append] at hS
    go_wp2
    go_ret
    obtain ⟨_, a', c', rfl, _⟩ := id hS
    exact ⟨(a', ps.length, c'), rfl, ⟨rfl, hS⟩, hb', hT⟩
end Go.Proofs.YtljeeehimcdmbaaGreatDoor
end

section
/- The walks of the document's Same over entries: what holds the same is the same. No condition. -/
namespace Go.Proofs.YtljeeehimcdmbaaGreatDoor
open Go.RowKit Go.Wd Go.Dir Go.Shelf Go.Rq
open Go.Proofs.YtljeeehimcdmbaaGreatDoor.En (strC Vls Vls.none Vls.cells Pr Pr.none Pr.cells Hd.none hd_at pr_at vls_at)

theorem hp_at {w : World} {v : Value} {zs : List (Hd × List Pr)} (h : Sl w v 1 zs.length (zs.flatMap fun z => z.1.cells)) (i : Nat) (hi : i < zs.length) :
    ∃ b off cap, v = .slice (some ⟨b, off, none⟩) zs.length cap ∧ w.cell? ⟨b, off + i, none⟩ = some (zs.getD i (Hd.none, [])).1.val := by
  obtain ⟨b, off, cap, h1, h2⟩ := sl_at (f := fun z : Hd × List Pr => z.1.cells) (Hd.none, []) (fun _ => rfl) h (by decide) i hi
  refine ⟨b, off, cap, h1, ?_⟩
  have := h2 0 (by decide)
  rw [Nat.mul_one, Nat.add_zero] at this
  exact this
theorem vp_at {w : World} {v : Value} {zs : List (Vls × List ByteArray)} (h : Sl w v 2 zs.length (zs.flatMap fun z => z.1.cells)) (i : Nat) (hi : i < zs.length) :
    ∃ b off cap, v = .slice (some ⟨b, off, none⟩) zs.length cap ∧ w.cell? ⟨b, off + i * 2, none⟩ = some (.string (zs.getD i (Vls.none, [])).1.name) ∧ w.cell? ⟨b, off + i * 2 + 1, none⟩ = some (zs.getD i (Vls.none, [])).1.vs.val := by
  obtain ⟨b, off, cap, h1, h2⟩ := sl_at (f := fun z : Vls × List ByteArray => z.1.cells) (Vls.none, []) (fun _ => rfl) h (by decide) i hi
  simp only [← Nat.add_assoc] at h2
  exact ⟨b, off, cap, h1, h2 0 (by decide), h2 1 (by decide)⟩
set_option maxRecDepth 100000 in
set_option maxHeartbeats 1000000 in
theorem texts_same (a b : Hd) (ss : List ByteArray) (w : World) (ha : TxtIs w a ss) (hb : TxtIs w b ss) :
    Calls Tryz.prog 42 #[a.val, b.val] w fun e w' => e = .returned (.bool true) ∧ ∃ n, w' = w.drewN n := by
  obtain ⟨aq, an, ac⟩ := a
  obtain ⟨bq, bn, bc⟩ := b
  obtain ⟨e1, ha⟩ := ha
  obtain ⟨e2, hb⟩ := hb
  obtain rfl : an = ss.length := e1
  obtain rfl : bn = ss.length := e2
  have Ha := Lib.hid ha
  have Hb := Lib.hid hb
  have Hm := Lib.hid (En.Sl.max ha)
  clear ha hb
  unfold Hd.val
  dsimp only
  go_enter Tryz.func42, Tryz.ntmps42
  go_wp2
  go_loopw [5] (fun i wr => ∃ k : Nat, k ≤ ss.length ∧ i = .int .i64 k ∧ ∃ n, wr = w.drewN n) (fun i _ => ss.length - (intOf i).toNat)
  case atStart => exact ⟨0, Nat.zero_le _, rfl, 0, rfl⟩
  case round =>
    obtain ⟨k, hk, rfl, nn, hnn⟩ := hrel
    have hbl : Bel w wr := by rw [hnn]; exact (Bel.refl w).drewN nn
    have Hnn := Lib.hid hnn
    clear hnn
    have hm := Hm.out
    by_cases hlt : k < ss.length
    · obtain ⟨b1, o1, c1, e, r1⟩ := En.str_at (Ha.out.bel hbl) k hlt
      cases e
      obtain ⟨b2, o2, c2, e, r2⟩ := En.str_at (Hb.out.bel hbl) k hlt
      cases e
      have j0 : (0 : Int) ≤ (k : Int) := Int.natCast_nonneg _
      have j1 : (k : Int) < (ss.length : Int) := by omega
      generalize ss.getD k ⟨#[]⟩ = s at *
      go_upto_region 6 with fail
      go_quiet (fail)
      go_wp2
      go_roundw
      case rel => exact ⟨k + 1, by omega, by go_num, nn + nq, by rw [Hnn.out, World.drewN_drewN]⟩
      case measure => simp [intOf]; omega
    · have e : k = ss.length := by omega
      subst e
      go_wp2
      go_ret
      exact ⟨rfl, nn, Hnn.out⟩
set_option maxRecDepth 100000 in
set_option maxHeartbeats 2000000 in
theorem names_same (a b : Hd) (ns : List (List Pr)) (w : World) (ha : NameIs w a ns) (hb : NameIs w b ns) :
    Calls Tryz.prog 30 #[a.val, b.val] w fun e w' => e = .returned (.bool true) ∧ Bel w w' := by
  obtain ⟨aq, an, ac⟩ := a
  obtain ⟨bq, bn, bc⟩ := b
  obtain ⟨xs, e0, e1, ha, hax⟩ := ha
  obtain ⟨ys, e3, e2, hb, hby⟩ := hb
  obtain rfl : an = xs.length := e1
  obtain rfl : bn = ys.length := e2
  have hlen : ys.length = xs.length := by have := congrArg List.length (e0.trans e3.symm); simpa using this.symm
  have hnth : ∀ k, k < xs.length → (xs.getD k (Hd.none, [])).2 = (ys.getD k (Hd.none, [])).2 := fun k hk => by
    have h1 : (xs.map Prod.snd)[k]? = (ys.map Prod.snd)[k]? := by rw [e0, e3]
    rw [List.getElem?_map, List.getElem?_map, List.getElem?_eq_getElem hk, List.getElem?_eq_getElem (by omega)] at h1
    rw [List.getD_eq_getElem?_getD, List.getD_eq_getElem?_getD, List.getElem?_eq_getElem hk, List.getElem?_eq_getElem (by omega)]
    simpa using h1
  have Ha := Lib.hid ha
  have Hb := Lib.hid hb
  have Hax := Lib.hid hax
  have Hby := Lib.hid hby
  have Hnth := Lib.hid hnth
  have Hm := Lib.hid (En.Sl.max ha)
  clear ha hb hax hby hnth e0 e3
  unfold Hd.val
  dsimp only
  rw [hlen]
  go_enter Tryz.func30, Tryz.ntmps30
  go_wp2
  go_loopw [5] (fun i wr => ∃ k : Nat, k ≤ xs.length ∧ i = .int .i64 k ∧ Bel w wr) (fun i _ => xs.length - (intOf i).toNat)
  case atStart => exact ⟨0, Nat.zero_le _, rfl, Bel.refl _⟩
  case round =>
    obtain ⟨k, hk, rfl, hbl⟩ := hrel
    have hm := Hm.out
    by_cases hlt : k < xs.length
    · obtain ⟨b1, o1, c1, e, r1⟩ := hp_at (Ha.out.bel hbl) k hlt
      cases e
      have hbb := Hb.out.bel hbl
      obtain ⟨b2, o2, c2, e, r2⟩ := hp_at hbb k (by omega)
      rw [hlen] at e
      cases e
      have x1 := (Hax.out _ (En.getD_mem xs (Hd.none, []) k hlt)).bel hbl
      have x2 := (Hby.out _ (En.getD_mem ys (Hd.none, []) k (by omega))).bel hbl
      rw [← Hnth.out k hlt] at x2
      generalize xs.getD k (Hd.none, []) = z at *
      generalize (ys.getD k (Hd.none, [])).1 = u at *
      obtain ⟨⟨zq, zl, zc⟩, ps⟩ := z
      obtain ⟨uq, ul, uc⟩ := u
      dsimp only [Hd.val] at r1 r2
      obtain ⟨f1, x1⟩ := x1
      obtain ⟨f2, x2⟩ := x2
      obtain rfl : zl = ps.length := f1
      obtain rfl : ul = ps.length := f2
      have hm2 := En.Sl.max x1
      have X1 := Lib.hid x1
      have X2 := Lib.hid x2
      clear x1 x2 hbb
      have j0 : (0 : Int) ≤ (k : Int) := Int.natCast_nonneg _
      have j1 : (k : Int) < (xs.length : Int) := by omega
      go_upto_region 6 with fail
      go_quiet (fail)
      have hd := (Bel.refl wr).drewN nq
      go_wp2
      go_loopw [6] (fun i W => ∃ m : Nat, m ≤ ps.length ∧ i = .int .i64 m ∧ Bel wr W) (fun i _ => ps.length - (intOf i).toNat)
      case atStart => exact ⟨0, Nat.zero_le _, rfl, hd⟩
      case round =>
        obtain ⟨m, hm3, rfl, hbl2⟩ := hrel
        have k1 := hbl2.cell r1
        have k2 := hbl2.cell r2
        by_cases hlt2 : m < ps.length
        · obtain ⟨p1, q1, d1, e, y1, y2⟩ := pr_at (X1.out.bel hbl2) m hlt2
          cases e
          obtain ⟨p2, q2, d2, e, y3, y4⟩ := pr_at (X2.out.bel hbl2) m hlt2
          cases e
          generalize ps.getD m Pr.none = pr at *
          obtain ⟨pn, pv⟩ := pr
          dsimp only at y1 y2 y3 y4
          have j2 : (0 : Int) ≤ (m : Int) := Int.natCast_nonneg _
          have j3 : (m : Int) < (ps.length : Int) := by omega
          go_upto_region 11 with fail
          go_quiet (fail)
          go_wp2
          go_roundw
          case rel => exact ⟨m + 1, by omega, by go_num, hbl2.drewN _⟩
          case measure => simp [intOf]; omega
        · have e : m = ps.length := by omega
          subst e
          go_wp2
          go_roundw
          case rel => exact ⟨k + 1, by omega, by go_num, hbl.trans hbl2⟩
          case measure => simp [intOf]; omega
    · have e : k = xs.length := by omega
      subst e
      go_wp2
      go_ret
      exact ⟨rfl, hbl⟩
set_option maxRecDepth 100000 in
set_option maxHeartbeats 2000000 in
theorem values_same (a b : Hd) (l : List At) (w : World) (ha : AttrsIs w a l) (hb : AttrsIs w b l) :
    Calls Tryz.prog 31 #[a.val, b.val] w fun e w' => e = .returned (.bool true) ∧ Bel w w' := by
  obtain ⟨aq, an, ac⟩ := a
  obtain ⟨bq, bn, bc⟩ := b
  obtain ⟨xs, e0, e1, ha, hax⟩ := ha
  obtain ⟨ys, e3, e2, hb, hby⟩ := hb
  obtain rfl : an = xs.length := e1
  obtain rfl : bn = ys.length := e2
  have hlen : ys.length = xs.length := by have := congrArg List.length (e0.trans e3.symm); simpa using this.symm
  have hnth : ∀ k, k < xs.length → (xs.getD k (Vls.none, [])).1.name = (ys.getD k (Vls.none, [])).1.name ∧ (xs.getD k (Vls.none, [])).2 = (ys.getD k (Vls.none, [])).2 := fun k hk => by
    have h1 : (xs.map fun z => ((z.1.name, z.2) : At))[k]? = (ys.map fun z => ((z.1.name, z.2) : At))[k]? := by rw [e0, e3]
    rw [List.getElem?_map, List.getElem?_map, List.getElem?_eq_getElem hk, List.getElem?_eq_getElem (by omega)] at h1
    rw [List.getD_eq_getElem?_getD, List.getD_eq_getElem?_getD, List.getElem?_eq_getElem hk, List.getElem?_eq_getElem (by omega)]
    simpa using h1
  have Ha := Lib.hid ha
  have Hb := Lib.hid hb
  have Hax := Lib.hid hax
  have Hby := Lib.hid hby
  have Hnth := Lib.hid hnth
  have Hm := Lib.hid (En.Sl.max ha)
  clear ha hb hax hby hnth e0 e3
  unfold Hd.val
  dsimp only
  rw [hlen]
  go_enter Tryz.func31, Tryz.ntmps31
  go_wp2
  go_loopw [5] (fun i wr => ∃ k : Nat, k ≤ xs.length ∧ i = .int .i64 k ∧ Bel w wr) (fun i _ => xs.length - (intOf i).toNat)
  case atStart => exact ⟨0, Nat.zero_le _, rfl, Bel.refl _⟩
  case round =>
    obtain ⟨k, hk, rfl, hbl⟩ := hrel
    have hm := Hm.out
    by_cases hlt : k < xs.length
    · obtain ⟨b1, o1, c1, e, r1, r3⟩ := vp_at (Ha.out.bel hbl) k hlt
      cases e
      have hbb := Hb.out.bel hbl
      obtain ⟨b2, o2, c2, e, r2, r4⟩ := vp_at hbb k (by omega)
      rw [hlen] at e
      cases e
      have x1 := (Hax.out _ (En.getD_mem xs (Vls.none, []) k hlt)).bel hbl
      have x2 := (Hby.out _ (En.getD_mem ys (Vls.none, []) k (by omega))).bel hbl
      obtain ⟨g1, g2⟩ := Hnth.out k hlt
      rw [← g2] at x2
      rw [← g1] at r2
      clear g1 g2
      generalize xs.getD k (Vls.none, []) = z at *
      generalize (ys.getD k (Vls.none, [])).1 = u at *
      obtain ⟨⟨zn, ⟨zq, zl, zc⟩⟩, ss⟩ := z
      obtain ⟨un, ⟨uq, ul, uc⟩⟩ := u
      dsimp only [Hd.val] at r1 r2 r3 r4 x1 x2
      have HC := fun n => texts_same (zq, zl, zc) (uq, ul, uc) ss (wr.drewN n) (x1.bel ((Bel.refl _).drewN n)) (x2.bel ((Bel.refl _).drewN n))
      dsimp only [Hd.val] at HC
      have HC := fun n => Lib.hid (HC n)
      clear x1 x2 hbb
      have j0 : (0 : Int) ≤ (k : Int) := Int.natCast_nonneg _
      have j1 : (k : Int) < (xs.length : Int) := by omega
      go_upto_region 6 with fail
      go_quiet ((go_at_call 42; exact Calls.quiet_of (HC _).out))
      go_wp2
      go_roundw
      case rel => exact ⟨k + 1, by omega, by go_num, hbl.drewN _⟩
      case measure => simp [intOf]; omega
    · have e : k = xs.length := by omega
      subst e
      go_wp2
      go_ret
      exact ⟨rfl, hbl⟩
set_option maxRecDepth 100000 in
theorem same30 (a b : Hd) (c d : Hd) (ns : List (List Pr)) (l : List At) (w : World) (ha : NameIs w a ns) (hb : AttrsIs w b l) (hc : NameIs w c ns) (hd : AttrsIs w d l) :
    Calls Tryz.prog 17 #[.agg #[a.val, b.val], .agg #[c.val, d.val]] w fun e w' => e = .returned (.bool true) ∧ Bel w w' := by
  have HN := fun w' (h : Bel w w') => Lib.hid (names_same a c ns w' (ha.bel h) (hc.bel h))
  have HV := fun w' (h : Bel w w') => Lib.hid (values_same b d l w' (hb.bel h) (hd.bel h))
  clear ha hb hc hd
  obtain ⟨aq, an, ac⟩ := a
  obtain ⟨bq, bn, bc⟩ := b
  obtain ⟨cq, cn, cc⟩ := c
  obtain ⟨dq, dn, dc⟩ := d
  unfold Hd.val at *
  dsimp only at *
  go_enter Tryz.func17, Tryz.ntmps17
  go_upto_region 1 with fail
  have hbel := ((Bel.refl w).alloc (.cells #[.slice aq an ac, .slice bq bn bc] 42)).alloc (.cells #[.slice cq cn cc, .slice dq dn dc] 42)
  have b0 := old_at (new_at w (.cells #[.slice aq an ac, .slice bq bn bc] 42)) (.cells #[.slice cq cn cc, .slice dq dn dc] 42)
  have b1 := new_at (w.alloc (.cells #[.slice aq an ac, .slice bq bn bc] 42)) (.cells #[.slice cq cn cc, .slice dq dn dc] 42)
  simp only [World.size_alloc] at b0 b1 ⊢
  generalize hW0 : World.alloc (World.alloc _ _) _ = W0 at *
  clear hW0
  generalize w.heap.size = B at *
  have c0 : W0.cell? ⟨B, 0, none⟩ = some (.slice aq an ac) := cellk b0 0 _ rfl
  have c2 : W0.cell? ⟨B + 1, 0, none⟩ = some (.slice cq cn cc) := cellk b1 0 _ rfl
  have B0 := Lib.hid b0
  have B1 := Lib.hid b1
  have Hbel := Lib.hid hbel
  clear b0 b1 hbel
  go_wp2_with (first | (go_at_call 30; refine (HN _ Hbel.out).out.mono ?_; rintro e w1 ⟨rfl, hb1⟩; have d1 : w1.cell? ⟨B, 1, none⟩ = some (.slice bq bn bc) := cellk (hb1.at B0.out) 1 _ rfl; have d3 : w1.cell? ⟨B + 1, 1, none⟩ = some (.slice dq dn dc) := cellk (hb1.at B1.out) 1 _ rfl) | (go_at_call 31; refine (HV _ (Hbel.out.trans hb1)).out.mono ?_; rintro e w2 ⟨rfl, hb2⟩))
  go_ret
  exact ⟨rfl, (Hbel.out.trans hb1).trans hb2⟩
end Go.Proofs.YtljeeehimcdmbaaGreatDoor
end
