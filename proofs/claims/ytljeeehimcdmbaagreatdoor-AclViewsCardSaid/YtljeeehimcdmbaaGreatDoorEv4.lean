/- A verified evaluator of the program's code, part 4: definitions and laws. No condition. -/
import Derived.Test.YtljeeehimcdmbaaGreatDoorEv3
set_option linter.unusedVariables false
set_option linter.unusedSimpArgs false
section
/- E: calls of functions and of yields. No condition. -/
namespace Go.E
open Go Go.RowKit
section
variable {P : Program} {cx : Ctx} {n0 : Nat} {F : Fence} {ex : ExecK}
/-- A call of a function of the table. -/
theorem callFn_do (hT : TOk P cx.Γ) (hTab : FTab P cx) (hX : XOk P cx) (hE : ExOk P cx n0 ex) (hF : WideF F) {f : FuncId} {fn : Func} {mk : Nat} (hf : cx.F.get (toPs f) = some (fn, mk)) {xs : List RV} {XS : Array Value} {g : Gh} {h h' : Hp} {v : RV} {w : World} {ds : List Deferred}
    (H : HR cx g h w n0) (h0 : n0 ≤ w.heap.size) (hd : DR g h.df ds) (hx : VRs g xs XS.toList) (hc : callF cx ex f fn mk xs h = some ⟨v, h'⟩) :
    Goes F P ds (Post cx n0 g w h' v) ((callFunc f XS).run P w) ∧ ((∃ code, fn.body = some code) → (callFunc f XS).run P w = .ok (.enter f XS) w) := by
  obtain ⟨t1, t2, t3⟩ := hTab f fn mk hf
  cases hb : fn.body with
  | none =>
    refine ⟨?_, fun ⟨code, hcode⟩ => by cases hcode⟩
    unfold callF at hc
    rw [hb] at hc
    obtain ⟨x, h1, h2⟩ := bnd_inv (show bnd (cx.X.get (toPs f)) (fun x => externV h x xs) = some ⟨v, h'⟩ from hc)
    obtain ⟨V, w', r1, r2⟩ := externCall_ok hX H hd h1 hx h2
    rw [r1]
    exact r2
  | some code =>
    have he := callFunc_enter hTab hf hb XS w
    refine ⟨?_, fun _ => he⟩
    rw [he]
    exact callF_do (F := F.plain) hT (dcall_do hT hTab hE) hF.plain rfl t1 hb (hE f fn mk none code hf (t3 code hb)) H h0 hd hx hc
theorem textFn_inv {f : FuncId} {a c : List RV} (h : textFn cx (.fn f a c) = true) : ∃ fn mk code, cx.F.get (toPs f) = some (fn, mk) ∧ fn.body = some code := by
  unfold textFn at h
  cases hf : cx.F.get (toPs f) with
  | none => simp only [hf] at h; cases h
  | some fm =>
    obtain ⟨fn, mk⟩ := fm
    simp only [hf] at h
    cases hb : fn.body with
    | none => simp only [hb] at h; cases h
    | some code => exact ⟨fn, mk, code, rfl, hb⟩
theorem fnCall_inv {f : FuncId} {a c xs : List RV} {h h' : Hp} {v : RV} (hc : callV cx ex (.fn f a c) xs h = some ⟨v, h'⟩) : (knownV cx f (a ++ (xs ++ c)) h = some v ∧ h' = h) ∨ ∃ fn mk, cx.F.get (toPs f) = some (fn, mk) ∧ callF cx ex f fn mk (a ++ (xs ++ c)) h = some ⟨v, h'⟩ := by
  obtain ⟨l1, h1, h2⟩ := bnd_inv (show bnd (appS xs c) (fun xs => bnd (appS a xs) fun xs => Option.rec (bnd (cx.F.get (toPs f)) fun fm => Prod.rec (fun fn mk => callF cx ex f fn mk xs h) fm) (fun v => some (⟨v, h⟩ : Out)) (knownV cx f xs h)) = some ⟨v, h'⟩ from hc)
  rw [appS_eq] at h1
  cases h1
  obtain ⟨l2, h3, h4⟩ := bnd_inv h2
  rw [appS_eq] at h3
  cases h3
  cases hk : knownV cx f (a ++ (xs ++ c)) h with
  | some u =>
    rw [hk] at h4
    cases h4
    exact .inl ⟨rfl, rfl⟩
  | none =>
    rw [hk] at h4
    obtain ⟨⟨fn, mk⟩, h5, h6⟩ := bnd_inv (show bnd (cx.F.get (toPs f)) (fun fm => Prod.rec (fun fn mk => callF cx ex f fn mk (a ++ (xs ++ c)) h) fm) = some (⟨v, h'⟩ : Out) from h4)
    exact .inr ⟨fn, mk, h5, h6⟩
/-- A call of a function that something is known of. -/
theorem knownCall_do (hTab : FTab P cx) (hK : KnownOk P cx n0) (hF : WideF F) {f : FuncId} {xs : List RV} {XS : Array Value} {g : Gh} {h : Hp} {v : RV} {w : World} {ds : List Deferred} (H : HR cx g h w n0) (hd : DR g h.df ds) (hx : VRs g xs XS.toList) (hk : knownV cx f xs h = some v) :
    Goes F P ds (Post cx n0 g w h v) ((callFunc f XS).run P w) ∧ (callFunc f XS).run P w = .ok (.enter f XS) w := by
  obtain ⟨⟨fn, mk, code, k1, k2⟩, V, hv, hcall⟩ := hK f xs h v hk g w XS H hx
  have he := callFunc_enter hTab k1 k2 XS w
  refine ⟨?_, he⟩
  rw [he]
  exact callsIn_of_calls hF (hcall.mono fun en w' ⟨h1, h2⟩ => ⟨V, h1, g, Ext.later h2, H.later h2, hv, hd⟩)
theorem setParams_ok {mk : Nat} {g : Gh} : ∀ {ps : List Tmp} {xs : List RV} {XS : List Value} {e e' : Env} {tmps : Array Value}, setParams mk ps xs e = some e' → ER g mk e tmps → VRs g xs XS → (∀ p ∈ ps, p < tmps.size) →
    ps.length = XS.length ∧ ER g mk e' ((ps.zip XS).foldl (fun t (p : Tmp × Value) => t.setIfInBounds p.1 p.2) tmps) ∧ ((ps.zip XS).foldl (fun t (p : Tmp × Value) => t.setIfInBounds p.1 p.2) tmps).size = tmps.size
  | [], [], _, e, e', tmps, h, he, .nil, _ => by cases h; exact ⟨rfl, he, rfl⟩
  | [], _ :: _, _, _, _, _, h, _, _, _ => by cases h
  | _ :: _, [], _, _, _, _, h, _, _, _ => by cases h
  | p :: ps, x :: xs, _, e, e', tmps, h, he, .cons (V := V) (L := L) hv hs, hp => by
    obtain ⟨e1, h1, h2⟩ := bnd_inv (show bnd (e.put mk p x) (fun e => setParams mk ps xs e) = some e' from h)
    have h3 : ER g mk e1 (tmps.setIfInBounds p V) := fun i u hu => by
      rw [Env.put_ok h1] at hu
      rw [Array.getElem?_setIfInBounds]
      by_cases hi : i = p
      · subst hi
        rw [if_pos rfl] at hu
        cases hu
        rw [if_pos rfl]
        exact ⟨V, by simp [hp i List.mem_cons_self], hv⟩
      · rw [if_neg hi] at hu
        rw [if_neg fun e => hi e.symm]
        exact he i u hu
    obtain ⟨k1, k2, k3⟩ := setParams_ok h2 h3 hs fun q hq => by simpa using hp q (List.mem_cons_of_mem _ hq)
    exact ⟨by simp [k1], k2, by simpa using k3⟩
theorem DR.nil_inv {g : Gh} {ds : List Deferred} (h : DR g [] ds) : ds = [] := by cases h; rfl
theorem HR.loopPut {g : Gh} {h h' : Hp} {w : World} (H : HR cx g h w n0) {l : Ps} {st st' : Nat} {pend pend' : Option Code} {fn : FuncId} {gl : Tr RV} {ps : Array Tmp} {as bd : Code} {df : Ps} {L : Nat} {r : Loop} (hl : h.get l = some (.loop st pend fn gl ps as bd df)) (hμ : g.μ l = some (L, 0)) (hw : w.heap[L]? = some (.loop r))
    (hs : h.set l (.loop st' pend' fn gl ps as bd df) = some h') : HR cx g h' (w.putObj L (.loop { r with state := lsOf st', pending := pend' })) n0 ∧ Ext n0 g w g (w.putObj L (.loop { r with state := lsOf st', pending := pend' })) ∧ h'.df = h.df ∧ h'.get l = some (.loop st' pend' fn gl ps as bd df) := by
  obtain ⟨s1, s2, s3⟩ := Hp.set_ok hs
  obtain ⟨L', D, tmps, fn0, o1, o2, o3, o4, o5⟩ := H.obj l _ hl
  rw [hμ] at o1
  cases o1
  rw [hw] at o4
  have hr := Obj.loop.inj (Option.some.inj o4)
  obtain ⟨p1, p2⟩ := H.put (O := .loop { r with state := lsOf st', pending := pend' }) hl rfl hμ o2 (by intro c cs ty hc; simp [RO.anc]) s1 s2 rfl
    ⟨L, D, tmps, fn0, hμ, o2, o3, by rw [World.putObj_heap_same (Array.getElem?_eq_some_iff.1 hw).1, hr], o5⟩
  exact ⟨p1, p2, s3, by rw [s1, if_pos rfl]⟩
theorem yield_do (hE : ExOk P cx n0 ex) (hF : WideF F) {l : Ps} {L : Nat} {xs : List RV} {XS : Array Value} {g : Gh} {h h' : Hp} {v : RV} {w : World} {ds : List Deferred} (hμ : g.μ l = some (L, 0))
    (H : HR cx g h w n0) (h0 : n0 ≤ w.heap.size) (hd : DR g h.df ds) (hx : VRs g xs XS.toList) (hc : callY cx ex l xs h = some ⟨v, h'⟩) : Goes F P ds (Post cx n0 g w h' v) ((Instr.yield L XS).run P w) := by
  obtain ⟨o, h1, h2⟩ := bnd_inv hc
  split at h2
  · rename_i st pend fn gl ps as bd df
    obtain ⟨⟨fn', mk⟩, h3, h4⟩ := bnd_inv h2
    obtain ⟨e, h5, h6⟩ := bnd_inv h4
    obtain ⟨⟨x1, e1, h1'⟩, h7, h8⟩ := bnd_inv h6
    obtain ⟨L', D, tmps, fn0, o1, o2, o3, o4, o5⟩ := H.obj l _ h1
    rw [hμ] at o1
    cases o1
    obtain ⟨q1, q2, q3, q4, q5⟩ := o5 fn' mk h3
    obtain ⟨p1, p2, p3⟩ := setParams_ok h5 q1 hx fun p hp => Nat.lt_of_lt_of_le (q3 p hp) q2
    rw [run_yield (r := { state := lsOf st, pending := pend, fn := fn0, tmps := tmps, params := ps, assign := as, body := bd, defers := D }) o4 (by
      rw [← Array.length_toList, ← Array.length_toList]; exact p1.symm)]
    show RoundIn F 0 P L fn0 _ as bd w fun en w'' => ∃ V, en = .returned V ∧ Post cx n0 g w h' v V ds w''
    have htm : ((ps.zip XS).foldl (fun tmps (x : Tmp × Value) => match x with | (t, a) => tmps.setIfInBounds t a) tmps) = ((ps.toList.zip XS.toList).foldl (fun t (p : Tmp × Value) => t.setIfInBounds p.1 p.2) tmps) := by
      rw [← Array.foldl_toList, Array.toList_zip]
    have hS : St cx n0 mk fn'.ntmps g e.over (h.withDf []) { tmps := (ps.zip XS).foldl (fun tmps (x : Tmp × Value) => match x with | (t, a) => tmps.setIfInBounds t a) tmps, defers := [] } w := by
      refine ⟨H.withDf [], h0, fun i u hu => ?_, by rw [Hp.df_withDf]; exact .nil, ?_⟩
      · show ∃ V, ((ps.zip XS).foldl (fun tmps (x : Tmp × Value) => match x with | (t, a) => tmps.setIfInBounds t a) tmps)[i]? = some V ∧ _
        rw [htm]
        exact p2 i u (Env.over_ok hu)
      · show fn'.ntmps ≤ ((ps.zip XS).foldl (fun tmps (x : Tmp × Value) => match x with | (t, a) => tmps.setIfInBounds t a) tmps).size
        rw [htm, p3]
        exact q2
    have hro : roOk g (some l) (F.inRound L) := ⟨L, rfl, hμ⟩
    refine roundIn_of_wpIn (hF.fn fn0) (hE fn fn' mk (some l) as h3 q4 e.over (h.withDf []) ⟨x1, e1, h1'⟩ g w _ (F.inRound L) _ h7 (hF.inRound L) hro hS fun g1 a1 w1 X1 S1 => ?_)
    cases x1 with
    | normal =>
      obtain ⟨h2', h9, h10⟩ := bnd_inv (show bnd (beginR h1' l) (fun h_2 => bnd (ex fn mk (some l) bd e1 h_2) fun r => bnd (roundEnd l r) fun u => match u with | ⟨v, h_3⟩ => bnd (noDf h_3 h.df) fun h => some (⟨v, h⟩ : Out)) = some ⟨v, h'⟩ from h8)
      obtain ⟨o', k1, k2⟩ := bnd_inv (show bnd (h1'.get l) _ = some h2' from h9)
      split at k2
      · rename_i st1 pend1 fn1 gl1 ps1 as1 bd1 df1
        obtain ⟨k3, k4⟩ := ifB_none k2
        rw [nbeq_eq, decide_eq_true_eq] at k3
        subst k3
        obtain ⟨L1, D1, tmps1, fn01, m1, m2, m3, m4, m5⟩ := S1.hr.obj l _ k1
        rw [X1.le.μ _ _ hμ] at m1
        cases m1
        obtain ⟨b1, b2, b3, b4⟩ := S1.hr.loopPut k1 (X1.le.μ _ _ hμ) m4 k4
        refine ⟨_, run_beginRound m4 rfl, ?_⟩
        obtain ⟨⟨x2, e2, h3'⟩, h11, h12⟩ := bnd_inv h10
        have S2 : St cx n0 mk fn'.ntmps g1 e1 h2' a1 (w1.putObj L (.loop { state := .busy, pending := pend1, fn := fn01, tmps := tmps1, params := ps1, assign := as1, body := bd1, defers := D1 })) :=
          ⟨b1, Nat.le_trans S1.le b2.size, S1.er, by rw [b3]; exact S1.dr, S1.sz⟩
        refine hE fn fn' mk (some l) bd h3 q5 e1 h2' ⟨x2, e2, h3'⟩ g1 _ a1 (F.inRound L) _ h11 (hF.inRound L) (hro.mono X1.le) S2 fun g3 a3 w3 X3 S3 => ?_
        obtain ⟨⟨v', h4'⟩, h13, h14⟩ := bnd_inv h12
        obtain ⟨h5', h15, h16⟩ := bnd_inv h14
        cases h16
        obtain ⟨o'', n1, n2⟩ := bnd_inv (show bnd (h3'.get l) _ = some (⟨v, h4'⟩ : Out) from h13)
        have X13 : Ext n0 g w g3 w3 := X1.trans (b2.trans X3)
        have hdf : h4'.df = [] ∧ h' = h4'.withDf h.df := by
          unfold noDf at h15
          split at h15
          · rename_i hd; cases h15; exact ⟨hd, rfl⟩
          · cases h15
        split at n2
        · rename_i st2 pend2 fn2 gl2 ps2 as2 bd2 df2
          obtain ⟨L2, D2, tmps2, fn02, u1, u2, u3, u4, u5⟩ := S3.hr.obj l _ n1
          rw [X13.le.μ _ _ hμ] at u1
          cases u1
          have fin : ∀ (jump : Option Code) (st' : Nat) (b : Bool), lsOf st' = (if jump.isNone then .ready else .done) → jump.isNone = b → bnd (h3'.set l (.loop st' jump fn2 gl2 ps2 as2 bd2 df2)) (fun h => some (⟨.bool b, h⟩ : Out)) = some ⟨v, h4'⟩ →
              ∃ V w', (Instr.endRound L jump).run P w3 = .ok V w' ∧ ∃ V', Ending.returned V = .returned V' ∧ Post cx n0 g w h' v V' ds w' := by
            intro jump st' b hst hb hset
            obtain ⟨h6', s1, s2⟩ := bnd_inv hset
            cases s2
            obtain ⟨c1, c2, c3, c4⟩ := S3.hr.loopPut n1 (X13.le.μ _ _ hμ) u4 s1
            refine ⟨_, _, run_endRound jump u4, _, rfl, g3, X13.trans ?_, ?_, ?_, ?_⟩
            · rw [hst] at c2; exact c2
            · rw [hdf.2]
              rw [hst] at c1
              exact c1.withDf _
            · rw [hb]; exact .bool b
            · rw [hdf.2, Hp.df_withDf]; exact hd.mono X13.le
          cases x2 with
          | normal => exact fin none 0 true rfl rfl n2
          | exit i => exact fin (some (.exit i)) 2 false rfl rfl n2
          | goto t => exact fin (some (.goto t)) 2 false rfl rfl n2
          | ret => exact fin (some .ret) 2 false rfl rfl n2
        · cases n2
      · cases k2
    | exit i => cases h8
    | goto t => cases h8
    | ret => cases h8
  · cases h2
theorem call_ok (hT : TOk P cx.Γ) (hTab : FTab P cx) (hX : XOk P cx) (hK : KnownOk P cx n0) (hE : ExOk P cx n0 ex) : CallOk P cx n0 (callV cx ex) where
  goes := by
    intro F f xs FV XS g h h' v w ds hF H h0 hd hf hx hc
    cases f <;> first
      | (cases hc; done)
      | skip
    case fn f a c =>
      obtain ⟨A, C, ha, hcc, rfl⟩ := hf.fn_inv
      refine ⟨_, rfl, ?_⟩
      have hXS : VRs g (a ++ (xs ++ c)) ((A ++ XS) ++ C).toList := by
        rw [Array.toList_append, Array.toList_append, List.append_assoc]
        exact VRs.append (VRs.append hcc hx) ha
      rcases fnCall_inv hc with ⟨k1, rfl⟩ | ⟨fn, mk, k1, k2⟩
      · exact (knownCall_do hTab hK hF H hd hXS k1).1
      · exact (callFn_do hT hTab hX hE hF k1 H h0 hd hXS k2).1
    case yld l =>
      obtain ⟨L, hμ, rfl⟩ := hf.yld_inv
      refine ⟨_, rfl, ?_⟩
      have : (#[] : Array Value) ++ XS = XS := by simp
      show Goes F P ds _ ((Instr.yield L (#[] ++ XS)).run P w)
      rw [this]
      exact yield_do hE hF hμ H h0 hd hx hc
  enter := by
    intro F f a c xs A C X g h h' v w ds hF H h0 hd ha hcc hx ht hc
    have hXS : VRs g (a ++ (xs ++ c)) ((A ++ X) ++ C).toList := by
      rw [Array.toList_append, Array.toList_append, List.append_assoc]
      exact VRs.append (VRs.append hcc hx) ha
    rcases fnCall_inv hc with ⟨k1, rfl⟩ | ⟨fn, mk, k1, k2⟩
    · obtain ⟨r1, he⟩ := knownCall_do hTab hK hF H hd hXS k1
      rw [he] at r1
      exact ⟨_, he, r1⟩
    · obtain ⟨fn', mk', code, t1, t2⟩ := textFn_inv ht
      rw [k1] at t1
      cases t1
      obtain ⟨r1, r2⟩ := callFn_do hT hTab hX hE hF k1 H h0 hd hXS k2
      have he := r2 ⟨code, t2⟩
      rw [he] at r1
      exact ⟨_, he, r1⟩
end
end Go.E
end

section
/- E: every operation. No condition. -/
namespace Go.E
open Go Go.RowKit
theorem extract_tail (x : Value) (A : Array Value) : (#[x] ++ A).extract 1 (#[x] ++ A).size = A := by
  apply Array.ext'
  rw [Array.toList_extract, List.extract_eq_take_drop, Array.toList_append]
  simp only [List.cons_append, List.nil_append, List.drop_succ_cons, List.drop_zero]
  exact List.take_of_length_le (by simp)
theorem head_append (x : Value) (A : Array Value) : (#[x] ++ A)[0]? = some x := by
  rw [Array.getElem?_append_left (by simp)]
  rfl
section
variable {P : Program} {cx : Ctx} {n0 : Nat} {F : Fence} {call : CallK}
theorem op_does (hT : TOk P cx.Γ) (hQ : qAll P cx.Γ = true) (hM : MTab P cx) (hC : CallOk P cx n0 call) (hF : WideF F) : AllDo P cx n0 F call := by
  intro o mk g h w e a R y k H h0 he hd hk
  cases hc : clsOf cx.Γ o.op with
  | pure => exact (still_ok hT hQ H he hd (.inl hc) hk).does H hd
  | reads => exact (still_ok hT hQ H he hd (.inr hc) hk).does H hd
  | news =>
    cases hop : o.op <;> rw [hop] at hc hk <;> first
      | (cases hc; done)
      | (exact box_does (call := call) H he hd h0 hop hk)
      | (exact buildSlice_does (call := call) hT H he hd h0 hop hk)
      | (exact makeSlice_does (call := call) hT H he hd h0 hop hk)
      | skip
    case alloc t => exact alloc_does (call := call) (mk := mk) (e := e) hT H hd h0 hop hk
    case makeMap t r => exact map_does (call := call) (mk := mk) (e := e) H hd h0 hop hk
    case convert s d x =>
      exfalso
      simp only [clsOf] at hc
      split at hc
      · split at hc <;> cases hc
      · cases hc
    case call c =>
      exfalso
      simp only [clsOf] at hc
      split at hc
      · split at hc <;> cases hc
      · cases hc
  | acts =>
    cases hop : o.op <;> rw [hop] at hc hk <;> first
      | (cases hc; done)
      | (cases hk; done)
      | (exact store_does (call := call) hT H he hd hop hk)
      | (exact mapSet_does (call := call) hT hQ H he hd (.inl hop) hk)
      | (exact mapSet_does (call := call) hT hQ H he hd (.inr hop) hk)
      | (exact range_does (call := call) hT H h0 he hd hop hk)
      | (exact next_does (call := call) H he hd hop hk)
      | skip
    case convert s d x =>
      obtain ⟨u, h1, h2⟩ := bnd_inv (show bnd (ev cx mk x e) (fun a => outK (convV cx.Γ h s d a) k) = some y from hk)
      obtain ⟨v, h', h3, h4⟩ := outK_inv h2
      obtain ⟨V, w', r1, r2⟩ := conv_ok (P := P) hT H hd h0 (ev_ok H he h1) h3
      refine ⟨v, h', h4, fun k' => by
        show bnd (ev cx mk x e) (fun a => outK (convV cx.Γ h s d a) k') = _
        rw [h1]
        exact outK_some h3 k', ?_⟩
      unfold execOp
      rw [hop]
      simp only [Sem.run_bind, r1, Result.andThen_ok, Sem.run_pure]
      exact r2
    case call c =>
      obtain ⟨cl, xs, ts⟩ := c
      cases cl with
      | builtin b =>
        obtain ⟨u, h1, h2⟩ := bnd_inv (show bnd (evs cx mk xs.toList e) (fun xs => outK (builtinV cx.Γ h b ts.toList xs) k) = some y from hk)
        obtain ⟨v, h', h3, h4⟩ := outK_inv h2
        obtain ⟨V, w', r1, r2⟩ := builtin_ok (P := P) (ty := o.type) (cst := xs.map fun | .const _ => true | _ => false) hT hQ H hd h0 (evsA_ok H he h1) h3
        refine ⟨v, h', h4, fun k' => by
          show bnd (evs cx mk xs.toList e) (fun xs => outK (builtinV cx.Γ h b ts.toList xs) k') = _
          rw [h1]
          exact outK_some h3 k', ?_⟩
        unfold execOp
        rw [hop]
        simp only [Sem.run_bind, resolve, Sem.run_pure, Result.andThen_ok, invoke]
        exact (congrArg (Goes F P a.defers (Post cx n0 g w h' v)) r1).mpr r2
      | value f =>
        obtain ⟨fv, h1, h2⟩ := bnd_inv (show bnd (ev cx mk f e) (fun f => bnd (evs cx mk xs.toList e) fun xs => outK (call f xs h) k) = some y from hk)
        obtain ⟨u, h3, h4⟩ := bnd_inv h2
        obtain ⟨v, h', h5, h6⟩ := outK_inv h4
        obtain ⟨d, d1, d2⟩ := hC.goes F fv u _ _ g h h' v w a.defers hF H h0 hd (ev_ok H he h1) (evsA_ok H he h3) h5
        refine ⟨v, h', h6, fun k' => by
          show bnd (ev cx mk f e) (fun f => bnd (evs cx mk xs.toList e) fun xs => outK (call f xs h) k') = _
          rw [h1, bnd_mk, h3]
          exact outK_some h5 k', ?_⟩
        unfold execOp
        rw [hop]
        simp only [Sem.run_bind, resolve, d1, Result.andThen_ok]
        exact d2
      | invoke r m =>
        obtain ⟨rv, h1, h2⟩ := bnd_inv (show bnd (ev cx mk r e) (fun r => bnd (evs cx mk xs.toList e) fun xs => match r with
          | .ifc t v => match v with
            | .ptr b o => bnd (methodOf cx t m) fun f => outK (call (.fn f [.ptr b o] []) xs h) k
            | _ => none
          | _ => none) = some y from hk)
        obtain ⟨u, h3, h4⟩ := bnd_inv h2
        cases rv <;> first
          | (cases h4; done)
          | skip
        rename_i t pv
        cases pv <;> first
          | (cases h4; done)
          | skip
        rename_i b off
        obtain ⟨f, h5, h6⟩ := bnd_inv (show bnd (methodOf cx t m) (fun f => outK (call (.fn f [.ptr b off] []) u h) k) = some y from h4)
        obtain ⟨v, h', h7, h8⟩ := outK_inv h6
        obtain ⟨U, hU, hV⟩ := (ev_ok H he h1).ifc_inv
        obtain ⟨B, q, hμ, rfl⟩ := hU.ptr_inv
        have hfv : VR g (.fn f [.ptr b off] []) (.func (.func f) #[.pointer (some ⟨B, q + off, none⟩)] #[]) := .fn f (.cons hU .nil) .nil
        obtain ⟨d, d1, d2⟩ := hC.goes F _ u _ _ g h h' v w a.defers hF H h0 hd hfv (evsA_ok H he h3) h7
        refine ⟨v, h', h8, fun k' => by
          show bnd (ev cx mk r e) _ = _
          rw [h1]
          show bnd (evs cx mk xs.toList e) _ = _
          rw [h3]
          show bnd (methodOf cx t m) _ = _
          rw [h5]
          exact outK_some h7 k', ?_⟩
        have hd1 : d = { target := .fn (.func f) #[], args := #[.pointer (some ⟨B, q + off, none⟩)] ++ xs.map a.eval } := by
          have : (Result.ok ({ target := .fn (.func f) #[], args := #[.pointer (some ⟨B, q + off, none⟩)] ++ xs.map a.eval } : Deferred) w) = .ok d w := d1
          cases this
          rfl
        subst hd1
        have hx1 : (#[Value.iface t (.pointer (some ⟨B, q + off, none⟩))] ++ xs.map a.eval).extract 1 (#[Value.iface t (.pointer (some ⟨B, q + off, none⟩))] ++ xs.map a.eval).size = xs.map a.eval := extract_tail _ _
        have hgo : (execOp a.eval o).run P w = (callFunc f (#[.pointer (some ⟨B, q + off, none⟩)] ++ xs.map a.eval)).run P w := by
          unfold execOp
          rw [hop]
          simp only [Sem.run_bind, resolve, Sem.run_pure, Result.andThen_ok, hV]
          show (do
            let some recv := (#[Value.iface t (.pointer (some ⟨B, q + off, none⟩))] ++ xs.map a.eval)[0]? | stuck "call: a method without a receiver"
            callMethod recv m ((#[Value.iface t (.pointer (some ⟨B, q + off, none⟩))] ++ xs.map a.eval).extract 1 (#[Value.iface t (.pointer (some ⟨B, q + off, none⟩))] ++ xs.map a.eval).size) : Sem Next).run P w = _
          have hz : (#[Value.iface t (.pointer (some ⟨B, q + off, none⟩))] ++ xs.map a.eval)[0]? = some (.iface t (.pointer (some ⟨B, q + off, none⟩))) := head_append _ _
          rw [hz, hx1]
          show (callMethod (.iface t (.pointer (some ⟨B, q + off, none⟩))) m (xs.map a.eval)).run P w = _
          unfold callMethod
          simp only [Sem.run_bind, run_program, Result.andThen_ok, hM t m f h5]
        rw [hgo]
        have he2 : (#[.pointer (some ⟨B, q + off, none⟩)] ++ xs.map a.eval) ++ (#[] : Array Value) = #[.pointer (some ⟨B, q + off, none⟩)] ++ xs.map a.eval := by simp
        have d2 : Goes F P a.defers (Post cx n0 g w h' v) ((callFunc f ((#[.pointer (some ⟨B, q + off, none⟩)] ++ xs.map a.eval) ++ #[])).run P w) := d2
        rw [he2] at d2
        exact d2
    case defer c =>
      obtain ⟨cl, xs, ts⟩ := c
      cases cl with
      | builtin b => cases hk
      | invoke r m => cases hk
      | value f =>
        obtain ⟨fv, h1, h2⟩ := bnd_inv (show bnd (ev cx mk f e) (fun f => bnd (evs cx mk xs.toList e) fun xs => ifB (isFn f) (k undefV (h.push (.call f xs))) none) = some y from hk)
        obtain ⟨u, h3, h4⟩ := bnd_inv h2
        obtain ⟨h5, h6⟩ := ifB_none h4
        cases fv <;> first
          | (cases h5; done)
          | skip
        rename_i f' fa fc
        obtain ⟨A, C, ha, hcc, hV⟩ := (ev_ok H he h1).fn_inv
        refine ⟨undefV, _, h6, fun k' => by
          show bnd (ev cx mk f e) (fun f => bnd (evs cx mk xs.toList e) fun xs => ifB (isFn f) (k' undefV (h.push (.call f xs))) none) = _
          rw [h1, bnd_mk, h3]
          rfl, ?_⟩
        have hgo : (execOp a.eval o).run P w = .ok (.defer { target := .fn (.func f') C, args := A ++ xs.map a.eval }) w := by
          unfold execOp
          rw [hop]
          simp only [Sem.run_bind, resolve, hV, Deferred.ofValue, Sem.run_pure, Result.andThen_ok]
        rw [hgo]
        refine ⟨g, .refl n0 g w, ⟨fun b o hb => H.obj b o (by simpa using hb), fun b b' o o' h1 h2 => H.sep b b' o o' (by simpa using h1) (by simpa using h2), fun b b' o cs ty h1 l1 h2 => H.old b b' o cs ty (by simpa using h1) l1 (by simpa using h2), H.lt, fun b p hp => by rw [Hp.n_push]; exact H.dom b p hp, H.glb, H.base⟩, .undef, ?_⟩
        rw [Hp.df_push]
        exact .call ha hcc (evsA_ok H he h3) hd
end
end Go.E
end

section
/- E: the evaluator does what the machine does. No condition. -/
namespace Go.E
open Go Go.RowKit
section
variable {P : Program} {cx : Ctx} {n0 mk n : Nat} {ro : Option Ps} {F : Fence} {call : CallK}
theorem rangeIn_do (hC : CallOk P cx n0 call) {me : FuncId} {fn' : Func} (hme : cx.F.get (toPs me) = some (fn', mk)) (hn : n = fn'.ntmps) {f : Operand} {ps : Array Tmp} {as bd : Code} (hps : ∀ p ∈ ps.toList, p < n) (ha : codeOk n as) (hb : codeOk n bd) {e : Env} {h : Hp} {fv : RV} {d : Ps} {D : Nat} {r : Fin} {g g0 : Gh} {w w0 : World} {a : Act} {Q : Exit → Act → World → Prop}
    (hF : WideF F) (S : St cx n0 mk n g e h a w) (x0 : Ext n0 g0 w0 g w) (hfv : ev cx mk f e = some fv) (htx : textFn cx fv = true) (hd : g.μ d = some (D, 0)) (hr : rangeIn call me fv ps as bd d e h = some r)
    (hQ : ∀ g' a' w', Ext n0 g0 w0 g' w' → St cx n0 mk n g' r.env r.h a' w' → Q (exitOf r.e) a' w') (fn : FuncId) :
    ∃ (w₁ : World) (d' : Deferred) (w₁' : World) (f' : FuncId) (args : Array Value) (w₂ : World),
      w₁ = w.alloc (.loop { state := .ready, pending := none, fn, tmps := a.tmps, params := ps, assign := as, body := bd, defers := D }) ∧
      (resolve a.eval (rangeCall f w.heap.size) 0).run P w₁ = .ok d' w₁' ∧
      (invoke d'.target d'.args).run P w₁' = .ok (.enter f' args) w₂ ∧
      CallsIn F 0 P f' args w₂ (rangePost F 0 P w.heap.size Q a) := by
  obtain ⟨h1, r1, r2, r3, r4⟩ := Hp.new_ok hr
  obtain ⟨⟨u, h2⟩, r5, r6⟩ := bnd_inv r1
  -- the loop's record
  have hob : OR cx (g.add h.n w.heap.size 0 0) (w.alloc (.loop { state := .ready, pending := none, fn, tmps := a.tmps, params := ps, assign := as, body := bd, defers := D })) n0 h.n (.loop 0 none me e.glob ps as bd d) := by
    have hne : d ≠ h.n := fun e => by rw [e] at hd; rw [S.hr.fresh] at hd; cases hd
    refine ⟨w.heap.size, D, a.tmps, fn, by simp [Gh.add], S.le, by simp [Gh.add, hne, hd], by
      show (w.heap.push _)[w.heap.size]? = _
      simp [lsOf], fun fn'' mk' hf => ?_⟩
    rw [hme] at hf
    cases hf
    subst hn
    exact ⟨fun i v hv => by
      obtain ⟨V, v1, v2⟩ := S.er i v (Env.over_ok (e := e) hv)
      exact ⟨V, v1, v2.mono (Gh.add_le S.hr.fresh)⟩, S.sz, hps, ha, hb⟩
  obtain ⟨p1, p2⟩ := S.hr.alloc (O := .loop { state := .ready, pending := none, fn, tmps := a.tmps, params := ps, assign := as, body := bd, defers := D }) (x := 0) r2 r3 hob
  have hμ : (g.add h.n w.heap.size 0 0).μ h.n = some (w.heap.size, 0) := by simp [Gh.add]
  have hfv2 := (ev_ok S.hr S.er hfv).mono p2.le
  obtain ⟨f', fa, fc, rfl⟩ : ∃ f' fa fc, fv = .fn f' fa fc := by
    cases fv <;> first | exact ⟨_, _, _, rfl⟩ | cases htx
  obtain ⟨A, C, ha', hc', hV⟩ := hfv2.fn_inv
  have hyl : VRs (g.add h.n w.heap.size 0 0) [.yld h.n] (#[Value.func (.yield w.heap.size) #[] #[]] : Array Value).toList := .cons (.yld hμ) .nil
  obtain ⟨args, e1, e2⟩ := hC.enter F f' fa fc [.yld h.n] A C _ _ h1 h2 u _ a.defers hF p1 (Nat.le_trans S.le p2.size) (by rw [r4]; exact S.dr.mono p2.le) ha' hc' hyl htx r5
  refine ⟨_, { target := .fn (.func f') C, args := A ++ #[Value.func (.yield w.heap.size) #[] #[]] }, _, f', args, _, rfl, ?_, e1, ?_⟩
  · show (resolve a.eval (rangeCall f w.heap.size) 0).run P _ = .ok { target := .fn (.func f') C, args := A ++ #[Value.func (.yield w.heap.size) #[] #[]] } _
    have : (#[Operand.const (.func (.yield w.heap.size) #[] #[])] : Array Operand).map a.eval = #[Value.func (.yield w.heap.size) #[] #[]] := by simp; rfl
    simp only [resolve, this, hV, Deferred.ofValue, Sem.run_pure]
  · refine CallsIn.mono e2 fun en w3 ⟨V, hV', g3, x3, H3, _, hdr⟩ => ?_
    subst hV'
    have r6 : endRange h.n e h2 = some r := r6
    obtain ⟨o, k1, k2⟩ := bnd_inv r6
    split at k2
    · rename_i st pend fn1 gl1 ps1 as1 bd1 df1
      obtain ⟨k3, k4⟩ := ifB_none' k2
      obtain ⟨h3, k5, k6⟩ := bnd_inv k4
      obtain ⟨L, D1, tmps1, fn01, m1, m2, m3, m4, m5⟩ := H3.obj _ _ k1
      have hμ3 := x3.le.μ _ _ hμ
      rw [hμ3] at m1
      cases m1
      rw [nbeq_eq, decide_eq_false_iff_not] at k3
      obtain ⟨c1, c2, c3, c4⟩ := H3.loopPut k1 hμ3 m4 k5
      have hbusy : lsOf st ≠ .busy := by
        intro hb
        match st, k3 with
        | 0, _ => cases hb
        | 1, h => exact h rfl
        | 2, _ => cases hb
        | (k + 3), _ => cases hb
      have X : Ext n0 g w g3 (w3.putObj w.heap.size (.loop { state := .exhausted, pending := pend, fn := fn01, tmps := tmps1, params := ps1, assign := as1, body := bd1, defers := D1 })) := p2.trans (x3.trans c2)
      have S3 : St cx n0 mk n g3 e h3 a (w3.putObj w.heap.size (.loop { state := .exhausted, pending := pend, fn := fn01, tmps := tmps1, params := ps1, assign := as1, body := bd1, defers := D1 })) :=
        ⟨c1, Nat.le_trans S.le X.size, S.er.mono X.le, by rw [c3]; exact hdr, S.sz⟩
      refine ⟨pend, _, run_endLoop m4 hbusy, ?_⟩
      cases pend with
      | none =>
        cases k6
        exact hQ g3 a _ (x0.trans X) S3
      | some c =>
        obtain ⟨x, q1, q2⟩ := bnd_inv (show bnd (exOf c) (fun x => some (⟨x, e, h3⟩ : Fin)) = some r from k6)
        cases q2
        have hq := hQ g3 a _ (x0.trans X) S3
        show c.wpIn F 0 P Q a _
        unfold exOf at q1
        split at q1
        · cases q1; exact wpIn_exit hq
        · cases q1; exact wpIn_goto hq
        · cases q1; exact wpIn_ret hq
        · cases q1
    · cases k2
theorem range_do (hC : CallOk P cx n0 call) {me : FuncId} {fn' : Func} (hme : cx.F.get (toPs me) = some (fn', mk)) (hn : n = fn'.ntmps) {f : Operand} {ps : Array Tmp} {as bd : Code} (hps : ∀ p ∈ ps.toList, p < n) (ha : codeOk n as) (hb : codeOk n bd) :
    ExDo P cx n0 mk n ro (xRange cx mk call me ro f ps as bd) (.rangeFunc f ps as bd) := by
  intro e h r g w a F Q hr hF hro S hQ
  obtain ⟨fv, h1, h2⟩ := bnd_inv hr
  obtain ⟨h3, h4⟩ := ifB_none h2
  refine wpIn_rangeFunc fun fn _ => ?_
  cases ro with
  | none =>
    have hro' : F.round = none := hro
    obtain ⟨h1', r1, r2, r3, r4⟩ := Hp.new_ok (show h.new .dfd (fun d h => rangeIn call me fv ps as bd d e (h.push (.mark d))) = some r from h4)
    have hob : OR cx (g.add h.n w.heap.size 0 0) (w.alloc (.deferred (some []))) n0 h.n .dfd := ⟨w.heap.size, by simp [Gh.add], S.le, by show (w.heap.push _)[w.heap.size]? = _; simp⟩
    obtain ⟨p1, p2⟩ := S.hr.alloc (O := .deferred (some [])) (x := 0) r2 r3 hob
    have hμ : (g.add h.n w.heap.size 0 0).μ h.n = some (w.heap.size, 0) := by simp [Gh.add]
    have S1 : St cx n0 mk n (g.add h.n w.heap.size 0 0) e (h1'.push (.mark h.n)) { a with defers := [{ target := .collected w.heap.size, args := #[] }] ++ a.defers } (w.alloc (.deferred (some []))) := by
      refine ⟨⟨fun b o hb => p1.obj b o (by simpa using hb), fun b b' o o' h1 h2 => p1.sep b b' o o' (by simpa using h1) (by simpa using h2), fun b b' o cs ty h1 l1 h2 => p1.old b b' o cs ty (by simpa using h1) l1 (by simpa using h2), p1.lt, fun b p hp => by rw [Hp.n_push]; exact p1.dom b p hp, p1.glb, p1.base⟩,
        Nat.le_trans S.le p2.size, S.er.mono p2.le, ?_, S.sz⟩
      rw [Hp.df_push, r4]
      exact .mark hμ (S.dr.mono p2.le)
    obtain ⟨w₁, d', w₁', f', args, w₂, q1, q2, q3, q4⟩ := rangeIn_do (F := F) hC hme hn hps ha hb hF S1 p2 h1 h3 hμ r1 hQ fn
    refine ⟨w.heap.size + 1, [{ target := .collected w.heap.size, args := #[] }], w₁, d', w₁', f', args, w₂, ?_, ?_, fun f' _ => hF.fn f', q3, fun hs => (by rw [hF.depth] at hs; cases hs), ?_⟩
    · rw [hro', run_enterLoop_outer, q1]
    · have : (w.alloc (.deferred (some []))).heap.size = w.heap.size + 1 := by simp
      rw [← this]
      exact q2
    · have : (w.alloc (.deferred (some []))).heap.size = w.heap.size + 1 := by simp
      rw [← this]
      exact q4
  | some l0 =>
    obtain ⟨L, hro1, hro2⟩ := hro
    obtain ⟨d, h5, h6⟩ := bnd_inv (show bnd (dfOf h l0) (fun d => rangeIn call me fv ps as bd d e h) = some r from h4)
    obtain ⟨o, h7, h8⟩ := bnd_inv h5
    split at h8
    · rename_i st pend fn1 gl1 ps1 as1 bd1 df1
      cases h8
      obtain ⟨L', D, tmps, fn0, o1, o2, o3, o4, o5⟩ := S.hr.obj l0 _ h7
      rw [hro2] at o1
      cases o1
      obtain ⟨w₁, d', w₁', f', args, w₂, q1, q2, q3, q4⟩ := rangeIn_do (F := F) hC hme hn hps ha hb hF S (.refl n0 g w) h1 h3 o3 h6 hQ fn
      refine ⟨w.heap.size, [], w₁, d', w₁', f', args, w₂, ?_, q2, fun f' _ => hF.fn f', q3, fun hs => (by rw [hF.depth] at hs; cases hs), q4⟩
      rw [hro1, q1]
      unfold Instr.enterLoop
      simp only [Sem.run_bind, run_getLoop o4, Result.andThen_ok, Sem.run_pure, run_newObj_alloc]
    · cases h8
end
section
variable {P : Program} {cx : Ctx} {n0 : Nat}
/-- With so much fuel. -/
structure Level (P : Program) (cx : Ctx) (n0 m : Nat) (b : Both) : Prop where
  ex : ExOk P cx n0 b.ex
  call : CallOk P cx n0 b.call
  loop : ∀ (me : FuncId) (fn : Func) (mk : Nat) (ro : Option Ps) (c : Code), cx.F.get (toPs me) = some (fn, mk) → codeOk fn.ntmps c → LoopDo P cx n0 mk fn.ntmps ro (b.ex me mk ro (.loop c)) m c
/-- What is asked of the program, and of the tables. -/
structure Sound (P : Program) (cx : Ctx) (n0 : Nat) : Prop where
  tok : TOk P cx.Γ
  q : qAll P cx.Γ = true
  orders : P.follows .mixedOrders = true
  ftab : FTab P cx
  mtab : MTab P cx
  xok : XOk P cx
  known : KnownOk P cx n0
theorem level (hS : Sound P cx n0) : ∀ m, Level P cx n0 m (run cx m)
  | 0 => ⟨fun me fn mk ro c _ _ e h f g w a F Q hr => (by cases hr), ⟨fun F f xs FV XS g h h' v w ds _ _ _ _ _ _ hc => (by cases hc), fun F f a c xs A C X g h h' v w ds _ _ _ _ _ _ _ _ hc => (by cases hc)⟩, fun me fn mk ro c _ _ e h f g w a F Q hr => (by cases hr)⟩
  | m + 1 => by
    have ih := level hS m
    have hA : ∀ F, WideF F → AllDo P cx n0 F (run cx m).call := fun F hF => op_does hS.tok hS.q hS.mtab ih.call hF
    have loopS : ∀ (me : FuncId) (fn : Func) (mk : Nat) (ro : Option Ps) (c : Code), cx.F.get (toPs me) = some (fn, mk) → codeOk fn.ntmps c → LoopDo P cx n0 mk fn.ntmps ro ((run cx (m + 1)).ex me mk ro (.loop c)) (m + 1) c := fun me fn mk ro c hme hc =>
      rounds_do (ex := fun c => (run cx m).ex me mk ro c) (ih.ex me fn mk ro c hme hc) (ih.loop me fn mk ro c hme hc)
    refine ⟨fun me fn mk ro c hme hc => ?_, call_ok hS.tok hS.ftab hS.xok hS.known ih.ex, loopS⟩
    have exm : ∀ c, codeOk fn.ntmps c → ExDo P cx n0 mk fn.ntmps ro ((run cx m).ex me mk ro c) c := fun c hc => ih.ex me fn mk ro c hme hc
    show ExDo P cx n0 mk fn.ntmps ro (xBody cx mk me ro (fun c => (run cx m).ex me mk ro c) (run cx m).call c) c
    cases c with
    | skip => exact skip_do
    | label l => exact label_do l
    | region id ops d =>
      show ExDo P cx n0 mk fn.ntmps ro (ifB (okRo ro ops.toList) (ifB d (runDrawn cx mk (run cx m).call ops.toList (waitsOf ops.toList [])) (runOps cx mk (run cx m).call ops.toList ops.toList)) fun _ _ => none) (.region id ops d)
      cases hok : okRo ro ops.toList with
      | false => intro e h f g w a F Q hr; cases hr
      | true =>
        cases d with
        | true => exact regionD_do hS.tok hS.q hS.orders hA hc
        | false => exact region_do hA hc hok
    | seq x y => exact seq_do (ex := fun c => (run cx m).ex me mk ro c) (exm x hc.1) (exm y hc.2)
    | cond c x y => exact cond_do (ex := fun c => (run cx m).ex me mk ro c) (exm x hc.1) (exm y hc.2)
    | block id b => exact block_do (ex := fun c => (run cx m).ex me mk ro c) (exm b hc)
    | loop b => exact loop_do (ex := fun c => (run cx m).ex me mk ro c) (m := m + 1) (loopS me fn mk ro b hme hc)
    | scope b => exact scope_do (ex := fun c => (run cx m).ex me mk ro c) hc exm fun l rest hl => findLabel_ok (c := b) hc hl
    | exit i => exact exit_do i
    | goto l => exact goto_do l
    | ret => exact ret_do
    | rangeFunc f ps as bd => exact range_do ih.call hme rfl hc.1 hc.2.1 hc.2.2
    | refuse w => intro e h f g w a F Q hr; cases hr
end
end Go.E
end

section
/- E: a closed run, and what is asked of the tables by one look. No condition. -/
namespace Go.E
open Go Go.RowKit
noncomputable def codeChk (n : Nat) : Code → Bool
  | .region _ ops _ => ops.toList.all fun o => match o.dst with | some i => Nat.blt i n | none => true
  | .seq a b => codeChk n a && codeChk n b
  | .cond _ a b => codeChk n a && codeChk n b
  | .block _ b => codeChk n b
  | .loop b => codeChk n b
  | .scope b => codeChk n b
  | .rangeFunc _ ps a b => ps.toList.all (fun p => Nat.blt p n) && (codeChk n a && codeChk n b)
  | _ => true
theorem codeChk_ok {n : Nat} : ∀ {c : Code}, codeChk n c = true → codeOk n c
  | .region _ ops _, h => fun o ho i hi => by
    have := List.all_eq_true.1 (show (ops.toList.all fun o => match o.dst with | some i => Nat.blt i n | none => true) = true from h) o ho
    simp only [hi] at this
    rw [nblt_eq] at this
    simpa using this
  | .seq a b, h => by
    have h : (codeChk n a && codeChk n b) = true := h
    rw [Bool.and_eq_true] at h
    exact ⟨codeChk_ok h.1, codeChk_ok h.2⟩
  | .cond _ a b, h => by
    have h : (codeChk n a && codeChk n b) = true := h
    rw [Bool.and_eq_true] at h
    exact ⟨codeChk_ok h.1, codeChk_ok h.2⟩
  | .block _ b, h => codeChk_ok (c := b) h
  | .loop b, h => codeChk_ok (c := b) h
  | .scope b, h => codeChk_ok (c := b) h
  | .rangeFunc _ ps a b, h => by
    have h : (ps.toList.all (fun p => Nat.blt p n) && (codeChk n a && codeChk n b)) = true := h
    rw [Bool.and_eq_true, Bool.and_eq_true] at h
    exact ⟨fun p hp => by
      have := List.all_eq_true.1 h.1 p hp
      rw [nblt_eq] at this
      simpa using this, codeChk_ok h.2.1, codeChk_ok h.2.2⟩
  | .skip, _ => trivial
  | .label _, _ => trivial
  | .exit _, _ => trivial
  | .goto _, _ => trivial
  | .ret, _ => trivial
  | .refuse _, _ => trivial
/-- One function of the table, but that it is the program's. -/
noncomputable def fnChk (fm : Func × Nat) : Bool := match fm with
  | (fn, _) => !(fn.name == "runtime.NumGoroutine") && (match fn.body with | some c => codeChk fn.ntmps c | none => true)
theorem ftab_of {P : Program} {cx : Ctx} (h : cx.F.allP (fun _ fm => fnChk fm) = true) (hp : ∀ f fn mk, cx.F.get (toPs f) = some (fn, mk) → P.funcs[f]? = some fn) : FTab P cx := by
  intro f fn mk hf
  have := Tr.allP_ok h hf
  have h2 : (!(fn.name == "runtime.NumGoroutine") && (match fn.body with | some c => codeChk fn.ntmps c | none => true)) = true := this
  rw [Bool.and_eq_true] at h2
  refine ⟨hp f fn mk hf, by simpa using h2.1, fun code hc => ?_⟩
  have h3 := h2.2
  rw [hc] at h3
  exact codeChk_ok h3
/-- A list of functions as a tree's, in their order: what stands at a place is what stands there in the list. -/
def OfList {α : Type} (t : Tr α) (l : List α) : Prop := ∀ i a, t.get (toPs i) = some a → l[i]? = some a
noncomputable def methChk (P : Program) (t : TypeId) (m : String) (f : FuncId) : Bool := match P.info? t, P.underlying t with
  | some i, some (.pointer _) => (match i.methods.find? (·.name == m) with
    | some r => r.path.isEmpty && (match r.func with | some (f', true) => Nat.beq f' f | _ => false)
    | none => false)
  | _, _ => false
theorem meth_run {P : Program} {t : TypeId} {m : String} {f : FuncId} (h : methChk P t m f = true) {k : Nat} (a : Addr) (w : World) : (method (k + 1) t (.pointer (some a)) m).run P w = .ok (f, .pointer (some a)) w := by
  unfold methChk at h
  split at h
  · rename_i i el hi hu
    split at h
    · rename_i r hr
      rw [Bool.and_eq_true] at h
      obtain ⟨h1, h2⟩ := h
      split at h2
      · rename_i f' hf
        rw [nbeq_eq, decide_eq_true_eq] at h2
        subst h2
        have hp : r.path.toList = [] := by
          have : r.path = #[] := by simpa using h1
          rw [this]
        have hp2 : r.path.isEmpty = true := h1
        unfold method
        simp only [Sem.run_bind, run_typeInfo hi, Result.andThen_ok, hr, hp, follow, Sem.run_pure, hf, hp2, if_true, receiverAt, run_underlying hu, Place.get]
      · cases h2
    · cases h
  · cases h
theorem made_pos : ∃ d, Made.depth = d + 1 := ⟨_, rfl⟩
theorem mtab_of {P : Program} {cx : Ctx} (h : cx.M.allP (fun p l => l.all fun x => methChk P p.num x.1 x.2) = true) : MTab P cx := by
  intro t m f hm a w
  obtain ⟨l, h1, h2⟩ := bnd_inv hm
  have hl := Tr.allP_ok h h1
  rw [toPs_num] at hl
  have key : ∀ (l : List (String × FuncId)), (l.all fun x => methChk P t x.1 x.2) = true → (List.rec (none : Option FuncId) (fun a _ ih => Prod.rec (fun k f => ifB (k == m) (some f) ih) a) l : Option FuncId) = some f → methChk P t m f = true := by
    intro l
    induction l with
    | nil => intro _ h; cases h
    | cons x l ih =>
      obtain ⟨k, f'⟩ := x
      intro h1 h2
      rw [List.all_cons, Bool.and_eq_true] at h1
      have h2 : ifB (k == m) (some f') (List.rec (none : Option FuncId) (fun a _ ih => Prod.rec (fun k f => ifB (k == m) (some f) ih) a) l : Option FuncId) = some f := h2
      cases hk : (k == m) with
      | true =>
        rw [hk] at h2
        cases h2
        rw [beq_iff_eq] at hk
        rw [← hk]
        exact h1.1
      | false =>
        rw [hk] at h2
        exact ih h1.2 h2
  obtain ⟨d, hd⟩ := made_pos
  rw [hd, show P.types.size + (d + 1) = (P.types.size + d) + 1 from rfl]
  exact meth_run (key l hl h2) a w
theorem xok_of {P : Program} {cx : Ctx} (hp : ∀ f x, cx.X.get (toPs f) = some x → ∃ fn e, P.funcs[f]? = some fn ∧ fn.body = none ∧ (fn.name == "runtime.NumGoroutine") = false ∧ (Extern.findNext fn).isNone = true ∧ Extern.find fn = some e ∧ xtRow P x e) : XOk P cx := hp
section
variable {P : Program} {cx : Ctx}
/-- A run at arguments of which so much is told. -/
theorem run_ok (hS : Sound P cx cx.w0.heap.size) (hG : cx.G = .nil) {m : Nat} {f : FuncId} {xs : List RV} {XS : Array Value} {b : Bool} {h' : Hp} (hr : (run cx m).call (.fn f [] []) xs ⟨.nil, .h, []⟩ = some ⟨.bool b, h'⟩) (ht : textFn cx (.fn f [] []) = true)
    (hx : VRs ⟨fun _ => none, fun _ => 0, cx.o⟩ xs XS.toList) : Calls P f XS cx.w0 fun en w' => en = .returned (.bool b) ∧ Below cx.w0.heap.size cx.w0 w' := by
  let g : Gh := ⟨fun _ => none, fun _ => 0, cx.o⟩
  have H : HR cx g ⟨.nil, .h, []⟩ cx.w0 cx.w0.heap.size := by
    refine ⟨fun b o hb => ?_, fun b b' o o' hb => ?_, fun b b' o cs ty hb => ?_, fun b B o hb => (by cases hb), fun b p hb => (by cases hb), fun i b hb => ?_, ⟨rfl, Nat.le_refl _, .refl _ _⟩⟩
    · rw [Hp.get_eq] at hb; cases hb
    · rw [Hp.get_eq] at hb; cases hb
    · rw [Hp.get_eq] at hb; cases hb
    · rw [hG] at hb; cases hb
  obtain ⟨args, e1, e2⟩ := (level hS m).call.enter Fence.wide f [] [] xs #[] #[] XS g _ h' _ cx.w0 [] wideF H (Nat.le_refl _) .nil .nil .nil hx ht hr
  have hargs : args = XS := by
    obtain ⟨fn, mk, code, t1, t2⟩ := textFn_inv ht
    have := callFunc_enter hS.ftab t1 t2 ((#[] ++ XS) ++ #[]) cx.w0
    have e1 : (callFunc f ((#[] ++ XS) ++ #[])).run P cx.w0 = .ok (.enter f args) cx.w0 := e1
    rw [this] at e1
    injection e1 with e1 _
    injection e1 with _ e1
    rw [← e1]
    simp
  subst hargs
  refine callsIn_wide.1 (CallsIn.mono e2 fun en w' ⟨V, h1, g', x1, _, x3, _⟩ => ⟨?_, x1.os, x1.tape, x1.output, x1.size, fun k hk => x1.keep k hk (.inl hk)⟩)
  rw [h1, x3.bool_inv]
theorem answer_inv {o : Option Out} (h : answer o = true) : ∃ h', o = some ⟨.bool true, h'⟩ := by
  cases o with
  | none => cases h
  | some o =>
    obtain ⟨v, h'⟩ := o
    cases v <;> first
      | (cases h; done)
      | skip
    rename_i b
    have h : b = true := h
    subst h
    exact ⟨h', rfl⟩
theorem closed_ok (hS : Sound P cx cx.w0.heap.size) (hG : cx.G = .nil) {m : Nat} {f : FuncId} (h : runClosed cx m f = true) (ht : textFn cx (.fn f [] []) = true) : Calls P f #[] cx.w0 fun en w' => en = .returned (.bool true) ∧ Below cx.w0.heap.size cx.w0 w' := by
  obtain ⟨h', hr⟩ := answer_inv h
  exact run_ok hS hG hr ht .nil
/-- The program's functions, in their order. -/
theorem funs_of {P : Program} {F : Tr (Func × Nat)} {N : Nat} (h1 : (List.range N).map (fun i => (F.get (toPs i)).map Prod.fst) = P.funcs.toList.map some) (h2 : F.allP (fun p _ => Nat.blt p.num N) = true) : ∀ f fn mk, F.get (toPs f) = some (fn, mk) → P.funcs[f]? = some fn := by
  intro f fn mk hf
  have hlt := Tr.allP_ok h2 hf
  rw [toPs_num, nblt_eq, decide_eq_true_eq] at hlt
  have := congrArg (·[f]?) h1
  simp only [List.getElem?_map, List.getElem?_range hlt, Option.map_some, hf, Array.getElem?_toList] at this
  cases hp : P.funcs[f]? with
  | none => rw [hp] at this; cases this
  | some fn' =>
    rw [hp] at this
    simpa using this.symm
def xtNo : Xt → Nat
  | .cmpstring => 0
  | .indexByteString => 1
  | .load32 => 2
  | .store32 => 3
  | .add32 => 4
  | .cas32 => 5
  | .nothing => 6
  | .race => 7
  | .noEscape => 8
theorem xtNo_inj {a b : Xt} (h : Nat.beq (xtNo a) (xtNo b) = true) : a = b := by cases a <;> cases b <;> first | rfl | cases h
noncomputable def xIn (l : List (Nat × Xt)) (n : Nat) (x : Xt) : Bool := l.any fun q => Nat.beq q.1 n && Nat.beq (xtNo q.2) (xtNo x)
/-- A function without a text. -/
def XFn (P : Program) (f : FuncId) (x : Xt) : Prop := ∃ fn e, P.funcs[f]? = some fn ∧ fn.body = none ∧ (fn.name == "runtime.NumGoroutine") = false ∧ (Extern.findNext fn).isNone = true ∧ Extern.find fn = some e ∧ xtRow P x e
theorem xok_list {P : Program} {cx : Ctx} {l : List (Nat × Xt)} (h : cx.X.allP (fun p x => xIn l p.num x) = true) (hl : ∀ q ∈ l, XFn P q.1 q.2) : XOk P cx := by
  intro f x hf
  have := Tr.allP_ok h hf
  rw [toPs_num] at this
  obtain ⟨q, q1, q2⟩ := List.any_eq_true.1 this
  rw [Bool.and_eq_true] at q2
  have h1 : q.1 = f := by have := q2.1; rw [nbeq_eq, decide_eq_true_eq] at this; exact this
  have h2 := xtNo_inj q2.2
  subst h1 h2
  exact hl q q1
end
end Go.E
end

section
/- E: a function at a row of known cells: what it answers, wherever the row lies. No condition. -/
namespace Go.E
open Go Go.RowKit
theorem ifB_false_inv {c a : Bool} (h : ifB c a false = true) : c = true ∧ a = true := by
  cases c with
  | true => exact ⟨rfl, h⟩
  | false => cases h
noncomputable def eqF (a b : RV) : Bool := match a with
  | .bool x => (match b with | .bool y => ifB x y (not y) | _ => false)
  | .int k x => (match b with | .int k' y => ifB (kEq k k') (eqI x y) false | _ => false)
  | .str l => (match b with | .str m => eqL l m | _ => false)
  | _ => false
theorem eqF_ok {a b : RV} (h : eqF a b = true) : a = b ∧ ∀ (g g' : Gh) (V : Value), VR g b V → VR g' b V := by
  cases a <;> cases b <;> first
    | (cases h; done)
    | skip
  · rename_i x y
    refine ⟨?_, fun g g' V hV => by cases hV; exact .bool _⟩
    cases x <;> cases y <;> first | rfl | cases h
  · rename_i k x k' y
    obtain ⟨h1, h2⟩ := ifB_false_inv (show ifB (kEq k k') (eqI x y) false = true from h)
    rw [eqI_eq, decide_eq_true_eq] at h2
    exact ⟨by rw [kEq_eq h1, h2], fun g g' V hV => by cases hV; exact .int _ _⟩
  · rename_i l m
    have h : eqL l m = true := h
    rw [eqL_eq, decide_eq_true_eq] at h
    exact ⟨by rw [h], fun g g' V hV => by
      cases hV with
      | str _ s hs => exact .str _ s hs⟩
noncomputable def eqFs (l : List RV) : List RV → Bool :=
  List.rec (fun m => List.rec true (fun _ _ _ => false) m) (fun a _ ih m => List.rec false (fun b s _ => ifB (eqF a b) (ih s) false) m) l
theorem eqFs_ok : ∀ {l m : List RV}, eqFs l m = true → l = m ∧ ∀ (g g' : Gh) (L : List Value), VRs g m L → VRs g' m L
  | [], [], _ => ⟨rfl, fun g g' L h => by cases h; exact .nil⟩
  | [], _ :: _, h => by cases h
  | _ :: _, [], h => by cases h
  | a :: l, b :: m, h => by
    obtain ⟨h1, h2⟩ := ifB_false_inv (show ifB (eqF a b) (eqFs l m) false = true from h)
    obtain ⟨rfl, k1⟩ := eqF_ok h1
    obtain ⟨rfl, k2⟩ := eqFs_ok h2
    exact ⟨rfl, fun g g' L hL => by
      cases hL with
      | cons x xs => exact .cons (k1 _ _ _ x) (k2 _ _ _ xs)⟩
/-- What a call at one row answers, told of its cells. -/
noncomputable def rowT (L n : Nat) (ty : TypeId) (cells : List RV) (v : RV) : List RV → Hp → Option RV := fun xs h => match xs with
  | [.sl b off len cap _] => ifB (Nat.beq len L) (ifB (Nat.ble len cap) (getR h b fun cs ty' => ifB (Nat.beq ty' ty) (bnd (takeS (dropL cs off) n) fun l => ifB (eqFs l cells) (some v) none) none) none) none
  | _ => none
theorem rowT_inv {L n : Nat} {ty : TypeId} {cells : List RV} {v y : RV} {xs : List RV} {h : Hp} (hn : n ≠ 0) (hr : rowT L n ty cells v xs h = some y) :
    ∃ b off cap t cs l, xs = [.sl b off L cap t] ∧ L ≤ cap ∧ ((∃ sz lo hi anc, h.get b = some (.cells cs ty sz lo hi anc)) ∨ h.get b = some (.old cs ty)) ∧ off + l.length ≤ cs.length ∧ l = (cs.drop off).take l.length ∧ eqFs l cells = true ∧ y = v := by
  unfold rowT at hr
  split at hr
  · rename_i b off len cap t
    obtain ⟨h1, h2⟩ := ifB_none hr
    obtain ⟨h3, h4⟩ := ifB_none h2
    obtain ⟨cs, ty', h5, h6⟩ := getR_ok h4
    obtain ⟨h7, h8⟩ := ifB_none h6
    obtain ⟨l, h9, h10⟩ := bnd_inv h8
    obtain ⟨h11, h12⟩ := ifB_none h10
    rw [nbeq_eq, decide_eq_true_eq] at h1 h7
    rw [nble_eq, decide_eq_true_eq] at h3
    subst h1 h7
    rw [dropL_eq] at h9
    obtain ⟨k1, k2⟩ := takeS_ok h9
    rw [List.length_drop] at k1
    have k3 : l.length = n := by rw [k2, List.length_take, List.length_drop]; omega
    exact ⟨b, off, cap, t, cs, l, rfl, h3, h5, by omega, by rw [k3]; exact k2, h11, (Option.some.inj h12).symm⟩
  · cases hr
section
variable {P : Program} {cx : Ctx}
/-- A run from any memory, to a value that is no place. -/
theorem run_gen (hS : Sound P cx cx.w0.heap.size) {m : Nat} {f : FuncId} {xs : List RV} {XS : Array Value} {g : Gh} {h h' : Hp} {v : RV} (H : HR cx g h cx.w0 cx.w0.heap.size) (hd : h.df = []) (hr : (run cx m).call (.fn f [] []) xs h = some ⟨v, h'⟩) (ht : textFn cx (.fn f [] []) = true)
    (hx : VRs g xs XS.toList) : Calls P f XS cx.w0 fun en w' => (∃ g' V, en = .returned V ∧ VR g' v V) ∧ Below cx.w0.heap.size cx.w0 w' := by
  obtain ⟨args, e1, e2⟩ := (level hS m).call.enter Fence.wide f [] [] xs #[] #[] XS g h h' _ cx.w0 [] wideF H (Nat.le_refl _) (by rw [hd]; exact .nil) .nil .nil hx ht hr
  have hargs : args = XS := by
    obtain ⟨fn, mk, code, t1, t2⟩ := textFn_inv ht
    have := callFunc_enter hS.ftab t1 t2 ((#[] ++ XS) ++ #[]) cx.w0
    have e1 : (callFunc f ((#[] ++ XS) ++ #[])).run P cx.w0 = .ok (.enter f args) cx.w0 := e1
    rw [this] at e1
    injection e1 with e1 _
    injection e1 with _ e1
    rw [← e1]
    simp
  subst hargs
  exact callsIn_wide.1 (CallsIn.mono e2 fun en w' ⟨V, h1, g', x1, _, x3, _⟩ => ⟨⟨g', V, h1, x3⟩, x1.os, x1.tape, x1.output, x1.size, fun k hk => x1.keep k hk (.inl hk)⟩)
end
/-- A value that is no place and no text. -/
noncomputable def numV : RV → Option Value
  | .bool b => some (.bool b)
  | .int k n => some (.int k n)
  | _ => none
theorem numV_ok {v : RV} {V : Value} (h : numV v = some V) : (∀ g, VR g v V) ∧ ∀ g V', VR g v V' → V' = V := by
  cases v <;> first | (cases h; done) | skip
  · cases h
    exact ⟨fun g => .bool _, fun g V' hV => by cases hV; rfl⟩
  · cases h
    exact ⟨fun g => .int _ _, fun g V' hV => by cases hV; rfl⟩
noncomputable def rowH (cells : List RV) (ty : TypeId) : Hp := ⟨.node .nil (some (.old cells ty)) .nil, .o .h, []⟩
noncomputable def ansV (o : Option Out) (v : RV) : Bool := match o with
  | some ⟨x, _⟩ => eqF x v
  | none => false
theorem row_known {P : Program} {cxw : World → Ctx} (hw : ∀ w, (cxw w).w0 = w) (hG : ∀ w, (cxw w).G = .nil) (hS : ∀ w, Sound P (cxw w) w.heap.size) {m : Nat} {f : FuncId} {L n : Nat} {ty : TypeId} {cells : List RV} {v : RV} {V : Value} (hn : n ≠ 0)
    (hr : ∀ w, ansV ((run (cxw w) m).call (.fn f [] []) [.sl .h 0 L L false] (rowH cells ty)) v = true) (ht : ∀ w, textFn (cxw w) (.fn f [] []) = true) (hv : numV v = some V)
    {cx : Ctx} {n0 : Nat} {xs : List RV} {h : Hp} {y : RV} (hy : rowT L n ty cells v xs h = some y) {g : Gh} {w : World} {XS : Array Value} (H : HR cx g h w n0) (hxs : VRs g xs XS.toList) :
    ∃ V, VR g y V ∧ Calls P f XS w fun en w' => en = .returned V ∧ Below w.heap.size w w' := by
  obtain ⟨b, off, cap, t, cs, l, rfl, hLc, hb, hl, hl2, hq, rfl⟩ := rowT_inv hn hy
  obtain ⟨hv1, hv2⟩ := numV_ok hv
  refine ⟨V, hv1 _, ?_⟩
  obtain ⟨rfl, hflat⟩ := eqFs_ok hq
  obtain ⟨B, o, CS, fz, k1, k2, k3, k4, k5⟩ := H.read hb
  have hX : ∃ CAP, XS = #[.slice (some ⟨B, o + off, none⟩) L CAP] ∧ L ≤ CAP := by
    generalize hE : XS.toList = E at hxs
    cases hxs with
    | cons x rest =>
      cases rest
      cases x with
      | sl _ _ _ _ CAP hm hc =>
        rw [k1] at hm
        cases hm
        refine ⟨CAP, by rw [← Array.toList_inj, hE], ?_⟩
        rw [hc]
        split <;> omega
  obtain ⟨CAP, rfl, hCAP⟩ := hX
  let g' : Gh := ⟨fun p => if p = .h then some (B, o + off) else none, fun _ => CAP - L, (cxw w).o⟩
  have hget : ∀ p q, (rowH l ty).get p = some q → p = .h ∧ q = .old l ty := by
    intro p q hq
    cases p with
    | h => exact ⟨rfl, (Option.some.inj hq).symm⟩
    | o p => cases hq
    | i p => cases hq
  have hlt : B < w.heap.size := (Array.getElem?_eq_some_iff.1 k2).1
  have HH : HR (cxw w) g' (rowH l ty) w w.heap.size := by
    refine ⟨fun p q hq => ?_, fun p p' q q' hq hq' h1 h2 => ?_, fun p p' q cs ty hq h1 => ?_, fun p B' o' hp => ?_, fun p z hp => ?_, fun i p hp => ?_, ⟨rfl, by rw [hw]; exact Nat.le_refl _, by rw [hw]; exact .refl _ _⟩⟩
    · obtain ⟨rfl, rfl⟩ := hget p q hq
      refine ⟨B, o + off, CS, fz, rfl, k2, by omega, ?_, fun u hu => k5 u (by rw [hl2] at hu; exact List.mem_of_mem_drop (List.mem_of_mem_take hu))⟩
      have e : (CS.toList.drop (o + off)).take l.length = ((((CS.toList.drop o).take cs.length).drop off).take l.length) := by
        rw [List.drop_take, List.take_take, List.drop_drop, Nat.min_eq_left (by omega)]
      rw [e]
      refine hflat g g' _ ?_
      have := (k4.drop off).take l.length
      rw [← hl2] at this
      exact this
    · obtain ⟨rfl, rfl⟩ := hget p q hq
      cases h1
    · obtain ⟨rfl, rfl⟩ := hget p q hq
      cases h1
    · have hp : (if p = .h then some (B, o + off) else none) = some (B', o') := hp
      split at hp
      · cases hp; exact hlt
      · cases hp
    · have hp : (if p = .h then some (B, o + off) else none) = some z := hp
      split at hp
      · rename_i h0
        rw [h0]; exact (by decide : Ps.h.num < (Ps.o .h).num)
      · cases hp
    · rw [hG] at hp; cases hp
  have hr := hr w
  cases hR : (run (cxw w) m).call (.fn f [] []) [.sl .h 0 L L false] (rowH l ty) with
  | none => rw [hR] at hr; cases hr
  | some z =>
    obtain ⟨u, h'⟩ := z
    rw [hR] at hr
    obtain ⟨rfl, _⟩ := eqF_ok (show eqF u y = true from hr)
    have hSw := hS w
    have hww := hw w
    have HH' : HR (cxw w) g' (rowH l ty) (cxw w).w0 (cxw w).w0.heap.size := by rw [hww]; exact HH
    have hS' : Sound P (cxw w) (cxw w).w0.heap.size := by rw [hww]; exact hSw
    have := run_gen hS' HH' rfl hR (ht w) (XS := #[.slice (some ⟨B, o + off, none⟩) L CAP]) (.cons (.sl (b := .h) (B := B) (o := o + off) 0 L L false CAP rfl (by show CAP = L + (CAP - L); omega)) .nil)
    rw [hww] at this
    refine this.mono fun en w' ⟨⟨g'', V', e, hV'⟩, hbel⟩ => ⟨?_, hbel⟩
    rw [e, hv2 _ _ hV']
end Go.E
end
