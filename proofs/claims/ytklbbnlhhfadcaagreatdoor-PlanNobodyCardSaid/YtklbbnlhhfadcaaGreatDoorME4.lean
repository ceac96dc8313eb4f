/- The walk of the law, from what reads as data. No condition. -/
import Derived.Test.YtklbbnlhhfadcaaGreatDoorME3
import Derived.Test.YtklbbnlhhfadcaaGreatDoorME5
import Derived.Test.YtklbbnlhhfadcaaGreatDoorMGreatDoorFw8
import Derived.Test.YtklbbnlhhfadcaaGreatDoorRows
import Derived.WideShapes
set_option maxRecDepth 100000
namespace Go.Proofs.YtklbbnlhhfadcaaGreatDoor.planNobody
open Go Go.E Go.RowKit Go.Wd Go.Rq Go.WideShapes
theorem vrs1 {g : Gh} {a : RV} {l : List RV} {L : List Value} (h : VRs g (a :: l) L) : ∃ A L', L = A :: L' ∧ VR g a A ∧ VRs g l L' := by
  cases h with
  | cons h hs => exact ⟨_, _, rfl, h, hs⟩
theorem vrs0 {g : Gh} {L : List Value} (h : VRs g [] L) : L = [] := by
  cases h; rfl
theorem vrs_nums {g : Gh} : ∀ {l : List RV} {L : List Value} {ns : List Nat}, VRs g l L → nums l = some ns → L = ns.map g.o
  | [], L, ns, h, hn => by
    cases hn
    rw [vrs0 h]; rfl
  | v :: l, L, ns, h, hn => by
    obtain ⟨A, L', rfl, h1, h2⟩ := vrs1 h
    unfold nums at hn
    split at hn
    · obtain ⟨r, h3, h4⟩ := bnd_inv hn
      cases h4
      rw [vrs_nums h2 h3, ← h1.opq_inv.1]; rfl
    · obtain ⟨r, h3, h4⟩ := bnd_inv hn
      cases h4
      obtain ⟨s, rfl, h5, _⟩ := h1.ops_inv
      rw [vrs_nums h2 h3, ← h5]; rfl
    · cases hn
theorem eqL_ok {a b : List Nat} (h : eqL a b = true) : a = b := by
  rw [eqL_eq, decide_eq_true_eq] at h; exact h
theorem reqT_inv {a n : Nat} {v u : RV} {xs : List RV} {h : Hp} (hv : reqT a n v xs h = some u) : ∃ l, xs = [.agg l] ∧ nums l = some (evens a n) ∧ u = v := by
  unfold reqT at hv
  split at hv
  · rename_i l
    obtain ⟨ns, h1, h2⟩ := bnd_inv hv
    obtain ⟨h3, h4⟩ := ifB_none h2
    exact ⟨l, rfl, by rw [h1, eqL_ok h3], (Option.some.inj h4).symm⟩
  · cases hv
theorem leftT_inv {a n : Nat} {v u : RV} {xs : List RV} {h : Hp} (hv : leftT a n v xs h = some u) : ∃ l, xs = [.agg l, .int .i64 70] ∧ nums l = some (evens a n) ∧ u = v := by
  unfold leftT at hv
  split at hv
  · rename_i l k z
    obtain ⟨ns, h1, h2⟩ := bnd_inv hv
    obtain ⟨h3, h4⟩ := ifB_none h2
    obtain ⟨h5, h6⟩ := ifB_none h4
    obtain ⟨h7, h8⟩ := ifB_none h6
    have := kEq_eq h5
    subst this
    rw [eqI_eq, decide_eq_true_eq] at h7
    subst h7
    exact ⟨l, rfl, by rw [h1, eqL_ok h3], (Option.some.inj h8).symm⟩
  · cases hv
theorem get_set {α : Type} {T : Tr α} {a t : α} {p f : Nat} (h : ((T.set a (toPs p)).getD .nil).get (toPs f) = some t) : (f = p ∧ t = a) ∨ T.get (toPs f) = some t := by
  cases e : T.set a (toPs p) with
  | none => rw [e] at h; cases h
  | some T' =>
    rw [e] at h
    have h4 : T'.get (toPs f) = some t := h
    rw [Tr.set_ok e] at h4
    split at h4
    · rename_i hq
      exact .inl ⟨(toPs_inj hq), (Option.some.inj h4).symm⟩
    · exact .inr h4
theorem known_inv {b s : Bool} {q : Nat} {w : World} {o : Nat → Value} {f : FuncId} {xs : List RV} {h : Hp} {v : RV} (hv : knownV (cxT (T0 b q s) w o) f xs h = some v) :
    (f = 6 ∧ awakeT xs h = some v) ∨ (f = 34 ∧ reqT 104 11 (.bool s) xs h = some v) ∨ (f = 14 ∧ leftT 104 11 (.opq q 200) xs h = some v) ∨ (f = 32 ∧ reqT 4 2 (.bool b) xs h = some v) := by
  obtain ⟨t, h1, h2⟩ := bnd_inv hv
  have h3 : (T0 b q s).get (toPs f) = some t := h1
  unfold T0 at h3
  rcases get_set h3 with ⟨rfl, rfl⟩ | h3
  · exact .inl ⟨rfl, h2⟩
  rcases get_set h3 with ⟨rfl, rfl⟩ | h3
  · exact .inr (.inl ⟨rfl, h2⟩)
  rcases get_set h3 with ⟨rfl, rfl⟩ | h3
  · exact .inr (.inr (.inl ⟨rfl, h2⟩))
  rcases get_set h3 with ⟨rfl, rfl⟩ | h3
  · exact .inr (.inr (.inr ⟨rfl, h2⟩))
  · cases h3
def lenOf : Value → Value
  | .string s => .int .i64 s.size
  | _ => .nilFunc
def oF (kd : Int) (akey : ByteArray) (e : Ent) (lkey : ByteArray) (sc : Int) (f : Flt) (r24 : Int) : Nat → Value := fun n => if n = 200 then .int .i64 r24 else if n = 101 then .int .i64 lkey.size else if n = 3 then .int .i64 akey.size else if 100 ≤ n then ([.string lkey, .int .i64 sc, .int .i64 f.kind, .string f.name, .string f.value, .string f.ini, f.any.val, .string f.fin, .bool f.hi, .bool f.hf, .string f.rule, .bool f.dn, f.kids.val] : List Value).getD ((n - 100) / 2) .nilFunc else ([.int .i64 kd, .string akey, e.1.val, e.2.val] : List Value).getD (n / 2) .nilFunc
theorem okq3 {i : Int} (h : i < 0) : okq 3 (.int .i64 i) := okq_lt (c := 0) h
theorem okq4 {i : Int} (h : 0 ≤ i) : okq 4 (.int .i64 i) := okq_ge (c := 0) h
theorem okq12 {i : Int} (h : 4 ≤ i) : okq 12 (.int .i64 i) := okq_ge (c := 4) h
section
variable {kd : Int} {akey : ByteArray} {e : Ent} {lkey : ByteArray} {sc : Int} {f : Flt} {r24 : Int}
theorem o_req : (evens 4 2).map (oF kd akey e lkey sc f r24) = e.cells := by kernel_rfl
theorem o_flt : (evens 104 11).map (oF kd akey e lkey sc f r24) = f.cells := by kernel_rfl
theorem o_k : oF kd akey e lkey sc f r24 2 = .string akey := by kernel_rfl
theorem l_k : oF kd akey e lkey sc f r24 3 = .int .i64 akey.size := by kernel_rfl
theorem o_y : oF kd akey e lkey sc f r24 100 = .string lkey := by kernel_rfl
theorem l_y : oF kd akey e lkey sc f r24 101 = .int .i64 lkey.size := by kernel_rfl
theorem o_0 : oF kd akey e lkey sc f r24 0 = .int .i64 kd := by kernel_rfl
theorem o_left : oF kd akey e lkey sc f r24 200 = .int .i64 r24 := rfl
theorem so (s : ByteArray) : (∀ cs, Value.string s ≠ .agg cs) ∧ ∀ vs, Value.string s ≠ .tuple vs := ⟨fun _ h => (by cases h), fun _ h => (by cases h)⟩
theorem io (i : Int) : (∀ cs, Value.int .i64 i ≠ .agg cs) ∧ ∀ vs, Value.int .i64 i ≠ .tuple vs := ⟨fun _ h => (by cases h), fun _ h => (by cases h)⟩
theorem bo (i : Bool) : (∀ cs, Value.bool i ≠ .agg cs) ∧ ∀ vs, Value.bool i ≠ .tuple vs := ⟨fun _ h => (by cases h), fun _ h => (by cases h)⟩
theorem ho (i : Hd) : (∀ cs, i.val ≠ .agg cs) ∧ ∀ vs, i.val ≠ .tuple vs := ⟨fun _ h => (by cases h), fun _ h => (by cases h)⟩
theorem vr_any {g : Gh} {k : Nat} {s : ByteArray} (h : g.o k = .string s) : VR g (.opq 1 k) (.string s) := .opq 1 k h (okq_str _) (so _)
theorem bytes_ne (s : ByteArray) (q : Nat) (hq : 256 ≤ q) : ∀ l ∈ [[q]], s.data.toList.map UInt8.toNat ≠ l := fun l hl e => by
  rw [List.mem_singleton.1 hl] at e
  have : q ∈ s.data.toList.map UInt8.toNat := by rw [e]; exact List.mem_singleton.2 rfl
  obtain ⟨b, _, hb⟩ := List.mem_map.1 this
  have := b.toNat_lt
  omega
theorem vr_le {g : Gh} {k m : Nat} (c : Nat) {s : ByteArray} (hm : m = 1000 + (2 * c + 3)) (h : g.o k = .string s) (h1 : g.o (k + 1) = .int .i64 s.size) (hc : (s.size : Int) < c) : VR g (.ops k [[m]]) (.string s) := by
  subst hm
  exact .ops k _ s h (bytes_ne s _ (by omega)) (fun q l xs e _ => by
    cases e
    exact ⟨h1, by rw [Nat.add_sub_cancel_left]; exact okq_lt hc⟩)
theorem vr_gt {g : Gh} {k m : Nat} (c : Nat) {s : ByteArray} (hm : m = 1000 + (2 * c + 4)) (h : g.o k = .string s) (h1 : g.o (k + 1) = .int .i64 s.size) (hc : (c : Int) ≤ s.size) : VR g (.ops k [[m]]) (.string s) := by
  subst hm
  exact .ops k _ s h (bytes_ne s _ (by omega)) (fun q l xs e _ => by
    cases e
    exact ⟨h1, by rw [Nat.add_sub_cancel_left]; exact okq_ge hc⟩)
theorem known_ok (W : World) {b s : Bool} {q : Nat} (h26 : ∀ w, Bel W w → Calls Tryz.prog 32 #[e.val] w fun en w' => en = .returned (.bool b) ∧ Bel w w')
    (h24 : ∀ w, Bel W w → Calls Tryz.prog 14 #[f.val, .int .i64 70] w fun en w' => en = .returned (.int .i64 r24) ∧ Bel w w') (h29 : ∀ w, Bel W w → Calls Tryz.prog 34 #[f.val] w fun en w' => en = .returned (.bool s) ∧ Bel w w')
    (hq : okq q (.int .i64 r24)) : KnownOk Tryz.prog (cxT (T0 b q s) W (oF kd akey e lkey sc f r24)) W.heap.size := by
  intro fi xs h v hv g w XS H hxs
  have ho : g.o = oF kd akey e lkey sc f r24 := H.base.o
  have hbel : Bel W w := H.base.below
  rcases known_inv hv with ⟨rfl, ha⟩ | ⟨rfl, ha⟩ | ⟨rfl, ha⟩ | ⟨rfl, ha⟩
  · have ex : xs = [] := by
      unfold awakeT at ha
      split at ha
      · rfl
      · cases ha
    subst ex
    have ev : v = .bool true := (Option.some.inj ha).symm
    subst ev
    refine ⟨?_, .bool true, .bool true, ?_⟩
    · obtain ⟨fn, mk, code, t1, t2⟩ := textFn_inv (txtA (T0 b q s) W (oF kd akey e lkey sc f r24))
      exact ⟨fn, mk, code, t1, t2⟩
    have : XS = #[] := by
      have := vrs0 hxs
      rw [← Array.toList_inj, this]
    subst this
    exact awake34 w
  · obtain ⟨l, rfl, hl, rfl⟩ := reqT_inv ha
    refine ⟨?_, .bool s, .bool s, ?_⟩
    · obtain ⟨fn, mk, code, t1, t2⟩ := textFn_inv (txt29 (T0 b q s) W (oF kd akey e lkey sc f r24))
      exact ⟨fn, mk, code, t1, t2⟩
    obtain ⟨A, L, e0, i1, i2⟩ := vrs1 hxs
    obtain rfl := vrs0 i2
    obtain ⟨cs, rfl, j1, _⟩ := i1.agg_inv
    have j2 := vrs_nums j1 hl
    rw [ho, o_flt] at j2
    have : XS = #[f.val] := by
      rw [← Array.toList_inj, e0, show cs = ⟨f.cells⟩ by rw [← Array.toList_inj, j2]]; rfl
    subst this
    exact h29 w hbel
  · obtain ⟨l, rfl, hl, rfl⟩ := leftT_inv ha
    refine ⟨?_, .int .i64 r24, .opq q 200 (by rw [ho]; exact o_left) hq (io _), ?_⟩
    · obtain ⟨fn, mk, code, t1, t2⟩ := textFn_inv (txt24 (T0 b q s) W (oF kd akey e lkey sc f r24))
      exact ⟨fn, mk, code, t1, t2⟩
    obtain ⟨A, L, e0, i1, i2⟩ := vrs1 hxs
    obtain ⟨A2, L2, rfl, i3, i4⟩ := vrs1 i2
    obtain rfl := vrs0 i4
    obtain ⟨cs, rfl, j1, _⟩ := i1.agg_inv
    have j2 := vrs_nums j1 hl
    rw [ho, o_flt] at j2
    have j3 := i3.int_inv
    subst j3
    have : XS = #[f.val, .int .i64 70] := by
      rw [← Array.toList_inj, e0, show cs = ⟨f.cells⟩ by rw [← Array.toList_inj, j2]]; rfl
    subst this
    exact h24 w hbel
  · obtain ⟨l, rfl, hl, rfl⟩ := reqT_inv ha
    refine ⟨?_, .bool b, .bool b, ?_⟩
    · obtain ⟨fn, mk, code, t1, t2⟩ := textFn_inv (txt26 (T0 b q s) W (oF kd akey e lkey sc f r24))
      exact ⟨fn, mk, code, t1, t2⟩
    obtain ⟨A, L, e0, i1, i2⟩ := vrs1 hxs
    obtain rfl := vrs0 i2
    obtain ⟨cs, rfl, j1, _⟩ := i1.agg_inv
    have j2 := vrs_nums j1 hl
    rw [ho, o_req] at j2
    have : XS = #[e.val] := by
      rw [← Array.toList_inj, e0, show cs = ⟨e.cells⟩ by rw [← Array.toList_inj, j2]]; rfl
    subst this
    exact h26 w hbel
theorem rest_ok {y : RV} (hy : ∀ g : Gh, g.o = oF kd akey e lkey sc f r24 → VR g y (.string lkey)) (g : Gh) (h : g.o = oF kd akey e lkey sc f r24) : VRs g (restR y) [.string lkey, .int .i64 sc, .int .i64 f.kind, .string f.name, .string f.value, .string f.ini, f.any.val, .string f.fin, .bool f.hi, .bool f.hf, .string f.rule, .bool f.dn, f.kids.val] := (.cons (hy g h) (.cons (.opq 2 102 (by rw [h]; rfl) (okq_int _) (io _)) (.cons (.opq 0 104 (by rw [h]; rfl) (okq_any _) (io _)) (.cons (.opq 0 106 (by rw [h]; rfl) (okq_any _) (so _)) (.cons (.opq 0 108 (by rw [h]; rfl) (okq_any _) (so _)) (.cons (.opq 0 110 (by rw [h]; rfl) (okq_any _) (so _)) (.cons (.opq 0 112 (by rw [h]; rfl) (okq_any _) (ho _)) (.cons (.opq 0 114 (by rw [h]; rfl) (okq_any _) (so _)) (.cons (.opq 0 116 (by rw [h]; rfl) (okq_any _) (bo _)) (.cons (.opq 0 118 (by rw [h]; rfl) (okq_any _) (bo _)) (.cons (.opq 0 120 (by rw [h]; rfl) (okq_any _) (so _)) (.cons (.opq 0 122 (by rw [h]; rfl) (okq_any _) (bo _)) (.cons (.opq 0 124 (by rw [h]; rfl) (okq_any _) (ho _)) .nil)))))))))))))
theorem fin (W : World) {b s : Bool} {q : Nat} {kc k y : RV} (hK : KnownOk Tryz.prog (cxT (T0 b q s) W (oF kd akey e lkey sc f r24)) W.heap.size) (hone : (argR kc k).all RV.one = true) (hone2 : (restR y).all RV.one = true)
    (hc : ∀ g : Gh, g.o = oF kd akey e lkey sc f r24 → VR g kc (.int .i64 kd)) (hk : ∀ g : Gh, g.o = oF kd akey e lkey sc f r24 → VR g k (.string akey)) (hy : ∀ g : Gh, g.o = oF kd akey e lkey sc f r24 → VR g y (.string lkey))
    (hr : answer ((run (cxT (T0 b q s) W (oF kd akey e lkey sc f r24)) 3000).call (.fn 3 [] []) [.agg (argR kc k), .agg (restR y)] ⟨.nil, .h, []⟩) = true) :
    Calls Tryz.prog 3 #[.agg #[.int .i64 kd, .string akey, e.1.val, e.2.val], .agg #[.string lkey, .int .i64 sc, .int .i64 f.kind, .string f.name, .string f.value, .string f.ini, f.any.val, .string f.fin, .bool f.hi, .bool f.hf, .string f.rule, .bool f.dn, f.kids.val]] W fun e w' => e = .returned (.bool true) ∧ Below W.heap.size W w' := by
  obtain ⟨h', hr⟩ := answer_inv hr
  exact run_ok (cx := cxT (T0 b q s) W (oF kd akey e lkey sc f r24)) (sound (T0 b q s) W _ hK) rfl hr (txtL _ _ _) (.cons (.agg (.cons (hc _ rfl) (.cons (hk _ rfl) (.cons (.opq 0 4 rfl (okq_any _) (ho _)) (.cons (.opq 0 6 rfl (okq_any _) (ho _)) .nil)))) (fun v hv => List.all_eq_true.1 hone v hv)) (.cons (.agg (rest_ok hy _ rfl) (fun v hv => List.all_eq_true.1 hone2 v hv)) .nil))
theorem case0 (W : World) {s : Bool} (h26 : ∀ w, Bel W w → Calls Tryz.prog 32 #[e.val] w fun e w' => e = .returned (.bool false) ∧ Bel w w') (h24 : ∀ w, Bel W w → Calls Tryz.prog 14 #[f.val, .int .i64 70] w fun e w' => e = .returned (.int .i64 r24) ∧ Bel w w') (h29 : ∀ w, Bel W w → Calls Tryz.prog 34 #[f.val] w fun e w' => e = .returned (.bool s) ∧ Bel w w') : Calls Tryz.prog 3 #[.agg #[.int .i64 kd, .string akey, e.1.val, e.2.val], .agg #[.string lkey, .int .i64 sc, .int .i64 f.kind, .string f.name, .string f.value, .string f.ini, f.any.val, .string f.fin, .bool f.hi, .bool f.hf, .string f.rule, .bool f.dn, f.kids.val]] W fun e w' => e = .returned (.bool true) ∧ Below W.heap.size W w' := by
  exact fin (kc := .opq 2 0) (k := .opq 1 2) (y := .opq 1 100) W (known_ok (b := false) (s := s) W h26 h24 h29 (okq_int _)) rfl rfl (fun g h => .opq 2 0 ((congrFun h 0).trans o_0) (okq_int _) (io _)) (fun g h => vr_any ((congrFun h 2).trans o_k)) (fun g h => vr_any ((congrFun h 100).trans o_y)) (run0 W _ s)
theorem case1 (W : World) {s : Bool} (h26 : ∀ w, Bel W w → Calls Tryz.prog 32 #[e.val] w fun e w' => e = .returned (.bool true) ∧ Bel w w') (h24 : ∀ w, Bel W w → Calls Tryz.prog 14 #[f.val, .int .i64 70] w fun e w' => e = .returned (.int .i64 r24) ∧ Bel w w') (h29 : ∀ w, Bel W w → Calls Tryz.prog 34 #[f.val] w fun e w' => e = .returned (.bool s) ∧ Bel w w') (ck : ¬ (akey.size : Int) < (3001 : Nat)) : Calls Tryz.prog 3 #[.agg #[.int .i64 kd, .string akey, e.1.val, e.2.val], .agg #[.string lkey, .int .i64 sc, .int .i64 f.kind, .string f.name, .string f.value, .string f.ini, f.any.val, .string f.fin, .bool f.hi, .bool f.hf, .string f.rule, .bool f.dn, f.kids.val]] W fun e w' => e = .returned (.bool true) ∧ Below W.heap.size W w' := by
  exact fin (kc := .opq 2 0) (k := .ops 2 [[7006]]) (y := .opq 1 100) W (known_ok (b := true) (s := s) W h26 h24 h29 (okq_int _)) rfl rfl (fun g h => .opq 2 0 ((congrFun h 0).trans o_0) (okq_int _) (io _)) (fun g h => vr_gt 3001 rfl ((congrFun h 2).trans o_k) ((congrFun h 3).trans l_k) (Int.not_lt.1 ck)) (fun g h => vr_any ((congrFun h 100).trans o_y)) (run1 W _ s)
theorem case2 (W : World) {s : Bool} (h26 : ∀ w, Bel W w → Calls Tryz.prog 32 #[e.val] w fun e w' => e = .returned (.bool true) ∧ Bel w w') (h24 : ∀ w, Bel W w → Calls Tryz.prog 14 #[f.val, .int .i64 70] w fun e w' => e = .returned (.int .i64 r24) ∧ Bel w w') (h29 : ∀ w, Bel W w → Calls Tryz.prog 34 #[f.val] w fun e w' => e = .returned (.bool s) ∧ Bel w w') (ck : (akey.size : Int) < (3001 : Nat)) (cy : ¬ (lkey.size : Int) < (3001 : Nat)) : Calls Tryz.prog 3 #[.agg #[.int .i64 kd, .string akey, e.1.val, e.2.val], .agg #[.string lkey, .int .i64 sc, .int .i64 f.kind, .string f.name, .string f.value, .string f.ini, f.any.val, .string f.fin, .bool f.hi, .bool f.hf, .string f.rule, .bool f.dn, f.kids.val]] W fun e w' => e = .returned (.bool true) ∧ Below W.heap.size W w' := by
  exact fin (kc := .opq 2 0) (k := .ops 2 [[7005]]) (y := .ops 100 [[7006]]) W (known_ok (b := true) (s := s) W h26 h24 h29 (okq_int _)) rfl rfl (fun g h => .opq 2 0 ((congrFun h 0).trans o_0) (okq_int _) (io _)) (fun g h => vr_le 3001 rfl ((congrFun h 2).trans o_k) ((congrFun h 3).trans l_k) ck) (fun g h => vr_gt 3001 rfl ((congrFun h 100).trans o_y) ((congrFun h 101).trans l_y) (Int.not_lt.1 cy)) (run2 W _ s)
theorem case3 (W : World) {s : Bool} (h26 : ∀ w, Bel W w → Calls Tryz.prog 32 #[e.val] w fun e w' => e = .returned (.bool true) ∧ Bel w w') (h24 : ∀ w, Bel W w → Calls Tryz.prog 14 #[f.val, .int .i64 70] w fun e w' => e = .returned (.int .i64 r24) ∧ Bel w w') (h29 : ∀ w, Bel W w → Calls Tryz.prog 34 #[f.val] w fun e w' => e = .returned (.bool s) ∧ Bel w w') (ck : (akey.size : Int) < (3001 : Nat)) (cy : (lkey.size : Int) < (3001 : Nat)) (cq : ¬ 0 ≤ r24) : Calls Tryz.prog 3 #[.agg #[.int .i64 kd, .string akey, e.1.val, e.2.val], .agg #[.string lkey, .int .i64 sc, .int .i64 f.kind, .string f.name, .string f.value, .string f.ini, f.any.val, .string f.fin, .bool f.hi, .bool f.hf, .string f.rule, .bool f.dn, f.kids.val]] W fun e w' => e = .returned (.bool true) ∧ Below W.heap.size W w' := by
  exact fin (kc := .opq 2 0) (k := .ops 2 [[7005]]) (y := .ops 100 [[7005]]) W (known_ok (b := true) (s := s) W h26 h24 h29 (okq3 (Int.not_le.1 cq))) rfl rfl (fun g h => .opq 2 0 ((congrFun h 0).trans o_0) (okq_int _) (io _)) (fun g h => vr_le 3001 rfl ((congrFun h 2).trans o_k) ((congrFun h 3).trans l_k) ck) (fun g h => vr_le 3001 rfl ((congrFun h 100).trans o_y) ((congrFun h 101).trans l_y) cy) (run3 W _ s)
theorem case4 (W : World) (h26 : ∀ w, Bel W w → Calls Tryz.prog 32 #[e.val] w fun e w' => e = .returned (.bool true) ∧ Bel w w') (h24 : ∀ w, Bel W w → Calls Tryz.prog 14 #[f.val, .int .i64 70] w fun e w' => e = .returned (.int .i64 r24) ∧ Bel w w') (h29 : ∀ w, Bel W w → Calls Tryz.prog 34 #[f.val] w fun e w' => e = .returned (.bool false) ∧ Bel w w') (ck : (akey.size : Int) < (3001 : Nat)) (cy : (lkey.size : Int) < (3001 : Nat)) (cq : 0 ≤ r24) : Calls Tryz.prog 3 #[.agg #[.int .i64 kd, .string akey, e.1.val, e.2.val], .agg #[.string lkey, .int .i64 sc, .int .i64 f.kind, .string f.name, .string f.value, .string f.ini, f.any.val, .string f.fin, .bool f.hi, .bool f.hf, .string f.rule, .bool f.dn, f.kids.val]] W fun e w' => e = .returned (.bool true) ∧ Below W.heap.size W w' := by
  exact fin (kc := .opq 2 0) (k := .ops 2 [[7005]]) (y := .ops 100 [[7005]]) W (known_ok (b := true) (s := false) W h26 h24 h29 (okq4 cq)) rfl rfl (fun g h => .opq 2 0 ((congrFun h 0).trans o_0) (okq_int _) (io _)) (fun g h => vr_le 3001 rfl ((congrFun h 2).trans o_k) ((congrFun h 3).trans l_k) ck) (fun g h => vr_le 3001 rfl ((congrFun h 100).trans o_y) ((congrFun h 101).trans l_y) cy) (run4 W _ false)
theorem case5N (W : World) (h26 : ∀ w, Bel W w → Calls Tryz.prog 32 #[e.val] w fun e w' => e = .returned (.bool true) ∧ Bel w w') (h24 : ∀ w, Bel W w → Calls Tryz.prog 14 #[f.val, .int .i64 70] w fun e w' => e = .returned (.int .i64 r24) ∧ Bel w w') (h29 : ∀ w, Bel W w → Calls Tryz.prog 34 #[f.val] w fun e w' => e = .returned (.bool true) ∧ Bel w w') (ck : (akey.size : Int) < (3001 : Nat)) (cy : (lkey.size : Int) < (3001 : Nat)) (cq : 0 ≤ r24) (hkd : kd < 0) : Calls Tryz.prog 3 #[.agg #[.int .i64 kd, .string akey, e.1.val, e.2.val], .agg #[.string lkey, .int .i64 sc, .int .i64 f.kind, .string f.name, .string f.value, .string f.ini, f.any.val, .string f.fin, .bool f.hi, .bool f.hf, .string f.rule, .bool f.dn, f.kids.val]] W fun e w' => e = .returned (.bool true) ∧ Below W.heap.size W w' := by
  exact fin (kc := .opq 3 0) (k := .ops 2 [[7005]]) (y := .ops 100 [[7005]]) W (known_ok (b := true) (s := true) W h26 h24 h29 (okq4 cq)) rfl rfl (fun g h => .opq 3 0 ((congrFun h 0).trans o_0) (okq3 hkd) (io _)) (fun g h => vr_le 3001 rfl ((congrFun h 2).trans o_k) ((congrFun h 3).trans l_k) ck) (fun g h => vr_le 3001 rfl ((congrFun h 100).trans o_y) ((congrFun h 101).trans l_y) cy) (run5N W _ true)
theorem case50 (W : World) (h26 : ∀ w, Bel W w → Calls Tryz.prog 32 #[e.val] w fun e w' => e = .returned (.bool true) ∧ Bel w w') (h24 : ∀ w, Bel W w → Calls Tryz.prog 14 #[f.val, .int .i64 70] w fun e w' => e = .returned (.int .i64 r24) ∧ Bel w w') (h29 : ∀ w, Bel W w → Calls Tryz.prog 34 #[f.val] w fun e w' => e = .returned (.bool true) ∧ Bel w w') (ck : (akey.size : Int) < (3001 : Nat)) (cy : (lkey.size : Int) < (3001 : Nat)) (cq : 0 ≤ r24) (hkd : 0 = kd) : Calls Tryz.prog 3 #[.agg #[.int .i64 kd, .string akey, e.1.val, e.2.val], .agg #[.string lkey, .int .i64 sc, .int .i64 f.kind, .string f.name, .string f.value, .string f.ini, f.any.val, .string f.fin, .bool f.hi, .bool f.hf, .string f.rule, .bool f.dn, f.kids.val]] W fun e w' => e = .returned (.bool true) ∧ Below W.heap.size W w' := by
  exact fin (kc := .int .i64 0) (k := .ops 2 [[7005]]) (y := .ops 100 [[7005]]) W (known_ok (b := true) (s := true) W h26 h24 h29 (okq4 cq)) rfl rfl (fun g h => hkd ▸ .int .i64 _) (fun g h => vr_le 3001 rfl ((congrFun h 2).trans o_k) ((congrFun h 3).trans l_k) ck) (fun g h => vr_le 3001 rfl ((congrFun h 100).trans o_y) ((congrFun h 101).trans l_y) cy) (run50 W _ true)
theorem case51 (W : World) (h26 : ∀ w, Bel W w → Calls Tryz.prog 32 #[e.val] w fun e w' => e = .returned (.bool true) ∧ Bel w w') (h24 : ∀ w, Bel W w → Calls Tryz.prog 14 #[f.val, .int .i64 70] w fun e w' => e = .returned (.int .i64 r24) ∧ Bel w w') (h29 : ∀ w, Bel W w → Calls Tryz.prog 34 #[f.val] w fun e w' => e = .returned (.bool true) ∧ Bel w w') (ck : (akey.size : Int) < (3001 : Nat)) (cy : (lkey.size : Int) < (3001 : Nat)) (cq : 0 ≤ r24) (hkd : 1 = kd) : Calls Tryz.prog 3 #[.agg #[.int .i64 kd, .string akey, e.1.val, e.2.val], .agg #[.string lkey, .int .i64 sc, .int .i64 f.kind, .string f.name, .string f.value, .string f.ini, f.any.val, .string f.fin, .bool f.hi, .bool f.hf, .string f.rule, .bool f.dn, f.kids.val]] W fun e w' => e = .returned (.bool true) ∧ Below W.heap.size W w' := by
  exact fin (kc := .int .i64 1) (k := .ops 2 [[7005]]) (y := .ops 100 [[7005]]) W (known_ok (b := true) (s := true) W h26 h24 h29 (okq4 cq)) rfl rfl (fun g h => hkd ▸ .int .i64 _) (fun g h => vr_le 3001 rfl ((congrFun h 2).trans o_k) ((congrFun h 3).trans l_k) ck) (fun g h => vr_le 3001 rfl ((congrFun h 100).trans o_y) ((congrFun h 101).trans l_y) cy) (run51 W _ true)
theorem case52 (W : World) (h26 : ∀ w, Bel W w → Calls Tryz.prog 32 #[e.val] w fun e w' => e = .returned (.bool true) ∧ Bel w w') (h24 : ∀ w, Bel W w → Calls Tryz.prog 14 #[f.val, .int .i64 70] w fun e w' => e = .returned (.int .i64 r24) ∧ Bel w w') (h29 : ∀ w, Bel W w → Calls Tryz.prog 34 #[f.val] w fun e w' => e = .returned (.bool true) ∧ Bel w w') (ck : (akey.size : Int) < (3001 : Nat)) (cy : (lkey.size : Int) < (3001 : Nat)) (cq : 0 ≤ r24) (hkd : 2 = kd) : Calls Tryz.prog 3 #[.agg #[.int .i64 kd, .string akey, e.1.val, e.2.val], .agg #[.string lkey, .int .i64 sc, .int .i64 f.kind, .string f.name, .string f.value, .string f.ini, f.any.val, .string f.fin, .bool f.hi, .bool f.hf, .string f.rule, .bool f.dn, f.kids.val]] W fun e w' => e = .returned (.bool true) ∧ Below W.heap.size W w' := by
  exact fin (kc := .int .i64 2) (k := .ops 2 [[7005]]) (y := .ops 100 [[7005]]) W (known_ok (b := true) (s := true) W h26 h24 h29 (okq4 cq)) rfl rfl (fun g h => hkd ▸ .int .i64 _) (fun g h => vr_le 3001 rfl ((congrFun h 2).trans o_k) ((congrFun h 3).trans l_k) ck) (fun g h => vr_le 3001 rfl ((congrFun h 100).trans o_y) ((congrFun h 101).trans l_y) cy) (run52 W _ true)
theorem case53 (W : World) (h26 : ∀ w, Bel W w → Calls Tryz.prog 32 #[e.val] w fun e w' => e = .returned (.bool true) ∧ Bel w w') (h24 : ∀ w, Bel W w → Calls Tryz.prog 14 #[f.val, .int .i64 70] w fun e w' => e = .returned (.int .i64 r24) ∧ Bel w w') (h29 : ∀ w, Bel W w → Calls Tryz.prog 34 #[f.val] w fun e w' => e = .returned (.bool true) ∧ Bel w w') (ck : (akey.size : Int) < (3001 : Nat)) (cy : (lkey.size : Int) < (3001 : Nat)) (cq : 0 ≤ r24) (hkd : 3 = kd) : Calls Tryz.prog 3 #[.agg #[.int .i64 kd, .string akey, e.1.val, e.2.val], .agg #[.string lkey, .int .i64 sc, .int .i64 f.kind, .string f.name, .string f.value, .string f.ini, f.any.val, .string f.fin, .bool f.hi, .bool f.hf, .string f.rule, .bool f.dn, f.kids.val]] W fun e w' => e = .returned (.bool true) ∧ Below W.heap.size W w' := by
  exact fin (kc := .int .i64 3) (k := .ops 2 [[7005]]) (y := .ops 100 [[7005]]) W (known_ok (b := true) (s := true) W h26 h24 h29 (okq4 cq)) rfl rfl (fun g h => hkd ▸ .int .i64 _) (fun g h => vr_le 3001 rfl ((congrFun h 2).trans o_k) ((congrFun h 3).trans l_k) ck) (fun g h => vr_le 3001 rfl ((congrFun h 100).trans o_y) ((congrFun h 101).trans l_y) cy) (run53 W _ true)
theorem case5M (W : World) (h26 : ∀ w, Bel W w → Calls Tryz.prog 32 #[e.val] w fun e w' => e = .returned (.bool true) ∧ Bel w w') (h24 : ∀ w, Bel W w → Calls Tryz.prog 14 #[f.val, .int .i64 70] w fun e w' => e = .returned (.int .i64 r24) ∧ Bel w w') (h29 : ∀ w, Bel W w → Calls Tryz.prog 34 #[f.val] w fun e w' => e = .returned (.bool true) ∧ Bel w w') (ck : (akey.size : Int) < (3001 : Nat)) (cy : (lkey.size : Int) < (3001 : Nat)) (cq : 0 ≤ r24) (hkd : 4 ≤ kd) : Calls Tryz.prog 3 #[.agg #[.int .i64 kd, .string akey, e.1.val, e.2.val], .agg #[.string lkey, .int .i64 sc, .int .i64 f.kind, .string f.name, .string f.value, .string f.ini, f.any.val, .string f.fin, .bool f.hi, .bool f.hf, .string f.rule, .bool f.dn, f.kids.val]] W fun e w' => e = .returned (.bool true) ∧ Below W.heap.size W w' := by
  exact fin (kc := .opq 12 0) (k := .ops 2 [[7005]]) (y := .ops 100 [[7005]]) W (known_ok (b := true) (s := true) W h26 h24 h29 (okq4 cq)) rfl rfl (fun g h => .opq 12 0 ((congrFun h 0).trans o_0) (okq12 hkd) (io _)) (fun g h => vr_le 3001 rfl ((congrFun h 2).trans o_k) ((congrFun h 3).trans l_k) ck) (fun g h => vr_le 3001 rfl ((congrFun h 100).trans o_y) ((congrFun h 101).trans l_y) cy) (run5M W _ true)
theorem walk_of (W : World) {N : Nat} (he : EQ W e) (hf : FOk N W f) : Calls Tryz.prog 3 #[.agg #[.int .i64 kd, .string akey, e.1.val, e.2.val], .agg #[.string lkey, .int .i64 sc, .int .i64 f.kind, .string f.name, .string f.value, .string f.ini, f.any.val, .string f.fin, .bool f.hi, .bool f.hf, .string f.rule, .bool f.dn, f.kids.val]] W fun e w' => e = .returned (.bool true) ∧ Below W.heap.size W w' := by
  obtain ⟨b, h26⟩ := few29_any W e he
  obtain ⟨r24, _, h24⟩ := few24_any W N f hf 70 (by decide) (by decide)
  obtain ⟨s, h29⟩ := short29_any W N f hf
  cases b with
  | false => exact case0 W h26 h24 h29
  | true =>
  by_cases ck : (akey.size : Int) < (3001 : Nat)
  case neg => exact case1 W h26 h24 h29 ck
  by_cases cy : (lkey.size : Int) < (3001 : Nat)
  case neg => exact case2 W h26 h24 h29 ck cy
  by_cases cq : 0 ≤ r24
  case neg => exact case3 W h26 h24 h29 ck cy cq
  cases s with
  | false => exact case4 W h26 h24 h29 ck cy cq
  | true =>
  by_cases hkd : kd < 0
  case pos => exact case5N W h26 h24 h29 ck cy cq hkd
  by_cases hk4 : 4 ≤ kd
  case pos => exact case5M W h26 h24 h29 ck cy cq hk4
  rcases (by omega : 0 = kd ∨ 1 = kd ∨ 2 = kd ∨ 3 = kd) with h | h | h | h
  · exact case50 W h26 h24 h29 ck cy cq h
  · exact case51 W h26 h24 h29 ck cy cq h
  · exact case52 W h26 h24 h29 ck cy cq h
  · exact case53 W h26 h24 h29 ck cy cq h
end
theorem ofAct (N : Nat) : Of Tryz.prog (fun x : Int × ByteArray × Ent => [.int .i64 x.1] ++ ([.string x.2.1] ++ Ent.cells x.2.2)) (fun w x => TT w x.1 ∧ TT w x.2.1 ∧ EQ w x.2.2) 4 N 28 :=
  Of.down (of_struct (N := N) Tryz.underlying28 (by kernel_rfl) (ofF_cons (of_int Tryz.underlying3) rfl (by kernel_rfl) (ofF_cons (of_string Tryz.underlying9) rfl (by kernel_rfl) (ofF_one (sz := 2) (f := Ent.cells) (Q := EQ) (ofEnt N) rfl (by kernel_rfl))))) (Nat.le_succ N)
theorem ofLook (N : Nat) : Of Tryz.prog (fun x : ByteArray × Int × Flt => [.string x.1] ++ ([.int .i64 x.2.1] ++ Flt.cells x.2.2)) (fun w x => TT w x.1 ∧ TT w x.2.1 ∧ FOk N w x.2.2) 13 N 36 :=
  Of.down (of_struct (N := N) Tryz.underlying36 (by kernel_rfl) (ofF_cons (of_string Tryz.underlying9) rfl (by kernel_rfl) (ofF_cons (of_int Tryz.underlying3) rfl (by kernel_rfl) (ofF_one (sz := 11) (f := Flt.cells) (Q := FOk N) (ofFlt N) rfl (by kernel_rfl))))) (Nat.le_succ N)
theorem walk {H : Type} {enc : TypeId × Value → H} (W : World) (base : Nat) (v0 v1 : Value) (o0 : Value.okWide Tryz.prog W .any base 28 v0) (o1 : Value.okWide Tryz.prog W .any base 36 v1) {d0 d1 : DataW H} {p0 p1 : List MemPlace}
    (h0 : DataW.Trod enc Tryz.prog W 0 (fun _ => true) true 28 v0 d0 p0) (h1 : DataW.Trod enc Tryz.prog W 0 (fun _ => true) true 36 v1 d1 p1) :
    Calls Tryz.prog 3 #[v0, v1] W fun e w' => e = .returned (.bool true) ∧ Below W.heap.size W w' := by
  obtain ⟨c0, rfl, _⟩ := okWide_struct Tryz.underlying28 o0
  obtain ⟨c1, rfl, _⟩ := okWide_struct Tryz.underlying36 o1
  obtain ⟨n0, h0⟩ := h0
  obtain ⟨n1, h1⟩ := h1
  obtain ⟨a, ha, _, hq⟩ := ofAct (n0 + 1) _ _ _ _ _ _ _ _ _ (Nat.lt_succ_self _) h0
  obtain ⟨b, hb, _, hq2⟩ := ofLook (n1 + 1) _ _ _ _ _ _ _ _ _ (Nat.lt_succ_self _) h1
  obtain ⟨kd, akey, e⟩ := a
  obtain ⟨lkey, sc, f⟩ := b
  obtain ⟨l0⟩ := c0
  obtain ⟨l1⟩ := c1
  obtain rfl : l0 = _ := ha
  obtain rfl : l1 = _ := hb
  exact walk_of W hq.2.2 hq2.2.2
#print axioms walk
end Go.Proofs.YtklbbnlhhfadcaaGreatDoor.planNobody
