/- The walk of the law, from what reads as data. No condition. -/
import Derived.Test.YtjkhemeiliflgaaGreatDoorME3
import Derived.Test.YtjkhemeiliflgaaGreatDoorME5
import Derived.Test.YtjkhemeiliflgaaGreatDoorMGreatDoorFw6
import Derived.Test.YtjkhemeiliflgaaGreatDoorRows
import Derived.WideShapes
set_option maxRecDepth 100000
namespace Go.Proofs.YtjkhemeiliflgaaGreatDoor.searchNobody
open Go Go.E Go.RowKit Go.Wd Go.Rq Go.WideShapes
theorem vrs1 {g : Gh} {a : RV} {l : List RV} {L : List Value} (h : VRs g (a :: l) L) : ∃ A L', L = A :: L' ∧ VR g a A ∧ VRs g l L' := by
  cases h with
  | cons h hs => exact ⟨_, _, rfl, h, hs⟩
theorem vrs0 {g : Gh} {L : List Value} (h : VRs g [] L) : L = [] := by
  cases h; rfl
theorem vrs_nums {g : Gh} : ∀ {l : List RV} {L : List Value} {ns : List Nat}, VRs g l L → nums l = some ns → L = ns.map g.o
  | [], L, ns, h, hn => by
    cases hn
    rw [vrs0 h]; rfl
  | v :: l, L, ns, h, hn => by
    obtain ⟨A, L', rfl, h1, h2⟩ := vrs1 h
    unfold nums at hn
    split at hn
    · obtain ⟨r, h3, h4⟩ := bnd_inv hn
      cases h4
      rw [vrs_nums h2 h3, ← h1.opq_inv.1]; rfl
    · obtain ⟨r, h3, h4⟩ := bnd_inv hn
      cases h4
      obtain ⟨s, rfl, h5, _⟩ := h1.ops_inv
      rw [vrs_nums h2 h3, ← h5]; rfl
    · cases hn
theorem eqL_ok {a b : List Nat} (h : eqL a b = true) : a = b := by
  rw [eqL_eq, decide_eq_true_eq] at h; exact h
theorem reqT_inv {a n : Nat} {v u : RV} {xs : List RV} {h : Hp} (hv : reqT a n v xs h = some u) : ∃ l, xs = [.agg l] ∧ nums l = some (evens a n) ∧ u = v := by
  unfold reqT at hv
  split at hv
  · rename_i l
    obtain ⟨ns, h1, h2⟩ := bnd_inv hv
    obtain ⟨h3, h4⟩ := ifB_none h2
    exact ⟨l, rfl, by rw [h1, eqL_ok h3], (Option.some.inj h4).symm⟩
  · cases hv
theorem leftT_inv {a n : Nat} {v u : RV} {xs : List RV} {h : Hp} (hv : leftT a n v xs h = some u) : ∃ l, xs = [.agg l, .int .i64 70] ∧ nums l = some (evens a n) ∧ u = v := by
  unfold leftT at hv
  split at hv
  · rename_i l k z
    obtain ⟨ns, h1, h2⟩ := bnd_inv hv
    obtain ⟨h3, h4⟩ := ifB_none h2
    obtain ⟨h5, h6⟩ := ifB_none h4
    obtain ⟨h7, h8⟩ := ifB_none h6
    have := kEq_eq h5
    subst this
    rw [eqI_eq, decide_eq_true_eq] at h7
    subst h7
    exact ⟨l, rfl, by rw [h1, eqL_ok h3], (Option.some.inj h8).symm⟩
  · cases hv
theorem get_set {α : Type} {T : Tr α} {a t : α} {p f : Nat} (h : ((T.set a (toPs p)).getD .nil).get (toPs f) = some t) : (f = p ∧ t = a) ∨ T.get (toPs f) = some t := by
  cases e : T.set a (toPs p) with
  | none => rw [e] at h; cases h
  | some T' =>
    rw [e] at h
    have h4 : T'.get (toPs f) = some t := h
    rw [Tr.set_ok e] at h4
    split at h4
    · rename_i hq
      exact .inl ⟨(toPs_inj hq), (Option.some.inj h4).symm⟩
    · exact .inr h4
theorem known_inv {b s : Bool} {q : Nat} {w : World} {o : Nat → Value} {f : FuncId} {xs : List RV} {h : Hp} {v : RV} (hv : knownV (cxT (T0 b q s) w o) f xs h = some v) :
    (f = 5 ∧ awakeT xs h = some v) ∨ (f = 71 ∧ reqT 20 11 (.bool s) xs h = some v) ∨ (f = 32 ∧ leftT 20 11 (.opq q 200) xs h = some v) ∨ (f = 10 ∧ reqT 2 30 (.bool b) xs h = some v) := by
  obtain ⟨t, h1, h2⟩ := bnd_inv hv
  have h3 : (T0 b q s).get (toPs f) = some t := h1
  unfold T0 at h3
  rcases get_set h3 with ⟨rfl, rfl⟩ | h3
  · exact .inl ⟨rfl, h2⟩
  rcases get_set h3 with ⟨rfl, rfl⟩ | h3
  · exact .inr (.inl ⟨rfl, h2⟩)
  rcases get_set h3 with ⟨rfl, rfl⟩ | h3
  · exact .inr (.inr (.inl ⟨rfl, h2⟩))
  rcases get_set h3 with ⟨rfl, rfl⟩ | h3
  · exact .inr (.inr (.inr ⟨rfl, h2⟩))
  · cases h3
def lenOf : Value → Value
  | .string s => .int .i64 s.size
  | _ => .nilFunc
def oF (who : ByteArray) (r : Req) (e1 e2 : Hd) (r24 : Int) : Nat → Value := fun n => if n = 200 then .int .i64 r24 else if 100 ≤ n then ([e1.val, e2.val] : List Value).getD ((n - 100) / 2) .nilFunc else if n % 2 = 0 then ([.string who, .int .i64 r.id, .int .i64 r.kind, .string r.name, .int .i64 r.version, .int .i64 r.method, .string r.secret, .int .i64 r.scope, .int .i64 r.most, .bool r.types, .int .i64 r.flt.kind, .string r.flt.name, .string r.flt.value, .string r.flt.ini, r.flt.any.val, .string r.flt.fin, .bool r.flt.hi, .bool r.flt.hf, .string r.flt.rule, .bool r.flt.dn, r.flt.kids.val, r.attrs.val, r.changes.val, r.values.val, .string r.rdn, .bool r.keep, .string r.above, .bool r.has, .string r.pn, .string r.pv, .int .i64 r.target] : List Value).getD (n / 2) .nilFunc else lenOf (([.string who, .int .i64 r.id, .int .i64 r.kind, .string r.name, .int .i64 r.version, .int .i64 r.method, .string r.secret, .int .i64 r.scope, .int .i64 r.most, .bool r.types, .int .i64 r.flt.kind, .string r.flt.name, .string r.flt.value, .string r.flt.ini, r.flt.any.val, .string r.flt.fin, .bool r.flt.hi, .bool r.flt.hf, .string r.flt.rule, .bool r.flt.dn, r.flt.kids.val, r.attrs.val, r.changes.val, r.values.val, .string r.rdn, .bool r.keep, .string r.above, .bool r.has, .string r.pn, .string r.pv, .int .i64 r.target] : List Value).getD (n / 2) .nilFunc)
theorem okq3 {i : Int} (h : i < 0) : okq 3 (.int .i64 i) := okq_lt (c := 0) h
theorem okq4 {i : Int} (h : 0 ≤ i) : okq 4 (.int .i64 i) := okq_ge (c := 0) h
section
variable {who : ByteArray} {r : Req} {e1 e2 : Hd} {r24 : Int}
theorem o_req : (evens 2 30).map (oF who r e1 e2 r24) = r.cells := by kernel_rfl
theorem o_flt : (evens 20 11).map (oF who r e1 e2 r24) = r.flt.cells := by kernel_rfl
theorem o_n : oF who r e1 e2 r24 6 = .string r.name := by kernel_rfl
theorem l_n : oF who r e1 e2 r24 7 = .int .i64 r.name.size := by kernel_rfl
theorem o_d : oF who r e1 e2 r24 48 = .string r.rdn := by kernel_rfl
theorem l_d : oF who r e1 e2 r24 49 = .int .i64 r.rdn.size := by kernel_rfl
theorem o_a : oF who r e1 e2 r24 52 = .string r.above := by kernel_rfl
theorem l_a : oF who r e1 e2 r24 53 = .int .i64 r.above.size := by kernel_rfl
theorem o_p : oF who r e1 e2 r24 58 = .string r.pv := by kernel_rfl
theorem l_p : oF who r e1 e2 r24 59 = .int .i64 r.pv.size := by kernel_rfl
theorem o_left : oF who r e1 e2 r24 200 = .int .i64 r24 := rfl
theorem so (s : ByteArray) : (∀ cs, Value.string s ≠ .agg cs) ∧ ∀ vs, Value.string s ≠ .tuple vs := ⟨fun _ h => (by cases h), fun _ h => (by cases h)⟩
theorem io (i : Int) : (∀ cs, Value.int .i64 i ≠ .agg cs) ∧ ∀ vs, Value.int .i64 i ≠ .tuple vs := ⟨fun _ h => (by cases h), fun _ h => (by cases h)⟩
theorem bo (i : Bool) : (∀ cs, Value.bool i ≠ .agg cs) ∧ ∀ vs, Value.bool i ≠ .tuple vs := ⟨fun _ h => (by cases h), fun _ h => (by cases h)⟩
theorem ho (i : Hd) : (∀ cs, i.val ≠ .agg cs) ∧ ∀ vs, i.val ≠ .tuple vs := ⟨fun _ h => (by cases h), fun _ h => (by cases h)⟩
theorem vr_any {g : Gh} {k : Nat} {s : ByteArray} (h : g.o k = .string s) : VR g (.opq 1 k) (.string s) := .opq 1 k h (okq_str _) (so _)
theorem bytes_ne (s : ByteArray) (q : Nat) (hq : 256 ≤ q) : ∀ l ∈ [[q]], s.data.toList.map UInt8.toNat ≠ l := fun l hl e => by
  rw [List.mem_singleton.1 hl] at e
  have : q ∈ s.data.toList.map UInt8.toNat := by rw [e]; exact List.mem_singleton.2 rfl
  obtain ⟨b, _, hb⟩ := List.mem_map.1 this
  have := b.toNat_lt
  omega
theorem vr_le {g : Gh} {k m : Nat} (c : Nat) {s : ByteArray} (hm : m = 1000 + (2 * c + 3)) (h : g.o k = .string s) (h1 : g.o (k + 1) = .int .i64 s.size) (hc : (s.size : Int) < c) : VR g (.ops k [[m]]) (.string s) := by
  subst hm
  exact .ops k _ s h (bytes_ne s _ (by omega)) (fun q l xs e _ => by
    cases e
    exact ⟨h1, by rw [Nat.add_sub_cancel_left]; exact okq_lt hc⟩)
theorem vr_gt {g : Gh} {k m : Nat} (c : Nat) {s : ByteArray} (hm : m = 1000 + (2 * c + 4)) (h : g.o k = .string s) (h1 : g.o (k + 1) = .int .i64 s.size) (hc : (c : Int) ≤ s.size) : VR g (.ops k [[m]]) (.string s) := by
  subst hm
  exact .ops k _ s h (bytes_ne s _ (by omega)) (fun q l xs e _ => by
    cases e
    exact ⟨h1, by rw [Nat.add_sub_cancel_left]; exact okq_ge hc⟩)
theorem known_ok (W : World) {b s : Bool} {q : Nat} (h26 : ∀ w, Bel W w → Calls Tryz.prog 10 #[r.val] w fun e w' => e = .returned (.bool b) ∧ Bel w w')
    (h24 : ∀ w, Bel W w → Calls Tryz.prog 32 #[r.flt.val, .int .i64 70] w fun e w' => e = .returned (.int .i64 r24) ∧ Bel w w') (h29 : ∀ w, Bel W w → Calls Tryz.prog 71 #[r.flt.val] w fun e w' => e = .returned (.bool s) ∧ Bel w w')
    (hq : okq q (.int .i64 r24)) : KnownOk Tryz.prog (cxT (T0 b q s) W (oF who r e1 e2 r24)) W.heap.size := by
  intro f xs h v hv g w XS H hxs
  have ho : g.o = oF who r e1 e2 r24 := H.base.o
  have hbel : Bel W w := H.base.below
  rcases known_inv hv with ⟨rfl, ha⟩ | ⟨rfl, ha⟩ | ⟨rfl, ha⟩ | ⟨rfl, ha⟩
  · have ex : xs = [] := by
      unfold awakeT at ha
      split at ha
      · rfl
      · cases ha
    subst ex
    have ev : v = .bool true := (Option.some.inj ha).symm
    subst ev
    refine ⟨?_, .bool true, .bool true, ?_⟩
    · obtain ⟨fn, mk, code, t1, t2⟩ := textFn_inv (txtA (T0 b q s) W (oF who r e1 e2 r24))
      exact ⟨fn, mk, code, t1, t2⟩
    have : XS = #[] := by
      have := vrs0 hxs
      rw [← Array.toList_inj, this]
    subst this
    exact awake35 w
  · obtain ⟨l, rfl, hl, rfl⟩ := reqT_inv ha
    refine ⟨?_, .bool s, .bool s, ?_⟩
    · obtain ⟨fn, mk, code, t1, t2⟩ := textFn_inv (txt29 (T0 b q s) W (oF who r e1 e2 r24))
      exact ⟨fn, mk, code, t1, t2⟩
    obtain ⟨A, L, e0, i1, i2⟩ := vrs1 hxs
    obtain rfl := vrs0 i2
    obtain ⟨cs, rfl, j1, _⟩ := i1.agg_inv
    have j2 := vrs_nums j1 hl
    rw [ho, o_flt] at j2
    have : XS = #[r.flt.val] := by
      rw [← Array.toList_inj, e0, show cs = ⟨r.flt.cells⟩ by rw [← Array.toList_inj, j2]]; rfl
    subst this
    exact h29 w hbel
  · obtain ⟨l, rfl, hl, rfl⟩ := leftT_inv ha
    refine ⟨?_, .int .i64 r24, .opq q 200 (by rw [ho]; exact o_left) hq (io _), ?_⟩
    · obtain ⟨fn, mk, code, t1, t2⟩ := textFn_inv (txt24 (T0 b q s) W (oF who r e1 e2 r24))
      exact ⟨fn, mk, code, t1, t2⟩
    obtain ⟨A, L, e0, i1, i2⟩ := vrs1 hxs
    obtain ⟨A2, L2, rfl, i3, i4⟩ := vrs1 i2
    obtain rfl := vrs0 i4
    obtain ⟨cs, rfl, j1, _⟩ := i1.agg_inv
    have j2 := vrs_nums j1 hl
    rw [ho, o_flt] at j2
    have j3 := i3.int_inv
    subst j3
    have : XS = #[r.flt.val, .int .i64 70] := by
      rw [← Array.toList_inj, e0, show cs = ⟨r.flt.cells⟩ by rw [← Array.toList_inj, j2]]; rfl
    subst this
    exact h24 w hbel
  · obtain ⟨l, rfl, hl, rfl⟩ := reqT_inv ha
    refine ⟨?_, .bool b, .bool b, ?_⟩
    · obtain ⟨fn, mk, code, t1, t2⟩ := textFn_inv (txt26 (T0 b q s) W (oF who r e1 e2 r24))
      exact ⟨fn, mk, code, t1, t2⟩
    obtain ⟨A, L, e0, i1, i2⟩ := vrs1 hxs
    obtain rfl := vrs0 i2
    obtain ⟨cs, rfl, j1, _⟩ := i1.agg_inv
    have j2 := vrs_nums j1 hl
    rw [ho, o_req] at j2
    have : XS = #[r.val] := by
      rw [← Array.toList_inj, e0, show cs = ⟨r.cells⟩ by rw [← Array.toList_inj, j2]]; rfl
    subst this
    exact h26 w hbel
theorem rest_ok (g : Gh) (h : g.o = oF who r e1 e2 r24) : VRs g restR [.agg #[e1.val, e2.val]] := .cons (.agg (.cons (.opq 0 100 (by rw [h]; rfl) (okq_any _) (ho _)) (.cons (.opq 0 102 (by rw [h]; rfl) (okq_any _) (ho _)) .nil)) (fun v hv => List.all_eq_true.1 (show ([.opq 0 100, .opq 0 102] : List RV).all RV.one = true from rfl) v hv)) .nil
theorem fin (W : World) {b s : Bool} {q : Nat} {n d a p : RV} (hK : KnownOk Tryz.prog (cxT (T0 b q s) W (oF who r e1 e2 r24)) W.heap.size) (hone : (argR n d a p).all RV.one = true)
    (hn : ∀ g : Gh, g.o = oF who r e1 e2 r24 → VR g n (.string r.name)) (hd : ∀ g : Gh, g.o = oF who r e1 e2 r24 → VR g d (.string r.rdn)) (ha : ∀ g : Gh, g.o = oF who r e1 e2 r24 → VR g a (.string r.above)) (hp : ∀ g : Gh, g.o = oF who r e1 e2 r24 → VR g p (.string r.pv))
    (hr : answer ((run (cxT (T0 b q s) W (oF who r e1 e2 r24)) 3000).call (.fn 3 [] []) (.agg (argR n d a p) :: restR) ⟨.nil, .h, []⟩) = true) :
    Calls Tryz.prog 3 #[.agg #[.string who, .int .i64 r.id, .int .i64 r.kind, .string r.name, .int .i64 r.version, .int .i64 r.method, .string r.secret, .int .i64 r.scope, .int .i64 r.most, .bool r.types, .int .i64 r.flt.kind, .string r.flt.name, .string r.flt.value, .string r.flt.ini, r.flt.any.val, .string r.flt.fin, .bool r.flt.hi, .bool r.flt.hf, .string r.flt.rule, .bool r.flt.dn, r.flt.kids.val, r.attrs.val, r.changes.val, r.values.val, .string r.rdn, .bool r.keep, .string r.above, .bool r.has, .string r.pn, .string r.pv, .int .i64 r.target], .agg #[e1.val, e2.val]] W fun e w' => e = .returned (.bool true) ∧ Below W.heap.size W w' := by
  obtain ⟨h', hr⟩ := answer_inv hr
  exact run_ok (cx := cxT (T0 b q s) W (oF who r e1 e2 r24)) (sound (T0 b q s) W _ hK) rfl hr (txtL _ _ _) (.cons (.agg (.cons (.opq 1 0 rfl (okq_str _) (so _)) (.cons (.opq 2 2 rfl (okq_int _) (io _)) (.cons (.opq 0 4 rfl (okq_any _) (io _)) (.cons (hn _ rfl) (.cons (.opq 0 8 rfl (okq_any _) (io _)) (.cons (.opq 0 10 rfl (okq_any _) (io _)) (.cons (.opq 0 12 rfl (okq_any _) (so _)) (.cons (.opq 0 14 rfl (okq_any _) (io _)) (.cons (.opq 0 16 rfl (okq_any _) (io _)) (.cons (.opq 0 18 rfl (okq_any _) (bo _)) (.cons (.opq 0 20 rfl (okq_any _) (io _)) (.cons (.opq 0 22 rfl (okq_any _) (so _)) (.cons (.opq 0 24 rfl (okq_any _) (so _)) (.cons (.opq 0 26 rfl (okq_any _) (so _)) (.cons (.opq 0 28 rfl (okq_any _) (ho _)) (.cons (.opq 0 30 rfl (okq_any _) (so _)) (.cons (.opq 0 32 rfl (okq_any _) (bo _)) (.cons (.opq 0 34 rfl (okq_any _) (bo _)) (.cons (.opq 0 36 rfl (okq_any _) (so _)) (.cons (.opq 0 38 rfl (okq_any _) (bo _)) (.cons (.opq 0 40 rfl (okq_any _) (ho _)) (.cons (.opq 0 42 rfl (okq_any _) (ho _)) (.cons (.opq 0 44 rfl (okq_any _) (ho _)) (.cons (.opq 0 46 rfl (okq_any _) (ho _)) (.cons (hd _ rfl) (.cons (.opq 0 50 rfl (okq_any _) (bo _)) (.cons (ha _ rfl) (.cons (.opq 0 54 rfl (okq_any _) (bo _)) (.cons (.opq 0 56 rfl (okq_any _) (so _)) (.cons (hp _ rfl) (.cons (.opq 0 60 rfl (okq_any _) (io _)) .nil))))))))))))))))))))))))))))))) (fun v hv => List.all_eq_true.1 hone v hv)) (rest_ok _ rfl))
theorem case0 (W : World) {s : Bool} (h26 : ∀ w, Bel W w → Calls Tryz.prog 10 #[r.val] w fun e w' => e = .returned (.bool false) ∧ Bel w w') (h24 : ∀ w, Bel W w → Calls Tryz.prog 32 #[r.flt.val, .int .i64 70] w fun e w' => e = .returned (.int .i64 r24) ∧ Bel w w') (h29 : ∀ w, Bel W w → Calls Tryz.prog 71 #[r.flt.val] w fun e w' => e = .returned (.bool s) ∧ Bel w w') : Calls Tryz.prog 3 #[.agg #[.string who, .int .i64 r.id, .int .i64 r.kind, .string r.name, .int .i64 r.version, .int .i64 r.method, .string r.secret, .int .i64 r.scope, .int .i64 r.most, .bool r.types, .int .i64 r.flt.kind, .string r.flt.name, .string r.flt.value, .string r.flt.ini, r.flt.any.val, .string r.flt.fin, .bool r.flt.hi, .bool r.flt.hf, .string r.flt.rule, .bool r.flt.dn, r.flt.kids.val, r.attrs.val, r.changes.val, r.values.val, .string r.rdn, .bool r.keep, .string r.above, .bool r.has, .string r.pn, .string r.pv, .int .i64 r.target], .agg #[e1.val, e2.val]] W fun e w' => e = .returned (.bool true) ∧ Below W.heap.size W w' := by
  exact fin (n := .opq 1 6) (d := .opq 1 48) (a := .opq 1 52) (p := .opq 1 58) W (known_ok (b := false) (s := s) W h26 h24 h29 (okq_int _)) rfl (fun g h => vr_any ((congrFun h 6).trans o_n)) (fun g h => vr_any ((congrFun h 48).trans o_d)) (fun g h => vr_any ((congrFun h 52).trans o_a)) (fun g h => vr_any ((congrFun h 58).trans o_p)) (run0 W _ s)
theorem case1 (W : World) {s : Bool} (h26 : ∀ w, Bel W w → Calls Tryz.prog 10 #[r.val] w fun e w' => e = .returned (.bool true) ∧ Bel w w') (h24 : ∀ w, Bel W w → Calls Tryz.prog 32 #[r.flt.val, .int .i64 70] w fun e w' => e = .returned (.int .i64 r24) ∧ Bel w w') (h29 : ∀ w, Bel W w → Calls Tryz.prog 71 #[r.flt.val] w fun e w' => e = .returned (.bool s) ∧ Bel w w') (cn : ¬ (r.name.size : Int) < (251 : Nat)) : Calls Tryz.prog 3 #[.agg #[.string who, .int .i64 r.id, .int .i64 r.kind, .string r.name, .int .i64 r.version, .int .i64 r.method, .string r.secret, .int .i64 r.scope, .int .i64 r.most, .bool r.types, .int .i64 r.flt.kind, .string r.flt.name, .string r.flt.value, .string r.flt.ini, r.flt.any.val, .string r.flt.fin, .bool r.flt.hi, .bool r.flt.hf, .string r.flt.rule, .bool r.flt.dn, r.flt.kids.val, r.attrs.val, r.changes.val, r.values.val, .string r.rdn, .bool r.keep, .string r.above, .bool r.has, .string r.pn, .string r.pv, .int .i64 r.target], .agg #[e1.val, e2.val]] W fun e w' => e = .returned (.bool true) ∧ Below W.heap.size W w' := by
  exact fin (n := .ops 6 [[1506]]) (d := .opq 1 48) (a := .opq 1 52) (p := .opq 1 58) W (known_ok (b := true) (s := s) W h26 h24 h29 (okq_int _)) rfl (fun g h => vr_gt 251 rfl ((congrFun h 6).trans o_n) ((congrFun h 7).trans l_n) (Int.not_lt.1 cn)) (fun g h => vr_any ((congrFun h 48).trans o_d)) (fun g h => vr_any ((congrFun h 52).trans o_a)) (fun g h => vr_any ((congrFun h 58).trans o_p)) (run1 W _ s)
theorem case2 (W : World) {s : Bool} (h26 : ∀ w, Bel W w → Calls Tryz.prog 10 #[r.val] w fun e w' => e = .returned (.bool true) ∧ Bel w w') (h24 : ∀ w, Bel W w → Calls Tryz.prog 32 #[r.flt.val, .int .i64 70] w fun e w' => e = .returned (.int .i64 r24) ∧ Bel w w') (h29 : ∀ w, Bel W w → Calls Tryz.prog 71 #[r.flt.val] w fun e w' => e = .returned (.bool s) ∧ Bel w w') (cn : (r.name.size : Int) < (251 : Nat)) (cd : ¬ (r.rdn.size : Int) < (251 : Nat)) : Calls Tryz.prog 3 #[.agg #[.string who, .int .i64 r.id, .int .i64 r.kind, .string r.name, .int .i64 r.version, .int .i64 r.method, .string r.secret, .int .i64 r.scope, .int .i64 r.most, .bool r.types, .int .i64 r.flt.kind, .string r.flt.name, .string r.flt.value, .string r.flt.ini, r.flt.any.val, .string r.flt.fin, .bool r.flt.hi, .bool r.flt.hf, .string r.flt.rule, .bool r.flt.dn, r.flt.kids.val, r.attrs.val, r.changes.val, r.values.val, .string r.rdn, .bool r.keep, .string r.above, .bool r.has, .string r.pn, .string r.pv, .int .i64 r.target], .agg #[e1.val, e2.val]] W fun e w' => e = .returned (.bool true) ∧ Below W.heap.size W w' := by
  exact fin (n := .ops 6 [[1505]]) (d := .ops 48 [[1506]]) (a := .opq 1 52) (p := .opq 1 58) W (known_ok (b := true) (s := s) W h26 h24 h29 (okq_int _)) rfl (fun g h => vr_le 251 rfl ((congrFun h 6).trans o_n) ((congrFun h 7).trans l_n) cn) (fun g h => vr_gt 251 rfl ((congrFun h 48).trans o_d) ((congrFun h 49).trans l_d) (Int.not_lt.1 cd)) (fun g h => vr_any ((congrFun h 52).trans o_a)) (fun g h => vr_any ((congrFun h 58).trans o_p)) (run2 W _ s)
theorem case3 (W : World) {s : Bool} (h26 : ∀ w, Bel W w → Calls Tryz.prog 10 #[r.val] w fun e w' => e = .returned (.bool true) ∧ Bel w w') (h24 : ∀ w, Bel W w → Calls Tryz.prog 32 #[r.flt.val, .int .i64 70] w fun e w' => e = .returned (.int .i64 r24) ∧ Bel w w') (h29 : ∀ w, Bel W w → Calls Tryz.prog 71 #[r.flt.val] w fun e w' => e = .returned (.bool s) ∧ Bel w w') (cn : (r.name.size : Int) < (251 : Nat)) (cd : (r.rdn.size : Int) < (251 : Nat)) (ca : ¬ (r.above.size : Int) < (251 : Nat)) : Calls Tryz.prog 3 #[.agg #[.string who, .int .i64 r.id, .int .i64 r.kind, .string r.name, .int .i64 r.version, .int .i64 r.method, .string r.secret, .int .i64 r.scope, .int .i64 r.most, .bool r.types, .int .i64 r.flt.kind, .string r.flt.name, .string r.flt.value, .string r.flt.ini, r.flt.any.val, .string r.flt.fin, .bool r.flt.hi, .bool r.flt.hf, .string r.flt.rule, .bool r.flt.dn, r.flt.kids.val, r.attrs.val, r.changes.val, r.values.val, .string r.rdn, .bool r.keep, .string r.above, .bool r.has, .string r.pn, .string r.pv, .int .i64 r.target], .agg #[e1.val, e2.val]] W fun e w' => e = .returned (.bool true) ∧ Below W.heap.size W w' := by
  exact fin (n := .ops 6 [[1505]]) (d := .ops 48 [[1505]]) (a := .ops 52 [[1506]]) (p := .opq 1 58) W (known_ok (b := true) (s := s) W h26 h24 h29 (okq_int _)) rfl (fun g h => vr_le 251 rfl ((congrFun h 6).trans o_n) ((congrFun h 7).trans l_n) cn) (fun g h => vr_le 251 rfl ((congrFun h 48).trans o_d) ((congrFun h 49).trans l_d) cd) (fun g h => vr_gt 251 rfl ((congrFun h 52).trans o_a) ((congrFun h 53).trans l_a) (Int.not_lt.1 ca)) (fun g h => vr_any ((congrFun h 58).trans o_p)) (run3 W _ s)
theorem case4 (W : World) {s : Bool} (h26 : ∀ w, Bel W w → Calls Tryz.prog 10 #[r.val] w fun e w' => e = .returned (.bool true) ∧ Bel w w') (h24 : ∀ w, Bel W w → Calls Tryz.prog 32 #[r.flt.val, .int .i64 70] w fun e w' => e = .returned (.int .i64 r24) ∧ Bel w w') (h29 : ∀ w, Bel W w → Calls Tryz.prog 71 #[r.flt.val] w fun e w' => e = .returned (.bool s) ∧ Bel w w') (cn : (r.name.size : Int) < (251 : Nat)) (cd : (r.rdn.size : Int) < (251 : Nat)) (ca : (r.above.size : Int) < (251 : Nat)) (cp : ¬ (r.pv.size : Int) < (151 : Nat)) : Calls Tryz.prog 3 #[.agg #[.string who, .int .i64 r.id, .int .i64 r.kind, .string r.name, .int .i64 r.version, .int .i64 r.method, .string r.secret, .int .i64 r.scope, .int .i64 r.most, .bool r.types, .int .i64 r.flt.kind, .string r.flt.name, .string r.flt.value, .string r.flt.ini, r.flt.any.val, .string r.flt.fin, .bool r.flt.hi, .bool r.flt.hf, .string r.flt.rule, .bool r.flt.dn, r.flt.kids.val, r.attrs.val, r.changes.val, r.values.val, .string r.rdn, .bool r.keep, .string r.above, .bool r.has, .string r.pn, .string r.pv, .int .i64 r.target], .agg #[e1.val, e2.val]] W fun e w' => e = .returned (.bool true) ∧ Below W.heap.size W w' := by
  exact fin (n := .ops 6 [[1505]]) (d := .ops 48 [[1505]]) (a := .ops 52 [[1505]]) (p := .ops 58 [[1306]]) W (known_ok (b := true) (s := s) W h26 h24 h29 (okq_int _)) rfl (fun g h => vr_le 251 rfl ((congrFun h 6).trans o_n) ((congrFun h 7).trans l_n) cn) (fun g h => vr_le 251 rfl ((congrFun h 48).trans o_d) ((congrFun h 49).trans l_d) cd) (fun g h => vr_le 251 rfl ((congrFun h 52).trans o_a) ((congrFun h 53).trans l_a) ca) (fun g h => vr_gt 151 rfl ((congrFun h 58).trans o_p) ((congrFun h 59).trans l_p) (Int.not_lt.1 cp)) (run4 W _ s)
theorem case5 (W : World) {s : Bool} (h26 : ∀ w, Bel W w → Calls Tryz.prog 10 #[r.val] w fun e w' => e = .returned (.bool true) ∧ Bel w w') (h24 : ∀ w, Bel W w → Calls Tryz.prog 32 #[r.flt.val, .int .i64 70] w fun e w' => e = .returned (.int .i64 r24) ∧ Bel w w') (h29 : ∀ w, Bel W w → Calls Tryz.prog 71 #[r.flt.val] w fun e w' => e = .returned (.bool s) ∧ Bel w w') (cn : (r.name.size : Int) < (251 : Nat)) (cd : (r.rdn.size : Int) < (251 : Nat)) (ca : (r.above.size : Int) < (251 : Nat)) (cp : (r.pv.size : Int) < (151 : Nat)) (cq : ¬ 0 ≤ r24) : Calls Tryz.prog 3 #[.agg #[.string who, .int .i64 r.id, .int .i64 r.kind, .string r.name, .int .i64 r.version, .int .i64 r.method, .string r.secret, .int .i64 r.scope, .int .i64 r.most, .bool r.types, .int .i64 r.flt.kind, .string r.flt.name, .string r.flt.value, .string r.flt.ini, r.flt.any.val, .string r.flt.fin, .bool r.flt.hi, .bool r.flt.hf, .string r.flt.rule, .bool r.flt.dn, r.flt.kids.val, r.attrs.val, r.changes.val, r.values.val, .string r.rdn, .bool r.keep, .string r.above, .bool r.has, .string r.pn, .string r.pv, .int .i64 r.target], .agg #[e1.val, e2.val]] W fun e w' => e = .returned (.bool true) ∧ Below W.heap.size W w' := by
  exact fin (n := .ops 6 [[1505]]) (d := .ops 48 [[1505]]) (a := .ops 52 [[1505]]) (p := .ops 58 [[1305]]) W (known_ok (b := true) (s := s) W h26 h24 h29 (okq3 (Int.not_le.1 cq))) rfl (fun g h => vr_le 251 rfl ((congrFun h 6).trans o_n) ((congrFun h 7).trans l_n) cn) (fun g h => vr_le 251 rfl ((congrFun h 48).trans o_d) ((congrFun h 49).trans l_d) cd) (fun g h => vr_le 251 rfl ((congrFun h 52).trans o_a) ((congrFun h 53).trans l_a) ca) (fun g h => vr_le 151 rfl ((congrFun h 58).trans o_p) ((congrFun h 59).trans l_p) cp) (run5 W _ s)
theorem case6 (W : World) (h26 : ∀ w, Bel W w → Calls Tryz.prog 10 #[r.val] w fun e w' => e = .returned (.bool true) ∧ Bel w w') (h24 : ∀ w, Bel W w → Calls Tryz.prog 32 #[r.flt.val, .int .i64 70] w fun e w' => e = .returned (.int .i64 r24) ∧ Bel w w') (h29 : ∀ w, Bel W w → Calls Tryz.prog 71 #[r.flt.val] w fun e w' => e = .returned (.bool false) ∧ Bel w w') (cn : (r.name.size : Int) < (251 : Nat)) (cd : (r.rdn.size : Int) < (251 : Nat)) (ca : (r.above.size : Int) < (251 : Nat)) (cp : (r.pv.size : Int) < (151 : Nat)) (cq : 0 ≤ r24) : Calls Tryz.prog 3 #[.agg #[.string who, .int .i64 r.id, .int .i64 r.kind, .string r.name, .int .i64 r.version, .int .i64 r.method, .string r.secret, .int .i64 r.scope, .int .i64 r.most, .bool r.types, .int .i64 r.flt.kind, .string r.flt.name, .string r.flt.value, .string r.flt.ini, r.flt.any.val, .string r.flt.fin, .bool r.flt.hi, .bool r.flt.hf, .string r.flt.rule, .bool r.flt.dn, r.flt.kids.val, r.attrs.val, r.changes.val, r.values.val, .string r.rdn, .bool r.keep, .string r.above, .bool r.has, .string r.pn, .string r.pv, .int .i64 r.target], .agg #[e1.val, e2.val]] W fun e w' => e = .returned (.bool true) ∧ Below W.heap.size W w' := by
  exact fin (n := .ops 6 [[1505]]) (d := .ops 48 [[1505]]) (a := .ops 52 [[1505]]) (p := .ops 58 [[1305]]) W (known_ok (b := true) (s := false) W h26 h24 h29 (okq4 cq)) rfl (fun g h => vr_le 251 rfl ((congrFun h 6).trans o_n) ((congrFun h 7).trans l_n) cn) (fun g h => vr_le 251 rfl ((congrFun h 48).trans o_d) ((congrFun h 49).trans l_d) cd) (fun g h => vr_le 251 rfl ((congrFun h 52).trans o_a) ((congrFun h 53).trans l_a) ca) (fun g h => vr_le 151 rfl ((congrFun h 58).trans o_p) ((congrFun h 59).trans l_p) cp) (run6 W _ false)
theorem case7 (W : World) (h26 : ∀ w, Bel W w → Calls Tryz.prog 10 #[r.val] w fun e w' => e = .returned (.bool true) ∧ Bel w w') (h24 : ∀ w, Bel W w → Calls Tryz.prog 32 #[r.flt.val, .int .i64 70] w fun e w' => e = .returned (.int .i64 r24) ∧ Bel w w') (h29 : ∀ w, Bel W w → Calls Tryz.prog 71 #[r.flt.val] w fun e w' => e = .returned (.bool true) ∧ Bel w w') (cn : (r.name.size : Int) < (251 : Nat)) (cd : (r.rdn.size : Int) < (251 : Nat)) (ca : (r.above.size : Int) < (251 : Nat)) (cp : (r.pv.size : Int) < (151 : Nat)) (cq : 0 ≤ r24) : Calls Tryz.prog 3 #[.agg #[.string who, .int .i64 r.id, .int .i64 r.kind, .string r.name, .int .i64 r.version, .int .i64 r.method, .string r.secret, .int .i64 r.scope, .int .i64 r.most, .bool r.types, .int .i64 r.flt.kind, .string r.flt.name, .string r.flt.value, .string r.flt.ini, r.flt.any.val, .string r.flt.fin, .bool r.flt.hi, .bool r.flt.hf, .string r.flt.rule, .bool r.flt.dn, r.flt.kids.val, r.attrs.val, r.changes.val, r.values.val, .string r.rdn, .bool r.keep, .string r.above, .bool r.has, .string r.pn, .string r.pv, .int .i64 r.target], .agg #[e1.val, e2.val]] W fun e w' => e = .returned (.bool true) ∧ Below W.heap.size W w' := by
  exact fin (n := .ops 6 [[1505]]) (d := .ops 48 [[1505]]) (a := .ops 52 [[1505]]) (p := .ops 58 [[1305]]) W (known_ok (b := true) (s := true) W h26 h24 h29 (okq4 cq)) rfl (fun g h => vr_le 251 rfl ((congrFun h 6).trans o_n) ((congrFun h 7).trans l_n) cn) (fun g h => vr_le 251 rfl ((congrFun h 48).trans o_d) ((congrFun h 49).trans l_d) cd) (fun g h => vr_le 251 rfl ((congrFun h 52).trans o_a) ((congrFun h 53).trans l_a) ca) (fun g h => vr_le 151 rfl ((congrFun h 58).trans o_p) ((congrFun h 59).trans l_p) cp) (run7 W _ true)
theorem walk_of (W : World) {N : Nat} (h : ROk N W r) : Calls Tryz.prog 3 #[.agg #[.string who, .int .i64 r.id, .int .i64 r.kind, .string r.name, .int .i64 r.version, .int .i64 r.method, .string r.secret, .int .i64 r.scope, .int .i64 r.most, .bool r.types, .int .i64 r.flt.kind, .string r.flt.name, .string r.flt.value, .string r.flt.ini, r.flt.any.val, .string r.flt.fin, .bool r.flt.hi, .bool r.flt.hf, .string r.flt.rule, .bool r.flt.dn, r.flt.kids.val, r.attrs.val, r.changes.val, r.values.val, .string r.rdn, .bool r.keep, .string r.above, .bool r.has, .string r.pn, .string r.pv, .int .i64 r.target], .agg #[e1.val, e2.val]] W fun e w' => e = .returned (.bool true) ∧ Below W.heap.size W w' := by
  obtain ⟨b, h26⟩ := req26_any W N r h
  obtain ⟨r24, _, h24⟩ := few24_any W N r.flt h.1 70 (by decide) (by decide)
  obtain ⟨s, h29⟩ := short29_any W N r.flt h.1
  cases b with
  | false => exact case0 W h26 h24 h29
  | true =>
  by_cases cn : (r.name.size : Int) < (251 : Nat)
  case neg => exact case1 W h26 h24 h29 cn
  by_cases cd : (r.rdn.size : Int) < (251 : Nat)
  case neg => exact case2 W h26 h24 h29 cn cd
  by_cases ca : (r.above.size : Int) < (251 : Nat)
  case neg => exact case3 W h26 h24 h29 cn cd ca
  by_cases cp : (r.pv.size : Int) < (151 : Nat)
  case neg => exact case4 W h26 h24 h29 cn cd ca cp
  by_cases cq : 0 ≤ r24
  case neg => exact case5 W h26 h24 h29 cn cd ca cp cq
  cases s with
  | false => exact case6 W h26 h24 h29 cn cd ca cp cq
  | true =>
  exact case7 W h26 h24 h29 cn cd ca cp cq
end
theorem ofArg (N : Nat) : Of Tryz.prog (fun x : ByteArray × Req => [.string x.1] ++ x.2.cells) (fun w x => TT w x.1 ∧ ROk N w x.2) 31 N 35 :=
  Of.down (of_struct (N := N) Tryz.underlying35 (by kernel_rfl) (ofF_cons (of_string Tryz.underlying9) rfl (by kernel_rfl) (ofF_one (sz := 30) (f := Req.cells) (Q := ROk N) (ofReq N) rfl (by kernel_rfl)))) (Nat.le_succ N)
theorem walk {H : Type} {enc : TypeId × Value → H} (W : World) (base : Nat) (v0 v1 : Value) (o0 : Value.okWide Tryz.prog W .any base 35 v0) (o1 : Value.okWide Tryz.prog W .any base 39 v1) {d0 d1 : DataW H} {p0 p1 : List MemPlace}
    (h0 : DataW.Trod enc Tryz.prog W 0 (fun _ => true) true 35 v0 d0 p0) (h1 : DataW.Trod enc Tryz.prog W 0 (fun _ => true) true 39 v1 d1 p1) :
    Calls Tryz.prog 3 #[v0, v1] W fun e w' => e = .returned (.bool true) ∧ Below W.heap.size W w' := by
  obtain ⟨c0, rfl, _⟩ := okWide_struct Tryz.underlying35 o0
  obtain ⟨n0, h0⟩ := h0
  obtain ⟨n1, h1⟩ := h1
  obtain ⟨a, ha, _, hq⟩ := ofArg (n0 + 1) _ _ _ _ _ _ _ _ _ (Nat.lt_succ_self _) h0
  obtain ⟨who, r⟩ := a
  obtain ⟨c1, rfl, _⟩ := okWide_struct Tryz.underlying39 o1
  obtain ⟨xs, m, _, _, hl, hlen, hf⟩ := DataW.trod_struct Tryz.underlying39 h1
  have e0 : (Value.agg c1).cells.toList.length = 2 := by rw [hl]; kernel_rfl
  have a0 := hf 0 _ rfl
  have a1 := hf 1 _ rfl
  rw [List.getElem?_eq_getElem (by rw [hlen]; decide)] at a0 a1
  obtain ⟨l1⟩ := c1
  match l1, e0 with
  | [x0, x1], _ =>
  obtain ⟨e1, rfl⟩ : ∃ e1 : Hd, x0 = e1.val := by
    rcases DataW.trod_slice Tryz.underlying37 (cs := [x0]) a0 with ⟨hv, _⟩ | ⟨a, len, cap, _, _, _, _, hv, _⟩
    · exact ⟨(none, 0, 0), (List.cons.inj hv).1⟩
    · exact ⟨(some a, len, cap), (List.cons.inj hv).1⟩
  obtain ⟨e2, rfl⟩ : ∃ e2 : Hd, x1 = e2.val := by
    rcases DataW.trod_slice Tryz.underlying29 (cs := [x1]) a1 with ⟨hv, _⟩ | ⟨a, len, cap, _, _, _, _, hv, _⟩
    · exact ⟨(none, 0, 0), (List.cons.inj hv).1⟩
    · exact ⟨(some a, len, cap), (List.cons.inj hv).1⟩
  obtain ⟨l0⟩ := c0
  obtain rfl : l0 = _ := ha
  exact walk_of W hq.2
#print axioms walk
end Go.Proofs.YtjkhemeiliflgaaGreatDoor.searchNobody
