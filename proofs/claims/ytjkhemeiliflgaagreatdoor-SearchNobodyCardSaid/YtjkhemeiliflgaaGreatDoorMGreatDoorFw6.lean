/- Requests as they read, and what is told of them. No condition. -/
import Derived.Test.YtjkhemeiliflgaaGreatDoorMGreatDoorFw5
set_option maxRecDepth 100000
namespace Go.Proofs.YtjkhemeiliflgaaGreatDoor
open Go.RowKit Go.Wd Go.Rq
def VQ (w : World) (z : Vls) : Prop := HQ strC TT 1 w z.vs
def CQ (w : World) (c : Chg) : Prop := VQ w c.v
theorem ofVls (N : Nat) : Of Tryz.prog Vls.cells VQ 2 N 89 :=
  Of.down (of_map (f := fun x : ByteArray × Hd => [.string x.1] ++ Hd.cells x.2) (Q := fun w x => TT w x.1 ∧ HQ strC TT 1 w x.2) (fun a : ByteArray × Hd => ⟨⟨a.1, a.2⟩, rfl, fun w h => h.2⟩) (of_struct (N := N) Tryz.underlying89 (by kernel_rfl)
    (ofF_cons (of_string Tryz.underlying9) rfl (by kernel_rfl) (ofF_one (sz := 1) (f := Hd.cells) (Q := HQ strC TT 1) (ofStrs N) rfl (by kernel_rfl))))) (Nat.le_succ N)
theorem ofVs (N : Nat) : Of Tryz.prog Hd.cells (HQ Vls.cells VQ 2) 1 N 29 := Of.down (hd_of Tryz.underlying29 (ofVls N) (by kernel_rfl) (by decide)) (Nat.le_succ N)
theorem ofChg (N : Nat) : Of Tryz.prog Chg.cells CQ 3 N 103 :=
  Of.down (of_map (f := fun x : Int × Vls => [.int .i64 x.1] ++ Vls.cells x.2) (Q := fun w x => TT w x.1 ∧ VQ w x.2) (fun a : Int × Vls => ⟨⟨a.1, a.2⟩, rfl, fun w h => h.2⟩) (of_struct (N := N) Tryz.underlying103 (by kernel_rfl)
    (ofF_cons (of_int Tryz.underlying3) rfl (by kernel_rfl) (ofF_one (sz := 2) (f := Vls.cells) (Q := VQ) (ofVls N) rfl (by kernel_rfl))))) (Nat.le_succ N)
theorem ofChs (N : Nat) : Of Tryz.prog Hd.cells (HQ Chg.cells CQ 3) 1 N 28 := Of.down (hd_of Tryz.underlying28 (ofChg N) (by kernel_rfl) (by decide)) (Nat.le_succ N)
def Pr := ByteArray × ByteArray
def Pr.cells (a : Pr) : List Value := [.string a.1, .string a.2]
theorem ofPair (N : Nat) : Of Tryz.prog Pr.cells TT 2 N 31 :=
  Of.down (of_map (f := fun x : ByteArray × ByteArray => [.string x.1] ++ [.string x.2]) (Q := fun w x => TT w x.1 ∧ TT w x.2) (fun a : ByteArray × ByteArray => ⟨a, rfl, fun w h => trivial⟩) (of_struct (N := N) Tryz.underlying31 (by kernel_rfl)
    (ofF_cons (of_string Tryz.underlying9) rfl (by kernel_rfl) (ofF_one (of_string Tryz.underlying9) rfl (by kernel_rfl))))) (Nat.le_succ N)
structure Req where
  id : Int
  kind : Int
  name : ByteArray
  version : Int
  method : Int
  secret : ByteArray
  scope : Int
  most : Int
  types : Bool
  flt : Flt
  attrs : Hd
  changes : Hd
  values : Hd
  rdn : ByteArray
  keep : Bool
  above : ByteArray
  has : Bool
  pn : ByteArray
  pv : ByteArray
  target : Int
def Req.cells (r : Req) : List Value := [.int .i64 r.id, .int .i64 r.kind, .string r.name, .int .i64 r.version, .int .i64 r.method, .string r.secret, .int .i64 r.scope, .int .i64 r.most, .bool r.types,
  .int .i64 r.flt.kind, .string r.flt.name, .string r.flt.value, .string r.flt.ini, r.flt.any.val, .string r.flt.fin, .bool r.flt.hi, .bool r.flt.hf, .string r.flt.rule, .bool r.flt.dn, r.flt.kids.val,
  r.attrs.val, r.changes.val, r.values.val, .string r.rdn, .bool r.keep, .string r.above, .bool r.has, .string r.pn, .string r.pv, .int .i64 r.target]
def ROk (N : Nat) (w : World) (r : Req) : Prop := FOk N w r.flt ∧ HQ strC TT 1 w r.attrs ∧ HQ Chg.cells CQ 3 w r.changes ∧ HQ Vls.cells VQ 2 w r.values
theorem ofReq (N : Nat) : Of Tryz.prog Req.cells (ROk N) 30 N 33 :=
  Of.down (of_map (f := fun x : Int × Int × ByteArray × Int × Int × ByteArray × Int × Int × Bool × Flt × Hd × Hd × Hd × ByteArray × Bool × ByteArray × Bool × Pr × Int => [.int .i64 x.1] ++ ([.int .i64 x.2.1] ++ ([.string x.2.2.1] ++ ([.int .i64 x.2.2.2.1] ++ ([.int .i64 x.2.2.2.2.1] ++ ([.string x.2.2.2.2.2.1] ++ ([.int .i64 x.2.2.2.2.2.2.1] ++ ([.int .i64 x.2.2.2.2.2.2.2.1] ++ ([.bool x.2.2.2.2.2.2.2.2.1] ++ (Flt.cells x.2.2.2.2.2.2.2.2.2.1 ++ (Hd.cells x.2.2.2.2.2.2.2.2.2.2.1 ++ (Hd.cells x.2.2.2.2.2.2.2.2.2.2.2.1 ++ (Hd.cells x.2.2.2.2.2.2.2.2.2.2.2.2.1 ++ ([.string x.2.2.2.2.2.2.2.2.2.2.2.2.2.1] ++ ([.bool x.2.2.2.2.2.2.2.2.2.2.2.2.2.2.1] ++ ([.string x.2.2.2.2.2.2.2.2.2.2.2.2.2.2.2.1] ++ ([.bool x.2.2.2.2.2.2.2.2.2.2.2.2.2.2.2.2.1] ++ (Pr.cells x.2.2.2.2.2.2.2.2.2.2.2.2.2.2.2.2.2.1 ++ ([.int .i64 x.2.2.2.2.2.2.2.2.2.2.2.2.2.2.2.2.2.2]))))))))))))))))))) (Q := fun w x => TT w x.1 ∧ TT w x.2.1 ∧ TT w x.2.2.1 ∧ TT w x.2.2.2.1 ∧ TT w x.2.2.2.2.1 ∧ TT w x.2.2.2.2.2.1 ∧ TT w x.2.2.2.2.2.2.1 ∧ TT w x.2.2.2.2.2.2.2.1 ∧ TT w x.2.2.2.2.2.2.2.2.1 ∧ FOk N w x.2.2.2.2.2.2.2.2.2.1 ∧ HQ strC TT 1 w x.2.2.2.2.2.2.2.2.2.2.1 ∧ HQ Chg.cells CQ 3 w x.2.2.2.2.2.2.2.2.2.2.2.1 ∧ HQ Vls.cells VQ 2 w x.2.2.2.2.2.2.2.2.2.2.2.2.1 ∧ TT w x.2.2.2.2.2.2.2.2.2.2.2.2.2.1 ∧ TT w x.2.2.2.2.2.2.2.2.2.2.2.2.2.2.1 ∧ TT w x.2.2.2.2.2.2.2.2.2.2.2.2.2.2.2.1 ∧ TT w x.2.2.2.2.2.2.2.2.2.2.2.2.2.2.2.2.1 ∧ TT w x.2.2.2.2.2.2.2.2.2.2.2.2.2.2.2.2.2.1 ∧ TT w x.2.2.2.2.2.2.2.2.2.2.2.2.2.2.2.2.2.2)
    (fun a : Int × Int × ByteArray × Int × Int × ByteArray × Int × Int × Bool × Flt × Hd × Hd × Hd × ByteArray × Bool × ByteArray × Bool × Pr × Int => ⟨⟨a.1, a.2.1, a.2.2.1, a.2.2.2.1, a.2.2.2.2.1, a.2.2.2.2.2.1, a.2.2.2.2.2.2.1, a.2.2.2.2.2.2.2.1, a.2.2.2.2.2.2.2.2.1, a.2.2.2.2.2.2.2.2.2.1, a.2.2.2.2.2.2.2.2.2.2.1, a.2.2.2.2.2.2.2.2.2.2.2.1, a.2.2.2.2.2.2.2.2.2.2.2.2.1, a.2.2.2.2.2.2.2.2.2.2.2.2.2.1, a.2.2.2.2.2.2.2.2.2.2.2.2.2.2.1, a.2.2.2.2.2.2.2.2.2.2.2.2.2.2.2.1, a.2.2.2.2.2.2.2.2.2.2.2.2.2.2.2.2.1, a.2.2.2.2.2.2.2.2.2.2.2.2.2.2.2.2.2.1.1, a.2.2.2.2.2.2.2.2.2.2.2.2.2.2.2.2.2.1.2, a.2.2.2.2.2.2.2.2.2.2.2.2.2.2.2.2.2.2⟩, rfl, fun w h => ⟨h.2.2.2.2.2.2.2.2.2.1, h.2.2.2.2.2.2.2.2.2.2.1, h.2.2.2.2.2.2.2.2.2.2.2.1, h.2.2.2.2.2.2.2.2.2.2.2.2.1⟩⟩)
    (of_struct (N := N) Tryz.underlying33 (by kernel_rfl) (ofF_cons (of_int Tryz.underlying3) rfl (by kernel_rfl) (ofF_cons (of_int Tryz.underlying3) rfl (by kernel_rfl) (ofF_cons (of_string Tryz.underlying9) rfl (by kernel_rfl) (ofF_cons (of_int Tryz.underlying3) rfl (by kernel_rfl) (ofF_cons (of_int Tryz.underlying3) rfl (by kernel_rfl) (ofF_cons (of_string Tryz.underlying9) rfl (by kernel_rfl) (ofF_cons (of_int Tryz.underlying3) rfl (by kernel_rfl) (ofF_cons (of_int Tryz.underlying3) rfl (by kernel_rfl) (ofF_cons (of_bool Tryz.underlying4) rfl (by kernel_rfl) (ofF_cons (s1 := 11) (f := Flt.cells) (Q := FOk N) (ofFlt N) rfl (by kernel_rfl) (ofF_cons (s1 := 1) (f := Hd.cells) (Q := HQ strC TT 1) (ofStrs N) rfl (by kernel_rfl) (ofF_cons (s1 := 1) (f := Hd.cells) (Q := HQ Chg.cells CQ 3) (ofChs N) rfl (by kernel_rfl) (ofF_cons (s1 := 1) (f := Hd.cells) (Q := HQ Vls.cells VQ 2) (ofVs N) rfl (by kernel_rfl) (ofF_cons (of_string Tryz.underlying9) rfl (by kernel_rfl) (ofF_cons (of_bool Tryz.underlying4) rfl (by kernel_rfl) (ofF_cons (of_string Tryz.underlying9) rfl (by kernel_rfl) (ofF_cons (of_bool Tryz.underlying4) rfl (by kernel_rfl) (ofF_cons (s1 := 2) (f := Pr.cells) (Q := TT) (ofPair N) rfl (by kernel_rfl) (ofF_one (of_int Tryz.underlying3) rfl (by kernel_rfl)))))))))))))))))))))) (Nat.le_succ N)
open Classical in
/-- What stands behind words, if that is known. -/
noncomputable def behind (W : World) (z : Vls) : List ByteArray := if h : VQ W z then Classical.choose h else []
theorem behind_ok {W : World} {z : Vls} (h : VQ W z) : z.vs.2.1 = (behind W z).length ∧ Sl W z.vs.val 1 (behind W z).length ((behind W z).flatMap strC) := by
  have e : behind W z = Classical.choose h := dif_pos h
  rw [e]
  exact ⟨(Classical.choose_spec h).1, (Classical.choose_spec h).2.1⟩
def Req.val (r : Req) : Value := .agg #[.int .i64 r.id, .int .i64 r.kind, .string r.name, .int .i64 r.version, .int .i64 r.method, .string r.secret, .int .i64 r.scope, .int .i64 r.most, .bool r.types,
  .int .i64 r.flt.kind, .string r.flt.name, .string r.flt.value, .string r.flt.ini, r.flt.any.val, .string r.flt.fin, .bool r.flt.hi, .bool r.flt.hf, .string r.flt.rule, .bool r.flt.dn, r.flt.kids.val,
  r.attrs.val, r.changes.val, r.values.val, .string r.rdn, .bool r.keep, .string r.above, .bool r.has, .string r.pn, .string r.pv, .int .i64 r.target]
open Classical in
theorem req26_any (W : World) (N : Nat) (r : Req) (h : ROk N W r) : ∃ B : Bool, ∀ w, Bel W w → Calls Tryz.prog 10 #[r.val] w fun e w' => e = .returned (.bool B) ∧ Bel w w' := by
  obtain ⟨id, kind, name, version, method, secret, scope, most, types, flt, ⟨aq, an, ac⟩, ⟨cq, cn, cc⟩, ⟨vq, vn, vc⟩, rdn, keep, above, has, pn, pv, target⟩ := r
  obtain ⟨hf, ⟨ts, et, ht, _⟩, ⟨cs, ec, hc, hcq⟩, ⟨vs, ev, hv, hvq⟩⟩ := h
  obtain rfl : an = ts.length := et
  obtain rfl : cn = cs.length := ec
  obtain rfl : vn = vs.length := ev
  obtain ⟨r24, _, h24⟩ := few24_any W N flt hf 150 (by decide) (by decide)
  obtain ⟨fk, fname, fval, fini, ⟨faq, fan, fac⟩, ffin, fhi, fhf, frule, fdn, ⟨fkq, fkn, fkc⟩⟩ := flt
  let S := behind W
  have hSv : Sees W S vs := fun z hz => behind_ok (hvq z hz)
  have hSc : ∀ c ∈ cs, Sees W S [c.v] := fun c hc' z hz => by
    rw [List.mem_singleton.1 hz]
    exact behind_ok (hcq c hc')
  generalize S = S at hSv hSc
  refine ⟨decide (0 ≤ r24 ∧ (ts.length : Int) ≤ 40 ∧ (cs.length : Int) ≤ 20 ∧ few26R S vs = true ∧ Short ts 1000 ts.length ∧ ChOk S cs cs.length ∧ (name.size : Int) ≤ 5000 ∧ (secret.size : Int) ≤ 5000 ∧ (rdn.size : Int) ≤ 5000 ∧ (above.size : Int) ≤ 5000 ∧ wrap64 ((pn.size : Int) + pv.size) ≤ 5000), fun w hb => ?_⟩
  refine req26_walk W S id kind version method scope most target fk name secret rdn above pn pv fname fval fini ffin frule types keep has fhi fhf fdn faq fkq aq cq vq fan fac fkn fkc ac cc vc ts cs vs ht hc hv hSv hSc 150 r24 rfl h24 _ ?_ ?_ ?_ ?_ ?_ ?_ ?_ ?_ ?_ ?_ ?_ ?_ w hb
  · exact fun h => decide_eq_false fun k => by have := k.1; omega
  · exact fun h => decide_eq_false fun k => by have := k.2.1; omega
  · exact fun h => decide_eq_false fun k => by have := k.2.2.1; omega
  · exact fun h => decide_eq_false fun k => by rw [h] at k; cases k.2.2.2.1
  · exact fun i hi h => decide_eq_false fun k => by
      have := k.2.2.2.2.1 i hi
      omega
  · exact fun i hi h => decide_eq_false fun k => by
      have := k.2.2.2.2.2.1 i hi
      rw [h] at this; cases this
  · exact fun h => decide_eq_false fun k => by have := k.2.2.2.2.2.2.1; omega
  · exact fun h => decide_eq_false fun k => by have := k.2.2.2.2.2.2.2.1; omega
  · exact fun h => decide_eq_false fun k => by have := k.2.2.2.2.2.2.2.2.1; omega
  · exact fun h => decide_eq_false fun k => by have := k.2.2.2.2.2.2.2.2.2.1; omega
  · exact fun h => decide_eq_false fun k => by have := k.2.2.2.2.2.2.2.2.2.2; exact absurd h (Int.not_lt.2 this)
  · exact fun a1 a2 a3 a4 a5 a6 a7 a8 a9 a10 a11 => decide_eq_true ⟨a1, a2, a3, a4, a5, a6, a7, a8, a9, a10, a11⟩
end Go.Proofs.YtjkhemeiliflgaaGreatDoor
