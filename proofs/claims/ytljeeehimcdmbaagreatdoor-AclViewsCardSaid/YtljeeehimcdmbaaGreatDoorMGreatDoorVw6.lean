/- The walks of toponymlaw31.AclSees and AclViews, from what reads as data. No condition. -/
import Derived.Test.YtljeeehimcdmbaaGreatDoorMGreatDoorRd
import Derived.Test.YtljeeehimcdmbaaGreatDoorMGreatDoorVw3
import Derived.Test.YtljeeehimcdmbaaGreatDoorME5
import Derived.Test.YtljeeehimcdmbaaGreatDoorRows
set_option maxRecDepth 100000
namespace Go.Proofs.YtljeeehimcdmbaaGreatDoor.sight
open Go.RowKit Go.Wd Go.Dir Go.WideShapes Go.Rd
theorem of64 : Of Tryz.prog Attr.cells 6 64 := of_map (fun a : ByteArray × ByteArray × Int × Int × Bool × Bool => ⟨⟨a.1, a.2.1, a.2.2.1, a.2.2.2.1, a.2.2.2.2.1, a.2.2.2.2.2⟩, rfl⟩)
  (of_struct Tryz.underlying64 (by kernel_rfl) (ofF_cons (of_string Tryz.underlying9) rfl (by kernel_rfl) (ofF_cons (of_string Tryz.underlying9) rfl (by kernel_rfl) (ofF_cons (of_int Tryz.underlying3) rfl (by kernel_rfl) (ofF_cons (of_int Tryz.underlying3) rfl (by kernel_rfl) (ofF_cons (of_bool Tryz.underlying4) rfl (by kernel_rfl) (ofF_one (of_bool Tryz.underlying4) rfl (by kernel_rfl))))))))
theorem of62 : Of Tryz.prog Cls.cells 5 62 := of_map (fun a : ByteArray × ByteArray × Bool × (Option Addr × Nat × Nat) × (Option Addr × Nat × Nat) => ⟨⟨a.1, a.2.1, a.2.2.1, a.2.2.2.1.1, a.2.2.2.1.2.1, a.2.2.2.1.2.2, a.2.2.2.2.1, a.2.2.2.2.2.1, a.2.2.2.2.2.2⟩, rfl⟩)
  (of_struct Tryz.underlying62 (by kernel_rfl) (ofF_cons (of_string Tryz.underlying9) rfl (by kernel_rfl) (ofF_cons (of_string Tryz.underlying9) rfl (by kernel_rfl) (ofF_cons (of_bool Tryz.underlying4) rfl (by kernel_rfl) (ofF_cons (of_head Tryz.underlying57) rfl (by kernel_rfl) (ofF_one (of_head Tryz.underlying57) rfl (by kernel_rfl)))))))
theorem of52 : Of Tryz.prog Grant.cells 7 52 := of_map (fun a : ByteArray × ByteArray × ByteArray × Bool × Bool × Int × Bool => ⟨⟨a.1, a.2.1, a.2.2.1, a.2.2.2.1, a.2.2.2.2.1, a.2.2.2.2.2.1, a.2.2.2.2.2.2⟩, rfl⟩)
  (of_struct Tryz.underlying52 (by kernel_rfl) (ofF_cons (of_string Tryz.underlying9) rfl (by kernel_rfl) (ofF_cons (of_string Tryz.underlying9) rfl (by kernel_rfl) (ofF_cons (of_string Tryz.underlying9) rfl (by kernel_rfl) (ofF_cons (of_bool Tryz.underlying4) rfl (by kernel_rfl) (ofF_cons (of_bool Tryz.underlying4) rfl (by kernel_rfl) (ofF_cons (of_int Tryz.underlying3) rfl (by kernel_rfl) (ofF_one (of_bool Tryz.underlying4) rfl (by kernel_rfl)))))))))
theorem ofAsk (N : Nat) : Rq.Of Tryz.prog (fun a : ByteArray × ByteArray × ByteArray × Int => [Value.string a.1, .string a.2.1, .string a.2.2.1, .int .i64 a.2.2.2]) Rq.TT 4 N 28 :=
  En.Of.down (Rq.of_map (f := fun x : ByteArray × ByteArray × ByteArray × Int => [Value.string x.1] ++ ([Value.string x.2.1] ++ ([Value.string x.2.2.1] ++ [Value.int .i64 x.2.2.2]))) (Q := fun w x => Rq.TT w x.1 ∧ Rq.TT w x.2.1 ∧ Rq.TT w x.2.2.1 ∧ Rq.TT w x.2.2.2) (fun a => ⟨a, rfl, fun w h => trivial⟩) (Rq.of_struct (N := N) Tryz.underlying28 (by kernel_rfl)
    (Rq.ofF_cons (Rq.of_string Tryz.underlying9) rfl (by kernel_rfl) (Rq.ofF_cons (Rq.of_string Tryz.underlying9) rfl (by kernel_rfl) (Rq.ofF_cons (Rq.of_string Tryz.underlying9) rfl (by kernel_rfl) (Rq.ofF_one (Rq.of_int Tryz.underlying3) rfl (by kernel_rfl))))))) (Nat.le_succ N)
theorem ofSight (N : Nat) : Rq.Of Tryz.prog (fun x : En.Ent × ByteArray × ByteArray × ByteArray × Int => [x.1.1.val, x.1.2.val, Value.string x.2.1, .string x.2.2.1, .string x.2.2.2.1, .int .i64 x.2.2.2.2]) (fun w x => En.EQ w x.1) 6 (N + 1) 44 :=
  Rq.of_map (f := fun x : En.Ent × ByteArray × ByteArray × ByteArray × Int => En.Ent.cells x.1 ++ [Value.string x.2.1, .string x.2.2.1, .string x.2.2.2.1, .int .i64 x.2.2.2.2]) (Q := fun w x => En.EQ w x.1 ∧ Rq.TT w x.2) (fun a => ⟨a, rfl, fun w h => h.1⟩) (Rq.of_struct (N := N) Tryz.underlying44 (by kernel_rfl)
    (Rq.ofF_cons (s1 := 2) (f := En.Ent.cells) (Q := En.EQ) (En.ofEnt N) rfl (by kernel_rfl) (Rq.ofF_one (sz := 4) (f := fun a : ByteArray × ByteArray × ByteArray × Int => [Value.string a.1, .string a.2.1, .string a.2.2.1, .int .i64 a.2.2.2]) (Q := Rq.TT) (ofAsk N) rfl (by kernel_rfl))))
theorem reads {H : Type} {enc : TypeId × Value → H} (W : World) (base : Nat) (v0 v1 v2 : Value) (o0 : Value.okWide Tryz.prog W .any base 25 v0) (o1 : Value.okWide Tryz.prog W .any base 26 v1) (o2 : Value.okWide Tryz.prog W .any base 44 v2) {d0 d1 d2 : DataW H} {p0 p1 p2 : List MemPlace}
    (h0 : DataW.Trod enc Tryz.prog W 0 (fun _ => true) true 25 v0 d0 p0) (h1 : DataW.Trod enc Tryz.prog W 0 (fun _ => true) true 26 v1 d1 p1) (h2 : DataW.Trod enc Tryz.prog W 0 (fun _ => true) true 44 v2 d2 p2) :
    ∃ (l : List Attr) (cs : List Cls) (gs : List Grant) (x0 x1 : Value) (e : En.Ent) (who key attr : ByteArray) (kind : Int), v0 = .agg #[x0, x1] ∧ v2 = .agg #[e.1.val, e.2.val, .string who, .string key, .string attr, .int .i64 kind] ∧
      Sl W x0 6 l.length (attrCells l) ∧ Sl W x1 5 cs.length (clsCells cs) ∧ Sl W v1 7 gs.length (grantCells gs) ∧ En.EQ W e := by
  obtain ⟨c0, rfl, s0⟩ := okWide_struct Tryz.underlying25 o0
  obtain ⟨q1, n1, k1, rfl⟩ := okWide_slice Tryz.underlying26 o1
  obtain ⟨c2, rfl, s2⟩ := okWide_struct Tryz.underlying44 o2
  obtain ⟨m0, h0⟩ := h0
  obtain ⟨m1, h1⟩ := h1
  obtain ⟨m2, h2⟩ := h2
  obtain ⟨gs, hg⟩ := sl_of Tryz.underlying26 of52 (by kernel_rfl) (by decide) h1
  obtain ⟨a, ha, _, hq⟩ := ofSight (m2 + 1) _ _ _ _ _ _ _ _ _ (by omega) h2
  obtain ⟨e, who, key, attr, kind⟩ := a
  obtain ⟨xs, m, _, _, hl, hlen, hf⟩ := DataW.trod_struct Tryz.underlying25 h0
  have a0 := hf 0 _ rfl
  have a1 := hf 1 _ rfl
  rw [List.getElem?_eq_getElem (by rw [hlen]; decide)] at a0 a1
  have e0 : (Value.agg c0).cells.toList.length = 2 := by rw [hl]; kernel_rfl
  obtain ⟨l0⟩ := c0
  match l0, e0 with
  | [x0, x1], _ =>
  have k22 : Tryz.prog.cellsOf 22 = 1 := by kernel_rfl
  have k23 : Tryz.prog.cellsOf 23 = 1 := by kernel_rfl
  have a0 : DataW.trod enc Tryz.prog W 0 (fun _ => true) true m 22 (List.take (Tryz.prog.cellsOf 22) (List.drop 0 [x0, x1])) = some _ := a0
  have a1 : DataW.trod enc Tryz.prog W 0 (fun _ => true) true m 23 (List.take (Tryz.prog.cellsOf 23) (List.drop 1 [x0, x1])) = some _ := a1
  rw [k22] at a0
  rw [k23] at a1
  obtain ⟨l, hA⟩ := sl_of Tryz.underlying22 of64 (by kernel_rfl) (by decide) (show DataW.trod enc Tryz.prog W 0 (fun _ => true) true m 22 [x0] = some _ from a0)
  obtain ⟨cs, hC⟩ := sl_of Tryz.underlying23 of62 (by kernel_rfl) (by decide) (show DataW.trod enc Tryz.prog W 0 (fun _ => true) true m 23 [x1] = some _ from a1)
  obtain ⟨l2⟩ := c2
  obtain rfl : l2 = _ := ha
  exact ⟨l, cs, gs, x0, x1, e, who, key, attr, kind, rfl, rfl, hA, hC, hg, hq⟩
end Go.Proofs.YtljeeehimcdmbaaGreatDoor.sight
namespace Go.Proofs.YtljeeehimcdmbaaGreatDoor.aclSees
open Go.RowKit Go.Wd Go.Dir
theorem walk {H : Type} {enc : TypeId × Value → H} (W : World) (base : Nat) (v0 v1 v2 : Value) (o0 : Value.okWide Tryz.prog W .any base 25 v0) (o1 : Value.okWide Tryz.prog W .any base 26 v1) (o2 : Value.okWide Tryz.prog W .any base 44 v2) {d0 d1 d2 : DataW H} {p0 p1 p2 : List MemPlace}
    (h0 : DataW.Trod enc Tryz.prog W 0 (fun _ => true) true 25 v0 d0 p0) (h1 : DataW.Trod enc Tryz.prog W 0 (fun _ => true) true 26 v1 d1 p1) (h2 : DataW.Trod enc Tryz.prog W 0 (fun _ => true) true 44 v2 d2 p2) :
    Calls Tryz.prog 4 #[v0, v1, v2] W fun e w' => e = .returned (.bool true) ∧ Below W.heap.size W w' := by
  obtain ⟨l, cs, gs, x0, x1, ⟨nh, ah⟩, who, key, attr, kind, rfl, rfl, hA, hC, hG, hE⟩ := sight.reads W base v0 v1 v2 o0 o1 o2 h0 h1 h2
  exact sees_any awake31 l cs x0 x1 v1 gs nh ah who key attr kind W hA hC hG hE
end Go.Proofs.YtljeeehimcdmbaaGreatDoor.aclSees
