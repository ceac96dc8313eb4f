/- The walk of toponymlaw31.AclAllows, from what reads as data. No condition. -/
import Derived.Test.YtljeeehimcdmbaaGreatDoorMGreatDoorRd
import Derived.Test.YtljeeehimcdmbaaGreatDoorMGreatDoorBl1
import Derived.Test.YtljeeehimcdmbaaGreatDoorME5
import Derived.Test.YtljeeehimcdmbaaGreatDoorRows
set_option maxRecDepth 100000
namespace Go.Proofs.YtljeeehimcdmbaaGreatDoor.aclAllows
open Go.RowKit Go.Wd Go.Dir Go.Rd Go.WideShapes
theorem of64 : Of Tryz.prog Attr.cells 6 64 := of_map (fun a : ByteArray × ByteArray × Int × Int × Bool × Bool => ⟨⟨a.1, a.2.1, a.2.2.1, a.2.2.2.1, a.2.2.2.2.1, a.2.2.2.2.2⟩, rfl⟩)
  (of_struct Tryz.underlying64 (by kernel_rfl) (ofF_cons (of_string Tryz.underlying9) rfl (by kernel_rfl) (ofF_cons (of_string Tryz.underlying9) rfl (by kernel_rfl) (ofF_cons (of_int Tryz.underlying3) rfl (by kernel_rfl) (ofF_cons (of_int Tryz.underlying3) rfl (by kernel_rfl) (ofF_cons (of_bool Tryz.underlying4) rfl (by kernel_rfl) (ofF_one (of_bool Tryz.underlying4) rfl (by kernel_rfl))))))))
theorem of62 : Of Tryz.prog Cls.cells 5 62 := of_map (fun a : ByteArray × ByteArray × Bool × (Option Addr × Nat × Nat) × (Option Addr × Nat × Nat) => ⟨⟨a.1, a.2.1, a.2.2.1, a.2.2.2.1.1, a.2.2.2.1.2.1, a.2.2.2.1.2.2, a.2.2.2.2.1, a.2.2.2.2.2.1, a.2.2.2.2.2.2⟩, rfl⟩)
  (of_struct Tryz.underlying62 (by kernel_rfl) (ofF_cons (of_string Tryz.underlying9) rfl (by kernel_rfl) (ofF_cons (of_string Tryz.underlying9) rfl (by kernel_rfl) (ofF_cons (of_bool Tryz.underlying4) rfl (by kernel_rfl) (ofF_cons (of_head Tryz.underlying57) rfl (by kernel_rfl) (ofF_one (of_head Tryz.underlying57) rfl (by kernel_rfl)))))))
theorem of52 : Of Tryz.prog Grant.cells 7 52 := of_map (fun a : ByteArray × ByteArray × ByteArray × Bool × Bool × Int × Bool => ⟨⟨a.1, a.2.1, a.2.2.1, a.2.2.2.1, a.2.2.2.2.1, a.2.2.2.2.2.1, a.2.2.2.2.2.2⟩, rfl⟩)
  (of_struct Tryz.underlying52 (by kernel_rfl) (ofF_cons (of_string Tryz.underlying9) rfl (by kernel_rfl) (ofF_cons (of_string Tryz.underlying9) rfl (by kernel_rfl) (ofF_cons (of_string Tryz.underlying9) rfl (by kernel_rfl) (ofF_cons (of_bool Tryz.underlying4) rfl (by kernel_rfl) (ofF_cons (of_bool Tryz.underlying4) rfl (by kernel_rfl) (ofF_cons (of_int Tryz.underlying3) rfl (by kernel_rfl) (ofF_one (of_bool Tryz.underlying4) rfl (by kernel_rfl)))))))))
def askCells (a : ByteArray × ByteArray × ByteArray × Int) : List Value := [.string a.1, .string a.2.1, .string a.2.2.1, .int .i64 a.2.2.2]
theorem of28 : Of Tryz.prog askCells 4 28 := of_map (fun a : ByteArray × ByteArray × ByteArray × Int => ⟨a, rfl⟩)
  (of_struct Tryz.underlying28 (by kernel_rfl) (ofF_cons (of_string Tryz.underlying9) rfl (by kernel_rfl) (ofF_cons (of_string Tryz.underlying9) rfl (by kernel_rfl) (ofF_cons (of_string Tryz.underlying9) rfl (by kernel_rfl) (ofF_one (of_int Tryz.underlying3) rfl (by kernel_rfl))))))
theorem walk {H : Type} {enc : TypeId × Value → H} (W : World) (base : Nat) (v0 v1 v2 : Value) (o0 : Value.okWide Tryz.prog W .any base 25 v0) (o1 : Value.okWide Tryz.prog W .any base 26 v1) (o2 : Value.okWide Tryz.prog W .any base 28 v2) {d0 d1 d2 : DataW H} {p0 p1 p2 : List MemPlace}
    (h0 : DataW.Trod enc Tryz.prog W 0 (fun _ => true) true 25 v0 d0 p0) (h1 : DataW.Trod enc Tryz.prog W 0 (fun _ => true) true 26 v1 d1 p1) (h2 : DataW.Trod enc Tryz.prog W 0 (fun _ => true) true 28 v2 d2 p2) :
    Calls Tryz.prog 3 #[v0, v1, v2] W fun e w' => e = .returned (.bool true) ∧ Below W.heap.size W w' := by
  obtain ⟨c0, rfl, s0⟩ := okWide_struct Tryz.underlying25 o0
  obtain ⟨q1, n1, k1, rfl⟩ := okWide_slice Tryz.underlying26 o1
  obtain ⟨c2, rfl, s2⟩ := okWide_struct Tryz.underlying28 o2
  obtain ⟨m0, h0⟩ := h0
  obtain ⟨m1, h1⟩ := h1
  obtain ⟨m2, h2⟩ := h2
  obtain ⟨gs, hg⟩ := sl_of Tryz.underlying26 of52 (by kernel_rfl) (by decide) h1
  obtain ⟨a, ha, _⟩ := of28 _ _ _ _ _ _ _ _ _ h2
  obtain ⟨who, key, attr, kind⟩ := a
  obtain ⟨xs, m, _, _, hl, hlen, hf⟩ := DataW.trod_struct Tryz.underlying25 h0
  have a0 := hf 0 _ rfl
  have a1 := hf 1 _ rfl
  rw [List.getElem?_eq_getElem (by rw [hlen]; decide)] at a0 a1
  have e0 : (Value.agg c0).cells.toList.length = 2 := by rw [hl]; kernel_rfl
  obtain ⟨l0⟩ := c0
  match l0, e0 with
  | [x0, x1], _ =>
  have k22 : Tryz.prog.cellsOf 22 = 1 := by kernel_rfl
  have k23 : Tryz.prog.cellsOf 23 = 1 := by kernel_rfl
  have a0 : DataW.trod enc Tryz.prog W 0 (fun _ => true) true m 22 (List.take (Tryz.prog.cellsOf 22) (List.drop 0 [x0, x1])) = some _ := a0
  have a1 : DataW.trod enc Tryz.prog W 0 (fun _ => true) true m 23 (List.take (Tryz.prog.cellsOf 23) (List.drop 1 [x0, x1])) = some _ := a1
  rw [k22] at a0
  rw [k23] at a1
  obtain ⟨l, hA⟩ := sl_of Tryz.underlying22 of64 (by kernel_rfl) (by decide) (show DataW.trod enc Tryz.prog W 0 (fun _ => true) true m 22 [x0] = some _ from a0)
  obtain ⟨cs, hC⟩ := sl_of Tryz.underlying23 of62 (by kernel_rfl) (by decide) (show DataW.trod enc Tryz.prog W 0 (fun _ => true) true m 23 [x1] = some _ from a1)
  obtain ⟨l2⟩ := c2
  obtain rfl : l2 = _ := ha
  exact allows_any awake31 l cs x0 x1 (.slice q1 n1 k1) gs who key attr kind W hA hC hg
end Go.Proofs.YtljeeehimcdmbaaGreatDoor.aclAllows
