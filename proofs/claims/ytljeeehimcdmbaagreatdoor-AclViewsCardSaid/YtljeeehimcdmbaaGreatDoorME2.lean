/- The tables are the program's. No condition. -/
import Derived.Test.YtljeeehimcdmbaaGreatDoorME0
import Derived.Test.YtljeeehimcdmbaaGreatDoorEv4
set_option maxRecDepth 100000
namespace Go.Proofs.YtljeeehimcdmbaaGreatDoor
open Go Go.E Go.RowKit
theorem e_ty : Γ0.allP (fun p ty => tyChk Tryz.prog Γ0 p.num ty) = true := by kernel_rfl
theorem e_q : qAll Tryz.prog Γ0 = true := by kernel_rfl
theorem e_fn : F0.allP (fun _ fm => fnChk fm) = true := by kernel_rfl
theorem e_m : M0.allP (fun p l => l.all fun x => methChk Tryz.prog p.num x.1 x.2) = true := by kernel_rfl
theorem e_ord : Tryz.prog.follows .mixedOrders = true := by kernel_rfl
theorem e_funs : (List.range N0).map (fun i => (F0.get (toPs i)).map Prod.fst) = Tryz.prog.funcs.toList.map some := by kernel_rfl
theorem e_num : F0.allP (fun p _ => Nat.blt p.num N0) = true := by kernel_rfl
theorem e_x : X0.allP (fun p x => xIn XL p.num x) = true := by kernel_rfl
theorem e_x113 : XFn Tryz.prog 113 .noEscape := ⟨Tryz.f113, _, Tryz.func113, by kernel_rfl, by kernel_rfl, by kernel_rfl, (show Extern.find Tryz.f113 = some (Extern.AbiNoEscape.same) by kernel_rfl), rfl⟩
theorem e_x119 : XFn Tryz.prog 119 .cmpstring := ⟨Tryz.f119, _, Tryz.func119, by kernel_rfl, by kernel_rfl, by kernel_rfl, (show Extern.find Tryz.f119 = some (Extern.BytealgCompare.compare) by kernel_rfl), rfl⟩
theorem e_x136 : XFn Tryz.prog 136 .indexByteString := ⟨Tryz.f136, _, Tryz.func136, by kernel_rfl, by kernel_rfl, by kernel_rfl, (show Extern.find Tryz.f136 = some (Extern.BytealgIndexByte.indexByte) by kernel_rfl), rfl⟩
theorem e_x204 : XFn Tryz.prog 204 .load32 := ⟨Tryz.f204, _, Tryz.func204, by kernel_rfl, by kernel_rfl, by kernel_rfl, (show Extern.find Tryz.f204 = some (Extern.Atomic.loadT (.int .u32)) by kernel_rfl), rfl⟩
theorem e_x238 : XFn Tryz.prog 238 .store32 := ⟨Tryz.f238, _, Tryz.func238, by kernel_rfl, by kernel_rfl, by kernel_rfl, (show Extern.find Tryz.f238 = some (Extern.Atomic.storeT) by kernel_rfl), rfl⟩
theorem e_x266 : XFn Tryz.prog 266 .nothing := ⟨Tryz.f266, _, Tryz.func266, by kernel_rfl, by kernel_rfl, by kernel_rfl, (show Extern.find Tryz.f266 = some (fun _ => do mark .disable; pure Extern.Race.none_) by kernel_rfl), fun _ _ => rfl⟩
theorem e_x267 : XFn Tryz.prog 267 .cas32 := ⟨Tryz.f267, _, Tryz.func267, by kernel_rfl, by kernel_rfl, by kernel_rfl, (show Extern.find Tryz.f267 = some (Extern.Atomic.casT (.int .i32)) by kernel_rfl), rfl⟩
theorem e_x268 : XFn Tryz.prog 268 .nothing := ⟨Tryz.f268, _, Tryz.func268, by kernel_rfl, by kernel_rfl, by kernel_rfl, (show Extern.find Tryz.f268 = some (fun _ => do mark .enable; pure Extern.Race.none_) by kernel_rfl), fun _ _ => rfl⟩
theorem e_x269 : XFn Tryz.prog 269 .race := ⟨Tryz.f269, _, Tryz.func269, by kernel_rfl, by kernel_rfl, by kernel_rfl, (show Extern.find Tryz.f269 = some (Extern.Race.marked .acquire) by kernel_rfl), fun _ _ => rfl⟩
theorem e_x271 : XFn Tryz.prog 271 .race := ⟨Tryz.f271, _, Tryz.func271, by kernel_rfl, by kernel_rfl, by kernel_rfl, (show Extern.find Tryz.f271 = some (Extern.Race.marked .releaseMerge) by kernel_rfl), fun _ _ => rfl⟩
theorem e_x272 : XFn Tryz.prog 272 .add32 := ⟨Tryz.f272, _, Tryz.func272, by kernel_rfl, by kernel_rfl, by kernel_rfl, (show Extern.find Tryz.f272 = some (Extern.Atomic.update (Op.intArith .add) .i32 true) by kernel_rfl), rfl⟩
theorem e_xs : ∀ q ∈ XL, XFn Tryz.prog q.1 q.2 := by
  intro q hq
  simp only [XL, List.mem_cons, List.mem_nil_iff, or_false] at hq
  rcases hq with rfl | rfl | rfl | rfl | rfl | rfl | rfl | rfl | rfl | rfl | rfl
  · exact e_x113
  · exact e_x119
  · exact e_x136
  · exact e_x204
  · exact e_x238
  · exact e_x266
  · exact e_x267
  · exact e_x268
  · exact e_x269
  · exact e_x271
  · exact e_x272
theorem sound (T : Tr (List RV → Hp → Option RV)) (w : World) (v : Nat → Value) (hK : KnownOk Tryz.prog (cxT T w v) w.heap.size) : Sound Tryz.prog (cxT T w v) w.heap.size where
  tok := tok_of e_ty
  q := e_q
  orders := e_ord
  ftab := ftab_of e_fn (funs_of e_funs e_num)
  mtab := mtab_of e_m
  xok := xok_list e_x e_xs
  known := hK
theorem sound0 (w : World) : Sound Tryz.prog (cx0 w) w.heap.size := sound _ w _ fun f xs h v hv => by cases hv
end Go.Proofs.YtljeeehimcdmbaaGreatDoor
