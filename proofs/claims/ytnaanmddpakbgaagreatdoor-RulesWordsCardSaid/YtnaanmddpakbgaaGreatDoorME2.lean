/- The tables are the program's. No condition. -/
import Derived.Test.YtnaanmddpakbgaaGreatDoorME0
import Derived.Test.YtnaanmddpakbgaaGreatDoorEv4
set_option maxRecDepth 100000
namespace Go.Proofs.YtnaanmddpakbgaaGreatDoor
open Go Go.E Go.RowKit
theorem e_ty : Γ0.allP (fun p ty => tyChk Tryz.prog Γ0 p.num ty) = true := by kernel_rfl
theorem e_q : qAll Tryz.prog Γ0 = true := by kernel_rfl
theorem e_fn : F0.allP (fun _ fm => fnChk fm) = true := by kernel_rfl
theorem e_m : M0.allP (fun p l => l.all fun x => methChk Tryz.prog p.num x.1 x.2) = true := by kernel_rfl
theorem e_ord : Tryz.prog.follows .mixedOrders = true := by kernel_rfl
theorem e_funs : (List.range N0).map (fun i => (F0.get (toPs i)).map Prod.fst) = Tryz.prog.funcs.toList.map some := by kernel_rfl
theorem e_num : F0.allP (fun p _ => Nat.blt p.num N0) = true := by kernel_rfl
theorem e_x : X0.allP (fun p x => xIn XL p.num x) = true := by kernel_rfl
theorem e_x96 : XFn Tryz.prog 96 .noEscape := ⟨Tryz.f96, _, Tryz.func96, by kernel_rfl, by kernel_rfl, by kernel_rfl, (show Extern.find Tryz.f96 = some (Extern.AbiNoEscape.same) by kernel_rfl), rfl⟩
theorem e_x97 : XFn Tryz.prog 97 .cmpstring := ⟨Tryz.f97, _, Tryz.func97, by kernel_rfl, by kernel_rfl, by kernel_rfl, (show Extern.find Tryz.f97 = some (Extern.BytealgCompare.compare) by kernel_rfl), rfl⟩
theorem e_x170 : XFn Tryz.prog 170 .indexByteString := ⟨Tryz.f170, _, Tryz.func170, by kernel_rfl, by kernel_rfl, by kernel_rfl, (show Extern.find Tryz.f170 = some (Extern.BytealgIndexByte.indexByte) by kernel_rfl), rfl⟩
theorem e_x203 : XFn Tryz.prog 203 .load32 := ⟨Tryz.f203, _, Tryz.func203, by kernel_rfl, by kernel_rfl, by kernel_rfl, (show Extern.find Tryz.f203 = some (Extern.Atomic.loadT (.int .u32)) by kernel_rfl), rfl⟩
theorem e_x225 : XFn Tryz.prog 225 .store32 := ⟨Tryz.f225, _, Tryz.func225, by kernel_rfl, by kernel_rfl, by kernel_rfl, (show Extern.find Tryz.f225 = some (Extern.Atomic.storeT) by kernel_rfl), rfl⟩
theorem e_x234 : XFn Tryz.prog 234 .nothing := ⟨Tryz.f234, _, Tryz.func234, by kernel_rfl, by kernel_rfl, by kernel_rfl, (show Extern.find Tryz.f234 = some (fun _ => do mark .disable; pure Extern.Race.none_) by kernel_rfl), fun _ _ => rfl⟩
theorem e_x235 : XFn Tryz.prog 235 .cas32 := ⟨Tryz.f235, _, Tryz.func235, by kernel_rfl, by kernel_rfl, by kernel_rfl, (show Extern.find Tryz.f235 = some (Extern.Atomic.casT (.int .i32)) by kernel_rfl), rfl⟩
theorem e_x236 : XFn Tryz.prog 236 .nothing := ⟨Tryz.f236, _, Tryz.func236, by kernel_rfl, by kernel_rfl, by kernel_rfl, (show Extern.find Tryz.f236 = some (fun _ => do mark .enable; pure Extern.Race.none_) by kernel_rfl), fun _ _ => rfl⟩
theorem e_x237 : XFn Tryz.prog 237 .race := ⟨Tryz.f237, _, Tryz.func237, by kernel_rfl, by kernel_rfl, by kernel_rfl, (show Extern.find Tryz.f237 = some (Extern.Race.marked .acquire) by kernel_rfl), fun _ _ => rfl⟩
theorem e_x239 : XFn Tryz.prog 239 .race := ⟨Tryz.f239, _, Tryz.func239, by kernel_rfl, by kernel_rfl, by kernel_rfl, (show Extern.find Tryz.f239 = some (Extern.Race.marked .releaseMerge) by kernel_rfl), fun _ _ => rfl⟩
theorem e_x240 : XFn Tryz.prog 240 .add32 := ⟨Tryz.f240, _, Tryz.func240, by kernel_rfl, by kernel_rfl, by kernel_rfl, (show Extern.find Tryz.f240 = some (Extern.Atomic.update (Op.intArith .add) .i32 true) by kernel_rfl), rfl⟩
theorem e_xs : ∀ q ∈ XL, XFn Tryz.prog q.1 q.2 := by
  intro q hq
  simp only [XL, List.mem_cons, List.mem_nil_iff, or_false] at hq
  rcases hq with rfl | rfl | rfl | rfl | rfl | rfl | rfl | rfl | rfl | rfl | rfl
  · exact e_x96
  · exact e_x97
  · exact e_x170
  · exact e_x203
  · exact e_x225
  · exact e_x234
  · exact e_x235
  · exact e_x236
  · exact e_x237
  · exact e_x239
  · exact e_x240
theorem sound (T : Tr (List RV → Hp → Option RV)) (w : World) (v : Nat → Value) (hK : KnownOk Tryz.prog (cxT T w v) w.heap.size) : Sound Tryz.prog (cxT T w v) w.heap.size where
  tok := tok_of e_ty
  q := e_q
  orders := e_ord
  ftab := ftab_of e_fn (funs_of e_funs e_num)
  mtab := mtab_of e_m
  xok := xok_list e_x e_xs
  known := hK
theorem sound0 (w : World) : Sound Tryz.prog (cx0 w) w.heap.size := sound _ w _ fun f xs h v hv => by cases hv
end Go.Proofs.YtnaanmddpakbgaaGreatDoor
