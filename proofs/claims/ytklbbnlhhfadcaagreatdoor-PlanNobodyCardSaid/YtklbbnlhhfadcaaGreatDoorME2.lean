/- The tables are the program's. No condition. -/
import Derived.Test.YtklbbnlhhfadcaaGreatDoorME0
import Derived.Test.YtklbbnlhhfadcaaGreatDoorEv4
set_option maxRecDepth 100000
namespace Go.Proofs.YtklbbnlhhfadcaaGreatDoor
open Go Go.E Go.RowKit
theorem e_ty : Γ0.allP (fun p ty => tyChk Tryz.prog Γ0 p.num ty) = true := by kernel_rfl
theorem e_q : qAll Tryz.prog Γ0 = true := by kernel_rfl
theorem e_fn : F0.allP (fun _ fm => fnChk fm) = true := by kernel_rfl
theorem e_m : M0.allP (fun p l => l.all fun x => methChk Tryz.prog p.num x.1 x.2) = true := by kernel_rfl
theorem e_ord : Tryz.prog.follows .mixedOrders = true := by kernel_rfl
theorem e_funs : (List.range N0).map (fun i => (F0.get (toPs i)).map Prod.fst) = Tryz.prog.funcs.toList.map some := by kernel_rfl
theorem e_num : F0.allP (fun p _ => Nat.blt p.num N0) = true := by kernel_rfl
theorem e_x : X0.allP (fun p x => xIn XL p.num x) = true := by kernel_rfl
theorem e_x208 : XFn Tryz.prog 208 .noEscape := ⟨Tryz.f208, _, Tryz.func208, by kernel_rfl, by kernel_rfl, by kernel_rfl, (show Extern.find Tryz.f208 = some (Extern.AbiNoEscape.same) by kernel_rfl), rfl⟩
theorem e_x277 : XFn Tryz.prog 277 .cmpstring := ⟨Tryz.f277, _, Tryz.func277, by kernel_rfl, by kernel_rfl, by kernel_rfl, (show Extern.find Tryz.f277 = some (Extern.BytealgCompare.compare) by kernel_rfl), rfl⟩
theorem e_x379 : XFn Tryz.prog 379 .indexByteString := ⟨Tryz.f379, _, Tryz.func379, by kernel_rfl, by kernel_rfl, by kernel_rfl, (show Extern.find Tryz.f379 = some (Extern.BytealgIndexByte.indexByte) by kernel_rfl), rfl⟩
theorem e_x387 : XFn Tryz.prog 387 .load32 := ⟨Tryz.f387, _, Tryz.func387, by kernel_rfl, by kernel_rfl, by kernel_rfl, (show Extern.find Tryz.f387 = some (Extern.Atomic.loadT (.int .u32)) by kernel_rfl), rfl⟩
theorem e_x421 : XFn Tryz.prog 421 .store32 := ⟨Tryz.f421, _, Tryz.func421, by kernel_rfl, by kernel_rfl, by kernel_rfl, (show Extern.find Tryz.f421 = some (Extern.Atomic.storeT) by kernel_rfl), rfl⟩
theorem e_x439 : XFn Tryz.prog 439 .nothing := ⟨Tryz.f439, _, Tryz.func439, by kernel_rfl, by kernel_rfl, by kernel_rfl, (show Extern.find Tryz.f439 = some (fun _ => do mark .disable; pure Extern.Race.none_) by kernel_rfl), fun _ _ => rfl⟩
theorem e_x440 : XFn Tryz.prog 440 .cas32 := ⟨Tryz.f440, _, Tryz.func440, by kernel_rfl, by kernel_rfl, by kernel_rfl, (show Extern.find Tryz.f440 = some (Extern.Atomic.casT (.int .i32)) by kernel_rfl), rfl⟩
theorem e_x441 : XFn Tryz.prog 441 .nothing := ⟨Tryz.f441, _, Tryz.func441, by kernel_rfl, by kernel_rfl, by kernel_rfl, (show Extern.find Tryz.f441 = some (fun _ => do mark .enable; pure Extern.Race.none_) by kernel_rfl), fun _ _ => rfl⟩
theorem e_x442 : XFn Tryz.prog 442 .race := ⟨Tryz.f442, _, Tryz.func442, by kernel_rfl, by kernel_rfl, by kernel_rfl, (show Extern.find Tryz.f442 = some (Extern.Race.marked .acquire) by kernel_rfl), fun _ _ => rfl⟩
theorem e_x444 : XFn Tryz.prog 444 .race := ⟨Tryz.f444, _, Tryz.func444, by kernel_rfl, by kernel_rfl, by kernel_rfl, (show Extern.find Tryz.f444 = some (Extern.Race.marked .releaseMerge) by kernel_rfl), fun _ _ => rfl⟩
theorem e_x445 : XFn Tryz.prog 445 .add32 := ⟨Tryz.f445, _, Tryz.func445, by kernel_rfl, by kernel_rfl, by kernel_rfl, (show Extern.find Tryz.f445 = some (Extern.Atomic.update (Op.intArith .add) .i32 true) by kernel_rfl), rfl⟩
theorem e_xs : ∀ q ∈ XL, XFn Tryz.prog q.1 q.2 := by
  intro q hq
  simp only [XL, List.mem_cons, List.mem_nil_iff, or_false] at hq
  rcases hq with rfl | rfl | rfl | rfl | rfl | rfl | rfl | rfl | rfl | rfl | rfl
  · exact e_x208
  · exact e_x277
  · exact e_x379
  · exact e_x387
  · exact e_x421
  · exact e_x439
  · exact e_x440
  · exact e_x441
  · exact e_x442
  · exact e_x444
  · exact e_x445
theorem sound (T : Tr (List RV → Hp → Option RV)) (w : World) (v : Nat → Value) (hK : KnownOk Tryz.prog (cxT T w v) w.heap.size) : Sound Tryz.prog (cxT T w v) w.heap.size where
  tok := tok_of e_ty
  q := e_q
  orders := e_ord
  ftab := ftab_of e_fn (funs_of e_funs e_num)
  mtab := mtab_of e_m
  xok := xok_list e_x e_xs
  known := hK
theorem sound0 (w : World) : Sound Tryz.prog (cx0 w) w.heap.size := sound _ w _ fun f xs h v hv => by cases hv
end Go.Proofs.YtklbbnlhhfadcaaGreatDoor
