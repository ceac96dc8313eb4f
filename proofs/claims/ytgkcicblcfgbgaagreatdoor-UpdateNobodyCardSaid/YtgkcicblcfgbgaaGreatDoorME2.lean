/- The tables are the program's. No condition. -/
import Derived.Test.YtgkcicblcfgbgaaGreatDoorME0
import Derived.Test.YtgkcicblcfgbgaaGreatDoorEv4
set_option maxRecDepth 100000
namespace Go.Proofs.YtgkcicblcfgbgaaGreatDoor
open Go Go.E Go.RowKit
theorem e_ty : Γ0.allP (fun p ty => tyChk Tryz.prog Γ0 p.num ty) = true := by kernel_rfl
theorem e_q : qAll Tryz.prog Γ0 = true := by kernel_rfl
theorem e_fn : F0.allP (fun _ fm => fnChk fm) = true := by kernel_rfl
theorem e_m : M0.allP (fun p l => l.all fun x => methChk Tryz.prog p.num x.1 x.2) = true := by kernel_rfl
theorem e_ord : Tryz.prog.follows .mixedOrders = true := by kernel_rfl
theorem e_funs : (List.range N0).map (fun i => (F0.get (toPs i)).map Prod.fst) = Tryz.prog.funcs.toList.map some := by kernel_rfl
theorem e_num : F0.allP (fun p _ => Nat.blt p.num N0) = true := by kernel_rfl
theorem e_x : X0.allP (fun p x => xIn XL p.num x) = true := by kernel_rfl
theorem e_x231 : XFn Tryz.prog 231 .noEscape := ⟨Tryz.f231, _, Tryz.func231, by kernel_rfl, by kernel_rfl, by kernel_rfl, (show Extern.find Tryz.f231 = some (Extern.AbiNoEscape.same) by kernel_rfl), rfl⟩
theorem e_x259 : XFn Tryz.prog 259 .indexByteString := ⟨Tryz.f259, _, Tryz.func259, by kernel_rfl, by kernel_rfl, by kernel_rfl, (show Extern.find Tryz.f259 = some (Extern.BytealgIndexByte.indexByte) by kernel_rfl), rfl⟩
theorem e_x268 : XFn Tryz.prog 268 .cmpstring := ⟨Tryz.f268, _, Tryz.func268, by kernel_rfl, by kernel_rfl, by kernel_rfl, (show Extern.find Tryz.f268 = some (Extern.BytealgCompare.compare) by kernel_rfl), rfl⟩
theorem e_x359 : XFn Tryz.prog 359 .load32 := ⟨Tryz.f359, _, Tryz.func359, by kernel_rfl, by kernel_rfl, by kernel_rfl, (show Extern.find Tryz.f359 = some (Extern.Atomic.loadT (.int .u32)) by kernel_rfl), rfl⟩
theorem e_x392 : XFn Tryz.prog 392 .store32 := ⟨Tryz.f392, _, Tryz.func392, by kernel_rfl, by kernel_rfl, by kernel_rfl, (show Extern.find Tryz.f392 = some (Extern.Atomic.storeT) by kernel_rfl), rfl⟩
theorem e_x420 : XFn Tryz.prog 420 .nothing := ⟨Tryz.f420, _, Tryz.func420, by kernel_rfl, by kernel_rfl, by kernel_rfl, (show Extern.find Tryz.f420 = some (fun _ => do mark .disable; pure Extern.Race.none_) by kernel_rfl), fun _ _ => rfl⟩
theorem e_x421 : XFn Tryz.prog 421 .cas32 := ⟨Tryz.f421, _, Tryz.func421, by kernel_rfl, by kernel_rfl, by kernel_rfl, (show Extern.find Tryz.f421 = some (Extern.Atomic.casT (.int .i32)) by kernel_rfl), rfl⟩
theorem e_x422 : XFn Tryz.prog 422 .nothing := ⟨Tryz.f422, _, Tryz.func422, by kernel_rfl, by kernel_rfl, by kernel_rfl, (show Extern.find Tryz.f422 = some (fun _ => do mark .enable; pure Extern.Race.none_) by kernel_rfl), fun _ _ => rfl⟩
theorem e_x423 : XFn Tryz.prog 423 .race := ⟨Tryz.f423, _, Tryz.func423, by kernel_rfl, by kernel_rfl, by kernel_rfl, (show Extern.find Tryz.f423 = some (Extern.Race.marked .acquire) by kernel_rfl), fun _ _ => rfl⟩
theorem e_x425 : XFn Tryz.prog 425 .race := ⟨Tryz.f425, _, Tryz.func425, by kernel_rfl, by kernel_rfl, by kernel_rfl, (show Extern.find Tryz.f425 = some (Extern.Race.marked .releaseMerge) by kernel_rfl), fun _ _ => rfl⟩
theorem e_x426 : XFn Tryz.prog 426 .add32 := ⟨Tryz.f426, _, Tryz.func426, by kernel_rfl, by kernel_rfl, by kernel_rfl, (show Extern.find Tryz.f426 = some (Extern.Atomic.update (Op.intArith .add) .i32 true) by kernel_rfl), rfl⟩
theorem e_xs : ∀ q ∈ XL, XFn Tryz.prog q.1 q.2 := by
  intro q hq
  simp only [XL, List.mem_cons, List.mem_nil_iff, or_false] at hq
  rcases hq with rfl | rfl | rfl | rfl | rfl | rfl | rfl | rfl | rfl | rfl | rfl
  · exact e_x231
  · exact e_x259
  · exact e_x268
  · exact e_x359
  · exact e_x392
  · exact e_x420
  · exact e_x421
  · exact e_x422
  · exact e_x423
  · exact e_x425
  · exact e_x426
theorem sound (T : Tr (List RV → Hp → Option RV)) (w : World) (v : Nat → Value) (hK : KnownOk Tryz.prog (cxT T w v) w.heap.size) : Sound Tryz.prog (cxT T w v) w.heap.size where
  tok := tok_of e_ty
  q := e_q
  orders := e_ord
  ftab := ftab_of e_fn (funs_of e_funs e_num)
  mtab := mtab_of e_m
  xok := xok_list e_x e_xs
  known := hK
theorem sound0 (w : World) : Sound Tryz.prog (cx0 w) w.heap.size := sound _ w _ fun f xs h v hv => by cases hv
end Go.Proofs.YtgkcicblcfgbgaaGreatDoor
