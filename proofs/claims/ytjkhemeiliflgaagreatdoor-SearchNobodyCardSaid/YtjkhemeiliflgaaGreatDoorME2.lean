/- The tables are the program's. No condition. -/
import Derived.Test.YtjkhemeiliflgaaGreatDoorME0
import Derived.Test.YtjkhemeiliflgaaGreatDoorEv4
set_option maxRecDepth 100000
namespace Go.Proofs.YtjkhemeiliflgaaGreatDoor
open Go Go.E Go.RowKit
theorem e_ty : Γ0.allP (fun p ty => tyChk Tryz.prog Γ0 p.num ty) = true := by kernel_rfl
theorem e_q : qAll Tryz.prog Γ0 = true := by kernel_rfl
theorem e_fn : F0.allP (fun _ fm => fnChk fm) = true := by kernel_rfl
theorem e_m : M0.allP (fun p l => l.all fun x => methChk Tryz.prog p.num x.1 x.2) = true := by kernel_rfl
theorem e_ord : Tryz.prog.follows .mixedOrders = true := by kernel_rfl
theorem e_funs : (List.range N0).map (fun i => (F0.get (toPs i)).map Prod.fst) = Tryz.prog.funcs.toList.map some := by kernel_rfl
theorem e_num : F0.allP (fun p _ => Nat.blt p.num N0) = true := by kernel_rfl
theorem e_x : X0.allP (fun p x => xIn XL p.num x) = true := by kernel_rfl
theorem e_x277 : XFn Tryz.prog 277 .noEscape := ⟨Tryz.f277, _, Tryz.func277, by kernel_rfl, by kernel_rfl, by kernel_rfl, (show Extern.find Tryz.f277 = some (Extern.AbiNoEscape.same) by kernel_rfl), rfl⟩
theorem e_x328 : XFn Tryz.prog 328 .cmpstring := ⟨Tryz.f328, _, Tryz.func328, by kernel_rfl, by kernel_rfl, by kernel_rfl, (show Extern.find Tryz.f328 = some (Extern.BytealgCompare.compare) by kernel_rfl), rfl⟩
theorem e_x377 : XFn Tryz.prog 377 .indexByteString := ⟨Tryz.f377, _, Tryz.func377, by kernel_rfl, by kernel_rfl, by kernel_rfl, (show Extern.find Tryz.f377 = some (Extern.BytealgIndexByte.indexByte) by kernel_rfl), rfl⟩
theorem e_x452 : XFn Tryz.prog 452 .load32 := ⟨Tryz.f452, _, Tryz.func452, by kernel_rfl, by kernel_rfl, by kernel_rfl, (show Extern.find Tryz.f452 = some (Extern.Atomic.loadT (.int .u32)) by kernel_rfl), rfl⟩
theorem e_x479 : XFn Tryz.prog 479 .store32 := ⟨Tryz.f479, _, Tryz.func479, by kernel_rfl, by kernel_rfl, by kernel_rfl, (show Extern.find Tryz.f479 = some (Extern.Atomic.storeT) by kernel_rfl), rfl⟩
theorem e_x489 : XFn Tryz.prog 489 .nothing := ⟨Tryz.f489, _, Tryz.func489, by kernel_rfl, by kernel_rfl, by kernel_rfl, (show Extern.find Tryz.f489 = some (fun _ => do mark .disable; pure Extern.Race.none_) by kernel_rfl), fun _ _ => rfl⟩
theorem e_x490 : XFn Tryz.prog 490 .cas32 := ⟨Tryz.f490, _, Tryz.func490, by kernel_rfl, by kernel_rfl, by kernel_rfl, (show Extern.find Tryz.f490 = some (Extern.Atomic.casT (.int .i32)) by kernel_rfl), rfl⟩
theorem e_x491 : XFn Tryz.prog 491 .nothing := ⟨Tryz.f491, _, Tryz.func491, by kernel_rfl, by kernel_rfl, by kernel_rfl, (show Extern.find Tryz.f491 = some (fun _ => do mark .enable; pure Extern.Race.none_) by kernel_rfl), fun _ _ => rfl⟩
theorem e_x492 : XFn Tryz.prog 492 .race := ⟨Tryz.f492, _, Tryz.func492, by kernel_rfl, by kernel_rfl, by kernel_rfl, (show Extern.find Tryz.f492 = some (Extern.Race.marked .acquire) by kernel_rfl), fun _ _ => rfl⟩
theorem e_x494 : XFn Tryz.prog 494 .race := ⟨Tryz.f494, _, Tryz.func494, by kernel_rfl, by kernel_rfl, by kernel_rfl, (show Extern.find Tryz.f494 = some (Extern.Race.marked .releaseMerge) by kernel_rfl), fun _ _ => rfl⟩
theorem e_x495 : XFn Tryz.prog 495 .add32 := ⟨Tryz.f495, _, Tryz.func495, by kernel_rfl, by kernel_rfl, by kernel_rfl, (show Extern.find Tryz.f495 = some (Extern.Atomic.update (Op.intArith .add) .i32 true) by kernel_rfl), rfl⟩
theorem e_xs : ∀ q ∈ XL, XFn Tryz.prog q.1 q.2 := by
  intro q hq
  simp only [XL, List.mem_cons, List.mem_nil_iff, or_false] at hq
  rcases hq with rfl | rfl | rfl | rfl | rfl | rfl | rfl | rfl | rfl | rfl | rfl
  · exact e_x277
  · exact e_x328
  · exact e_x377
  · exact e_x452
  · exact e_x479
  · exact e_x489
  · exact e_x490
  · exact e_x491
  · exact e_x492
  · exact e_x494
  · exact e_x495
theorem sound (T : Tr (List RV → Hp → Option RV)) (w : World) (v : Nat → Value) (hK : KnownOk Tryz.prog (cxT T w v) w.heap.size) : Sound Tryz.prog (cxT T w v) w.heap.size where
  tok := tok_of e_ty
  q := e_q
  orders := e_ord
  ftab := ftab_of e_fn (funs_of e_funs e_num)
  mtab := mtab_of e_m
  xok := xok_list e_x e_xs
  known := hK
theorem sound0 (w : World) : Sound Tryz.prog (cx0 w) w.heap.size := sound _ w _ fun f xs h v hv => by cases hv
end Go.Proofs.YtjkhemeiliflgaaGreatDoor
