/- The tables are the program's. No condition. -/
import Derived.Test.YtngclgnhgmaedaaGreatDoorME0
import Derived.Test.YtngclgnhgmaedaaGreatDoorEv4
set_option maxRecDepth 100000
namespace Go.Proofs.YtngclgnhgmaedaaGreatDoor
open Go Go.E Go.RowKit
theorem e_ty : Γ0.allP (fun p ty => tyChk Tryz.prog Γ0 p.num ty) = true := by kernel_rfl
theorem e_q : qAll Tryz.prog Γ0 = true := by kernel_rfl
theorem e_fn : F0.allP (fun _ fm => fnChk fm) = true := by kernel_rfl
theorem e_m : M0.allP (fun p l => l.all fun x => methChk Tryz.prog p.num x.1 x.2) = true := by kernel_rfl
theorem e_ord : Tryz.prog.follows .mixedOrders = true := by kernel_rfl
theorem e_funs : (List.range N0).map (fun i => (F0.get (toPs i)).map Prod.fst) = Tryz.prog.funcs.toList.map some := by kernel_rfl
theorem e_num : F0.allP (fun p _ => Nat.blt p.num N0) = true := by kernel_rfl
theorem e_x : X0.allP (fun p x => xIn XL p.num x) = true := by kernel_rfl
theorem e_x358 : XFn Tryz.prog 358 .noEscape := ⟨Tryz.f358, _, Tryz.func358, by kernel_rfl, by kernel_rfl, by kernel_rfl, (show Extern.find Tryz.f358 = some (Extern.AbiNoEscape.same) by kernel_rfl), rfl⟩
theorem e_x416 : XFn Tryz.prog 416 .cmpstring := ⟨Tryz.f416, _, Tryz.func416, by kernel_rfl, by kernel_rfl, by kernel_rfl, (show Extern.find Tryz.f416 = some (Extern.BytealgCompare.compare) by kernel_rfl), rfl⟩
theorem e_x455 : XFn Tryz.prog 455 .indexByteString := ⟨Tryz.f455, _, Tryz.func455, by kernel_rfl, by kernel_rfl, by kernel_rfl, (show Extern.find Tryz.f455 = some (Extern.BytealgIndexByte.indexByte) by kernel_rfl), rfl⟩
theorem e_x538 : XFn Tryz.prog 538 .load32 := ⟨Tryz.f538, _, Tryz.func538, by kernel_rfl, by kernel_rfl, by kernel_rfl, (show Extern.find Tryz.f538 = some (Extern.Atomic.loadT (.int .u32)) by kernel_rfl), rfl⟩
theorem e_x562 : XFn Tryz.prog 562 .store32 := ⟨Tryz.f562, _, Tryz.func562, by kernel_rfl, by kernel_rfl, by kernel_rfl, (show Extern.find Tryz.f562 = some (Extern.Atomic.storeT) by kernel_rfl), rfl⟩
theorem e_x571 : XFn Tryz.prog 571 .nothing := ⟨Tryz.f571, _, Tryz.func571, by kernel_rfl, by kernel_rfl, by kernel_rfl, (show Extern.find Tryz.f571 = some (fun _ => do mark .disable; pure Extern.Race.none_) by kernel_rfl), fun _ _ => rfl⟩
theorem e_x572 : XFn Tryz.prog 572 .cas32 := ⟨Tryz.f572, _, Tryz.func572, by kernel_rfl, by kernel_rfl, by kernel_rfl, (show Extern.find Tryz.f572 = some (Extern.Atomic.casT (.int .i32)) by kernel_rfl), rfl⟩
theorem e_x573 : XFn Tryz.prog 573 .nothing := ⟨Tryz.f573, _, Tryz.func573, by kernel_rfl, by kernel_rfl, by kernel_rfl, (show Extern.find Tryz.f573 = some (fun _ => do mark .enable; pure Extern.Race.none_) by kernel_rfl), fun _ _ => rfl⟩
theorem e_x574 : XFn Tryz.prog 574 .race := ⟨Tryz.f574, _, Tryz.func574, by kernel_rfl, by kernel_rfl, by kernel_rfl, (show Extern.find Tryz.f574 = some (Extern.Race.marked .acquire) by kernel_rfl), fun _ _ => rfl⟩
theorem e_x576 : XFn Tryz.prog 576 .race := ⟨Tryz.f576, _, Tryz.func576, by kernel_rfl, by kernel_rfl, by kernel_rfl, (show Extern.find Tryz.f576 = some (Extern.Race.marked .releaseMerge) by kernel_rfl), fun _ _ => rfl⟩
theorem e_x577 : XFn Tryz.prog 577 .add32 := ⟨Tryz.f577, _, Tryz.func577, by kernel_rfl, by kernel_rfl, by kernel_rfl, (show Extern.find Tryz.f577 = some (Extern.Atomic.update (Op.intArith .add) .i32 true) by kernel_rfl), rfl⟩
theorem e_xs : ∀ q ∈ XL, XFn Tryz.prog q.1 q.2 := by
  intro q hq
  simp only [XL, List.mem_cons, List.mem_nil_iff, or_false] at hq
  rcases hq with rfl | rfl | rfl | rfl | rfl | rfl | rfl | rfl | rfl | rfl | rfl
  · exact e_x358
  · exact e_x416
  · exact e_x455
  · exact e_x538
  · exact e_x562
  · exact e_x571
  · exact e_x572
  · exact e_x573
  · exact e_x574
  · exact e_x576
  · exact e_x577
theorem sound (T : Tr (List RV → Hp → Option RV)) (w : World) (v : Nat → Value) (hK : KnownOk Tryz.prog (cxT T w v) w.heap.size) : Sound Tryz.prog (cxT T w v) w.heap.size where
  tok := tok_of e_ty
  q := e_q
  orders := e_ord
  ftab := ftab_of e_fn (funs_of e_funs e_num)
  mtab := mtab_of e_m
  xok := xok_list e_x e_xs
  known := hK
theorem sound0 (w : World) : Sound Tryz.prog (cx0 w) w.heap.size := sound _ w _ fun f xs h v hv => by cases hv
end Go.Proofs.YtngclgnhgmaedaaGreatDoor
