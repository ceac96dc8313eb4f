/- The tables are the program's. No condition. -/
import Derived.Test.YtkoacjmccdeggaaGreatDoorME0
import Derived.Test.YtkoacjmccdeggaaGreatDoorEv3
set_option maxRecDepth 100000
namespace Go.Proofs.YtkoacjmccdeggaaGreatDoor
open Go Go.E Go.RowKit
theorem e_ty : Γ0.allP (fun p ty => tyChk Tryz.prog Γ0 p.num ty) = true:=by kernel_rfl
theorem e_q : qAll Tryz.prog Γ0 = true:=by kernel_rfl
theorem e_fn : F0.allP (fun _ fm => fnChk fm) = true:=by kernel_rfl
theorem e_m : M0.allP (fun p l => l.all fun x => methChk Tryz.prog p.num x.1 x.2) = true:=by kernel_rfl
theorem e_ord : Tryz.prog.follows .mixedOrders = true:=by kernel_rfl
theorem e_funs : (List.range N0).map (fun i => (F0.get (toPs i)).map Prod.fst) = Tryz.prog.funcs.toList.map some:=by kernel_rfl
theorem e_num : F0.allP (fun p _ => Nat.blt p.num N0) = true:=by kernel_rfl
theorem e_x : X0.allP (fun p x => xIn XL p.num x) = true:=by kernel_rfl
theorem e_x265 : XFn Tryz.prog 265 .noEscape:=⟨Tryz.f265,_,Tryz.func265,by kernel_rfl,by kernel_rfl,by kernel_rfl,(show Extern.find Tryz.f265 = some (Extern.AbiNoEscape.same) by kernel_rfl),rfl⟩
theorem e_x270 : XFn Tryz.prog 270 .cmpstring:=⟨Tryz.f270,_,Tryz.func270,by kernel_rfl,by kernel_rfl,by kernel_rfl,(show Extern.find Tryz.f270 = some (Extern.BytealgCompare.compare) by kernel_rfl),rfl⟩
theorem e_x341 : XFn Tryz.prog 341 .indexByteString:=⟨Tryz.f341,_,Tryz.func341,by kernel_rfl,by kernel_rfl,by kernel_rfl,(show Extern.find Tryz.f341 = some (Extern.BytealgIndexByte.indexByte) by kernel_rfl),rfl⟩
theorem e_x374 : XFn Tryz.prog 374 .load32:=⟨Tryz.f374,_,Tryz.func374,by kernel_rfl,by kernel_rfl,by kernel_rfl,(show Extern.find Tryz.f374 = some (Extern.Atomic.loadT (.int .u32)) by kernel_rfl),rfl⟩
theorem e_x396 : XFn Tryz.prog 396 .store32:=⟨Tryz.f396,_,Tryz.func396,by kernel_rfl,by kernel_rfl,by kernel_rfl,(show Extern.find Tryz.f396 = some (Extern.Atomic.storeT) by kernel_rfl),rfl⟩
theorem e_x405 : XFn Tryz.prog 405 .nothing:=⟨Tryz.f405,_,Tryz.func405,by kernel_rfl,by kernel_rfl,by kernel_rfl,(show Extern.find Tryz.f405 = some (fun _ => do mark .disable; pure Extern.Race.none_) by kernel_rfl),fun _ _ => rfl⟩
theorem e_x406 : XFn Tryz.prog 406 .cas32:=⟨Tryz.f406,_,Tryz.func406,by kernel_rfl,by kernel_rfl,by kernel_rfl,(show Extern.find Tryz.f406 = some (Extern.Atomic.casT (.int .i32)) by kernel_rfl),rfl⟩
theorem e_x407 : XFn Tryz.prog 407 .nothing:=⟨Tryz.f407,_,Tryz.func407,by kernel_rfl,by kernel_rfl,by kernel_rfl,(show Extern.find Tryz.f407 = some (fun _ => do mark .enable; pure Extern.Race.none_) by kernel_rfl),fun _ _ => rfl⟩
theorem e_x408 : XFn Tryz.prog 408 .race:=⟨Tryz.f408,_,Tryz.func408,by kernel_rfl,by kernel_rfl,by kernel_rfl,(show Extern.find Tryz.f408 = some (Extern.Race.marked .acquire) by kernel_rfl),fun _ _ => rfl⟩
theorem e_x410 : XFn Tryz.prog 410 .race:=⟨Tryz.f410,_,Tryz.func410,by kernel_rfl,by kernel_rfl,by kernel_rfl,(show Extern.find Tryz.f410 = some (Extern.Race.marked .releaseMerge) by kernel_rfl),fun _ _ => rfl⟩
theorem e_x411 : XFn Tryz.prog 411 .add32:=⟨Tryz.f411,_,Tryz.func411,by kernel_rfl,by kernel_rfl,by kernel_rfl,(show Extern.find Tryz.f411 = some (Extern.Atomic.update (Op.intArith .add) .i32 true) by kernel_rfl),rfl⟩
theorem e_xs : ∀ q∈XL,XFn Tryz.prog q.1 q.2:=by
 intro q hq
 simp only [XL,List.mem_cons,List.mem_nil_iff,or_false] at hq
 rcases hq with rfl | rfl | rfl | rfl | rfl | rfl | rfl | rfl | rfl | rfl | rfl
 · exact e_x265
 · exact e_x270
 · exact e_x341
 · exact e_x374
 · exact e_x396
 · exact e_x405
 · exact e_x406
 · exact e_x407
 · exact e_x408
 · exact e_x410
 · exact e_x411
theorem sound (T : Tr (List RV→Hp→Option RV)) (w : World) (v : Nat→Value) (hK : KnownOk Tryz.prog (cxT T w v) w.heap.size) : Sound Tryz.prog (cxT T w v) w.heap.size where
 tok:=tok_of e_ty
 q:=e_q
 orders:=e_ord
 ftab:=ftab_of e_fn (funs_of e_funs e_num)
 mtab:=mtab_of e_m
 xok:=xok_list e_x e_xs
 known:=hK
theorem sound0 (w : World) : Sound Tryz.prog (cx0 w) w.heap.size:=sound _ w _ fun f xs h v hv => by cases hv
end Go.Proofs.YtkoacjmccdeggaaGreatDoor
