/- AclViews: a part of its proof. No condition. -/
import Derived.Test.YtljeeehimcdmbaaGreatDoorTie
import Derived.Test.YtljeeehimcdmbaaGreatDoorCards
import Derived.ProofKit
import Derived.JoinedOf
import Derived.SevenTiedAt
namespace Go.Proofs.YtljeeehimcdmbaaGreatDoor.aclViews
set_option maxRecDepth 100000
def clos : List FuncId := [6, 7, 19, 8, 9, 14, 27, 10, 20, 32, 43, 57, 63, 84, 75, 99, 65, 77, 85, 79, 100, 119, 58, 76, 44, 46, 47, 60, 78, 61, 81, 80, 101, 62, 82, 83, 64, 45, 59, 33, 34, 48, 49, 66, 67, 86, 68, 28, 87, 102, 120, 121, 137, 165, 88, 89, 90, 103, 104, 105, 122, 123, 138, 145, 183, 124, 139, 166, 211, 243, 244, 245, 246, 247, 248, 249, 210, 242, 167, 212, 213, 250, 140, 168, 214, 251, 215, 169, 170, 216, 217, 252, 253, 254, 275, 281, 282, 283, 255, 256, 276, 277, 278, 279, 172, 219, 171, 218, 257, 280, 296, 258, 141, 173, 174, 142, 175, 176, 220, 143, 177, 178, 144, 182, 179, 181, 180, 125, 106, 126, 146, 184, 221, 222, 147, 185, 223, 186, 187, 202, 235, 148, 189, 190, 226, 225, 227, 191, 192, 228, 229, 259, 260, 224, 188, 127, 107, 128, 149, 193, 194, 36, 52, 112, 93, 113, 134, 164, 69, 150, 70, 108, 129, 151, 71, 94, 97, 116, 136, 95, 114, 115, 135, 152, 153, 195, 230, 261, 284, 285, 297, 262, 286, 263, 287, 298, 299, 300, 301, 196, 231, 197, 232, 264, 288, 265, 92, 130, 154, 198, 233, 155, 199, 200, 234, 156, 201, 157, 158, 159, 160, 203, 109, 131, 91, 110, 111, 133, 163, 208, 240, 274, 209, 241, 132, 161, 204, 162, 205, 236, 266, 267, 268, 269, 270, 289, 290, 291, 292, 293, 272, 206, 237, 271, 273, 294, 295, 207, 239, 238, 50, 15, 11, 21, 22, 23, 35, 51, 72, 96, 24, 38, 54, 37, 53, 25, 39, 29, 17, 30, 31, 42]
theorem cl : Tryz.prog.closure 6 = clos := by kernel_rfl
theorem kunf : Tryz.prog.unfollowed 6 = true := by unfold Program.unfollowed; rw [cl]; kernel_rfl
theorem krec : Tryz.prog.recurses 6 = true := by unfold Program.recurses; rw [kunf]; rfl
theorem kgo1 : (clos.any fun g => (Tryz.prog.funcs[g]?).any Func.goes) = false := by kernel_rfl
noncomputable def fs0 : List Func := [Tryz.f0, Tryz.f1, Tryz.f2, Tryz.f3, Tryz.f4, Tryz.f5, Tryz.f6, Tryz.f7, Tryz.f8, Tryz.f9, Tryz.f10, Tryz.f11, Tryz.f12, Tryz.f13, Tryz.f14, Tryz.f15, Tryz.f16, Tryz.f17, Tryz.f18, Tryz.f19, Tryz.f20, Tryz.f21, Tryz.f22, Tryz.f23, Tryz.f24, Tryz.f25, Tryz.f26, Tryz.f27, Tryz.f28, Tryz.f29, Tryz.f30, Tryz.f31, Tryz.f32, Tryz.f33, Tryz.f34, Tryz.f35, Tryz.f36, Tryz.f37, Tryz.f38, Tryz.f39, Tryz.f40, Tryz.f41, Tryz.f42, Tryz.f43, Tryz.f44, Tryz.f45, Tryz.f46, Tryz.f47, Tryz.f48, Tryz.f49, Tryz.f50, Tryz.f51, Tryz.f52, Tryz.f53, Tryz.f54, Tryz.f55, Tryz.f56, Tryz.f57, Tryz.f58, Tryz.f59]
theorem kgs0 : fs0.any Func.goes = false := by kernel_rfl
noncomputable def fs1 : List Func := [Tryz.f60, Tryz.f61, Tryz.f62, Tryz.f63, Tryz.f64, Tryz.f65, Tryz.f66, Tryz.f67, Tryz.f68, Tryz.f69, Tryz.f70, Tryz.f71, Tryz.f72, Tryz.f73, Tryz.f74, Tryz.f75, Tryz.f76, Tryz.f77, Tryz.f78, Tryz.f79, Tryz.f80, Tryz.f81, Tryz.f82, Tryz.f83, Tryz.f84, Tryz.f85, Tryz.f86, Tryz.f87, Tryz.f88, Tryz.f89, Tryz.f90, Tryz.f91, Tryz.f92, Tryz.f93, Tryz.f94, Tryz.f95, Tryz.f96, Tryz.f97, Tryz.f98, Tryz.f99, Tryz.f100, Tryz.f101, Tryz.f102, Tryz.f103, Tryz.f104, Tryz.f105, Tryz.f106, Tryz.f107, Tryz.f108, Tryz.f109, Tryz.f110, Tryz.f111, Tryz.f112, Tryz.f113, Tryz.f114, Tryz.f115, Tryz.f116, Tryz.f117, Tryz.f118, Tryz.f119]
theorem kgs1 : fs1.any Func.goes = false := by kernel_rfl
noncomputable def fs2 : List Func := [Tryz.f120, Tryz.f121, Tryz.f122, Tryz.f123, Tryz.f124, Tryz.f125, Tryz.f126, Tryz.f127, Tryz.f128, Tryz.f129, Tryz.f130, Tryz.f131, Tryz.f132, Tryz.f133, Tryz.f134, Tryz.f135, Tryz.f136, Tryz.f137, Tryz.f138, Tryz.f139, Tryz.f140, Tryz.f141, Tryz.f142, Tryz.f143, Tryz.f144, Tryz.f145, Tryz.f146, Tryz.f147, Tryz.f148, Tryz.f149, Tryz.f150, Tryz.f151, Tryz.f152, Tryz.f153, Tryz.f154, Tryz.f155, Tryz.f156, Tryz.f157, Tryz.f158, Tryz.f159, Tryz.f160, Tryz.f161, Tryz.f162, Tryz.f163, Tryz.f164, Tryz.f165, Tryz.f166, Tryz.f167, Tryz.f168, Tryz.f169, Tryz.f170, Tryz.f171, Tryz.f172, Tryz.f173, Tryz.f174, Tryz.f175, Tryz.f176, Tryz.f177, Tryz.f178, Tryz.f179]
theorem kgs2 : fs2.any Func.goes = false := by kernel_rfl
noncomputable def fs3 : List Func := [Tryz.f180, Tryz.f181, Tryz.f182, Tryz.f183, Tryz.f184, Tryz.f185, Tryz.f186, Tryz.f187, Tryz.f188, Tryz.f189, Tryz.f190, Tryz.f191, Tryz.f192, Tryz.f193, Tryz.f194, Tryz.f195, Tryz.f196, Tryz.f197, Tryz.f198, Tryz.f199, Tryz.f200, Tryz.f201, Tryz.f202, Tryz.f203, Tryz.f204, Tryz.f205, Tryz.f206, Tryz.f207, Tryz.f208, Tryz.f209, Tryz.f210, Tryz.f211, Tryz.f212, Tryz.f213, Tryz.f214, Tryz.f215, Tryz.f216, Tryz.f217, Tryz.f218, Tryz.f219, Tryz.f220, Tryz.f221, Tryz.f222, Tryz.f223, Tryz.f224, Tryz.f225, Tryz.f226, Tryz.f227, Tryz.f228, Tryz.f229, Tryz.f230, Tryz.f231, Tryz.f232, Tryz.f233, Tryz.f234, Tryz.f235, Tryz.f236, Tryz.f237, Tryz.f238, Tryz.f239]
theorem kgs3 : fs3.any Func.goes = false := by kernel_rfl
noncomputable def fs4 : List Func := [Tryz.f240, Tryz.f241, Tryz.f242, Tryz.f243, Tryz.f244, Tryz.f245, Tryz.f246, Tryz.f247, Tryz.f248, Tryz.f249, Tryz.f250, Tryz.f251, Tryz.f252, Tryz.f253, Tryz.f254, Tryz.f255, Tryz.f256, Tryz.f257, Tryz.f258, Tryz.f259, Tryz.f260, Tryz.f261, Tryz.f262, Tryz.f263, Tryz.f264, Tryz.f265, Tryz.f266, Tryz.f267, Tryz.f268, Tryz.f269, Tryz.f270, Tryz.f271, Tryz.f272, Tryz.f273, Tryz.f274, Tryz.f275, Tryz.f276, Tryz.f277, Tryz.f278, Tryz.f279, Tryz.f280, Tryz.f281, Tryz.f282, Tryz.f283, Tryz.f284, Tryz.f285, Tryz.f286, Tryz.f287, Tryz.f288, Tryz.f289, Tryz.f290, Tryz.f291, Tryz.f292, Tryz.f293, Tryz.f294, Tryz.f295, Tryz.f296, Tryz.f297, Tryz.f298, Tryz.f299]
theorem kgs4 : fs4.any Func.goes = false := by kernel_rfl
noncomputable def fs5 : List Func := [Tryz.f300, Tryz.f301, Tryz.f302, Tryz.f303, Tryz.f304, Tryz.f305, Tryz.f306, Tryz.f307, Tryz.f308, Tryz.f309, Tryz.f310, Tryz.f311, Tryz.f312, Tryz.f313, Tryz.f314, Tryz.f315, Tryz.f316, Tryz.f317, Tryz.f318, Tryz.f319, Tryz.f320, Tryz.f321, Tryz.f322, Tryz.f323, Tryz.f324, Tryz.f325, Tryz.f326, Tryz.f327, Tryz.f328, Tryz.f329, Tryz.f330, Tryz.f331, Tryz.f332, Tryz.f333, Tryz.f334, Tryz.f335, Tryz.f336, Tryz.f337, Tryz.f338, Tryz.f339, Tryz.f340, Tryz.f341, Tryz.f342, Tryz.f343, Tryz.f344, Tryz.f345, Tryz.f346, Tryz.f347, Tryz.f348]
theorem kgs5 : fs5.any Func.goes = false := by kernel_rfl
theorem funcsAre : Tryz.prog.funcs.toList = fs0 ++ fs1 ++ fs2 ++ fs3 ++ fs4 ++ fs5 := by kernel_rfl
theorem kgAll : Tryz.prog.funcs.any Func.goes = false := by
  rw [← Array.any_toList, funcsAre]
  simp only [List.any_append, kgs0, kgs1, kgs2, kgs3, kgs4, kgs5, Bool.or_false]
theorem kgoes : Tryz.prog.goes 6 = false := by
  unfold Program.goes
  rw [cl, kgo1, kgAll, Bool.and_false]
  rfl
theorem kf0 : (Rows.aclViewsRow.wf (OpenSpec.ofChange Rows.aclViewsSpec)) = true := by kernel_rfl
theorem kf1 : (laidOutB Tryz.prog) = true := by kernel_rfl
theorem kf2 : (mapsRowed Tryz.prog) = true := by kernel_rfl
theorem kf3 : (Tryz.f6.params.all (Tryz.prog.readableRec ·)) = true := by kernel_rfl
theorem kf4 : (namedTie Tryz.prog Rows.aclViewsRow.named Rows.aclViewsSpec.vars) = true := by kernel_rfl
theorem kf5 : (Rows.aclViewsRow.stops == []) = true := by kernel_rfl
theorem kf6 : (Tryz.prog.stops == []) = true := by kernel_rfl
theorem kf7 : (Rows.aclViewsRow.knobs == []) = true := by kernel_rfl
theorem kf8 : (Tryz.prog.stopKnobs == []) = true := by kernel_rfl
theorem kf9 : (Rows.aclViewsRow.inPlace == Tryz.prog.inPlace 6) = true := by unfold Program.inPlace; rw [cl]; kernel_rfl
theorem kf10 : (Rows.aclViewsRow.unfollowed == Tryz.prog.unfollowed 6) = true := by rw [kunf]; kernel_rfl
theorem kf11 : (Rows.aclViewsRow.recurses == Tryz.prog.recurses 6) = true := by rw [krec]; kernel_rfl
theorem kf12 : (Rows.aclViewsRow.named == Tryz.prog.varsNamed 6) = true := by unfold Program.varsNamed; rw [cl]; kernel_rfl
theorem kf13 : (Rows.aclViewsRow.maps == (Tryz.f6.params.toList ++ Rows.aclViewsSpec.plain.varTypes Tryz.prog).any (Tryz.prog.mapsRec ·)) = true := by kernel_rfl
theorem kf14 : (Rows.aclViewsRow.ifaces == (Tryz.f6.params.toList ++ Rows.aclViewsSpec.plain.varTypes Tryz.prog).any (Tryz.prog.ifacesRec ·)) = true := by kernel_rfl
theorem kf15 : (Rows.aclViewsRow.mapsOut == Tryz.prog.mapsAmong Tryz.f6.resultTypes.toList) = true := by kernel_rfl
theorem kf16 : (Rows.aclViewsRow.loops == (Tryz.f6.params.toList ++ Rows.aclViewsSpec.plain.varTypes Tryz.prog).any (Tryz.prog.loopsFrom ·)) = true := by kernel_rfl
theorem kf17 : (Rows.aclViewsRow.wideKeys == (Tryz.f6.params.toList ++ Rows.aclViewsSpec.plain.varTypes Tryz.prog ++ Tryz.f6.resultTypes.toList).any (Tryz.prog.wideKeysFrom ·)) = true := by kernel_rfl
theorem kf18 : (Rows.aclViewsSpec.vars.all (Tryz.prog.varReadable ·)) = true := by kernel_rfl
theorem kf19 : (Tryz.f6.resultTypes.all (fun t => Tryz.prog.readableRec t && decide (t < Tryz.prog.types.size))) = true := by kernel_rfl
theorem kf20 : (Rows.aclViewsRow.ifacesOut == Tryz.f6.resultTypes.toList.any (Tryz.prog.ifacesRec ·)) = true := by kernel_rfl
theorem kf21 : (Rows.aclViewsRow.loopsOut == Tryz.f6.resultTypes.toList.any (Tryz.prog.loopsFrom ·)) = true := by kernel_rfl
theorem kf22 : (Rows.aclViewsRow.plainKeys == Tryz.prog.plainKeys) = true := by kernel_rfl
theorem kf23 : (Rows.aclViewsRow.shortTexts.isNone) = true := by kernel_rfl
theorem kf24 : (Tryz.prog.stopsHeard) = true := by kernel_rfl
theorem kf25 : (Tryz.prog.mayEnter) = true := by kernel_rfl
theorem kf26 : (Rows.aclViewsRow.lifted == Tryz.prog.liftsFinal) = true := by kernel_rfl
theorem kf27 : (Tryz.prog.make == some Rows.aclViewsRow.make) = true := by kernel_rfl
theorem kf28 : (Rows.aclViewsRow.kinds == (if Rows.aclViewsRow.domain.isEmpty then [] else Tryz.f6.params.toList.map fun t => match Tryz.prog.underlying t with | some (.int k) => some k | _ => none)) = true := by kernel_rfl
theorem kf29 : (Rows.aclViewsRow.pinned == Rows.aclViewsRow.pinnedBy) = true := by kernel_rfl
theorem kf30 : (Rows.aclViewsRow.veiled == (Tryz.f6.params.toList ++ Rows.aclViewsSpec.plain.varTypes Tryz.prog ++ Tryz.f6.resultTypes.toList).any (Tryz.prog.veiledRec ·)) = true := by kernel_rfl
theorem kf31 : (Rows.aclViewsRow.veiledFits Tryz.prog Tryz.f6.params.toList (Tryz.f6.params.toList ++ Rows.aclViewsSpec.plain.varTypes Tryz.prog ++ Tryz.f6.resultTypes.toList)) = true := by kernel_rfl
theorem andT {a b : Bool} (ha : a = true) (hb : b = true) : (a && b) = true := by rw [ha, hb]; rfl
theorem closedFacts : joinedFacts Tryz.pinned.checked.prog 6 Tryz.f6 Rows.aclViewsSpec Rows.aclViewsRow = true := (andT (andT (andT (andT (andT (andT (andT (andT (andT (andT (andT (andT (andT (andT (andT (andT (andT (andT (andT (andT (andT (andT (andT (andT (andT (andT (andT (andT (andT (andT (andT kf0 kf1) kf2) kf3) kf4) kf5) kf6) kf7) kf8) kf9) kf10) kf11) kf12) kf13) kf14) kf15) kf16) kf17) kf18) kf19) kf20) kf21) kf22) kf23) kf24) kf25) kf26) kf27) kf28) kf29) kf30) kf31)
theorem kw : Rows.aclViewsRow.wfByText (OpenSpec.ofChange Rows.aclViewsSpec) = true := by kernel_rfl
theorem kfn : Tryz.prog.funcNamed "toponym/toponymlaw31.AclViews" = some 6 := by kernel_rfl
theorem kg : false = Rows.aclViewsRow.goesBy Tryz.pinned.checked.prog := by
  show false = (((Tryz.prog.funcNamed "toponym/toponymlaw31.AclViews").any Tryz.prog.goes) || false)
  rw [kfn, Option.any_some, kgoes]
  rfl
theorem kl : true = Tryz.prog.looks [] := by kernel_rfl
theorem kst : (Tryz.f6.params.toList.all fun u => !Tryz.prog.wantsStandIn u) = true := by kernel_rfl
end Go.Proofs.YtljeeehimcdmbaaGreatDoor.aclViews
