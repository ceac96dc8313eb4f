/- PlanNobody: a part of its proof. No condition. -/
import Derived.Test.YtklbbnlhhfadcaaGreatDoorTie
import Derived.Test.YtklbbnlhhfadcaaGreatDoorCards
import Derived.ProofKit
import Derived.JoinedOf
import Derived.SevenTiedAt
namespace Go.Proofs.YtklbbnlhhfadcaaGreatDoor.planNobody
set_option maxRecDepth 100000
def clos : List FuncId := [3, 5, 4, 13, 31, 33, 32, 71, 14, 15, 34, 6, 16, 35, 72, 73, 125, 136, 202, 191, 169, 102, 160, 161, 140, 204, 277, 126, 192, 121, 123, 124, 187, 260, 188, 261, 213, 60, 189, 262, 263, 190, 122, 186, 36, 53, 18, 17, 21, 37, 74, 44, 127, 42, 84, 85, 137, 86, 93, 138, 203, 275, 276, 347, 386, 139, 141, 54, 103, 104, 105, 162, 163, 217, 224, 310, 164, 218, 293, 358, 394, 395, 396, 397, 398, 399, 400, 336, 383, 294, 359, 360, 401, 219, 295, 361, 402, 362, 296, 297, 363, 364, 403, 404, 405, 425, 431, 432, 433, 406, 407, 426, 427, 428, 429, 299, 366, 298, 365, 408, 430, 448, 409, 220, 300, 301, 221, 302, 303, 367, 222, 304, 305, 223, 309, 306, 308, 307, 165, 106, 166, 225, 311, 368, 369, 226, 312, 370, 313, 314, 330, 382, 227, 316, 317, 292, 372, 373, 318, 319, 374, 375, 410, 411, 371, 315, 167, 107, 168, 228, 320, 321, 118, 180, 207, 144, 208, 280, 351, 87, 229, 88, 108, 170, 230, 109, 171, 233, 325, 379, 172, 234, 235, 326, 231, 232, 322, 376, 412, 434, 435, 449, 413, 436, 414, 437, 450, 451, 452, 460, 323, 377, 324, 378, 415, 438, 416, 143, 173, 236, 327, 380, 237, 245, 328, 381, 238, 329, 239, 240, 241, 242, 331, 110, 174, 142, 205, 206, 279, 350, 391, 423, 447, 392, 424, 278, 348, 387, 349, 388, 419, 439, 440, 441, 442, 443, 453, 454, 455, 456, 457, 445, 389, 420, 444, 446, 458, 459, 390, 422, 421, 193, 264, 265, 266, 272, 343, 385, 418, 344, 195, 67, 194, 267, 341, 157, 216, 291, 215, 283, 148, 210, 284, 353, 285, 354, 355, 286, 356, 357, 393, 287, 288, 289, 290, 158, 342, 211, 282, 25, 268, 269, 209, 281, 352, 270, 271, 196, 45, 92, 149, 75, 116, 117, 179, 246, 333, 178, 46, 76, 128, 197, 198, 273, 345, 129, 199, 200, 274, 346, 38, 22, 43, 78, 65, 40, 79, 130, 80, 131, 132, 133, 89, 145, 90, 91, 146, 147, 8, 23, 47, 94, 48, 95, 49, 96, 150, 151, 152, 212, 153, 97, 154, 98, 24, 50, 99, 155, 51, 100, 156, 214, 52, 101, 159, 119, 181, 247, 334, 182, 183, 184, 248, 335, 249, 337, 250, 253, 252, 338, 251, 254, 185, 255, 339, 135, 201, 384, 417, 340, 175, 243, 244, 332, 256, 114, 257, 258, 259, 55, 111, 176, 112, 113, 177, 56, 57, 115, 58, 59, 9, 10, 29, 66, 120, 68, 69, 61, 28, 63, 64, 26, 27, 62, 19, 39, 77, 20, 41, 81, 82, 134, 83, 7, 11, 12, 30, 70]
theorem cl : Tryz.prog.closure 3 = clos := by kernel_rfl
theorem kunf : Tryz.prog.unfollowed 3 = true := by unfold Program.unfollowed; rw [cl]; kernel_rfl
theorem krec : Tryz.prog.recurses 3 = true := by unfold Program.recurses; rw [kunf]; rfl
theorem kgo1 : (clos.any fun g => (Tryz.prog.funcs[g]?).any Func.goes) = false := by kernel_rfl
noncomputable def fs0 : List Func := [Tryz.f0, Tryz.f1, Tryz.f2, Tryz.f3, Tryz.f4, Tryz.f5, Tryz.f6, Tryz.f7, Tryz.f8, Tryz.f9, Tryz.f10, Tryz.f11, Tryz.f12, Tryz.f13, Tryz.f14, Tryz.f15, Tryz.f16, Tryz.f17, Tryz.f18, Tryz.f19, Tryz.f20, Tryz.f21, Tryz.f22, Tryz.f23, Tryz.f24, Tryz.f25, Tryz.f26, Tryz.f27, Tryz.f28, Tryz.f29, Tryz.f30, Tryz.f31, Tryz.f32, Tryz.f33, Tryz.f34, Tryz.f35, Tryz.f36, Tryz.f37, Tryz.f38, Tryz.f39, Tryz.f40, Tryz.f41, Tryz.f42, Tryz.f43, Tryz.f44, Tryz.f45, Tryz.f46, Tryz.f47, Tryz.f48, Tryz.f49, Tryz.f50, Tryz.f51, Tryz.f52, Tryz.f53, Tryz.f54, Tryz.f55, Tryz.f56, Tryz.f57, Tryz.f58, Tryz.f59]
theorem kgs0 : fs0.any Func.goes = false := by kernel_rfl
noncomputable def fs1 : List Func := [Tryz.f60, Tryz.f61, Tryz.f62, Tryz.f63, Tryz.f64, Tryz.f65, Tryz.f66, Tryz.f67, Tryz.f68, Tryz.f69, Tryz.f70, Tryz.f71, Tryz.f72, Tryz.f73, Tryz.f74, Tryz.f75, Tryz.f76, Tryz.f77, Tryz.f78, Tryz.f79, Tryz.f80, Tryz.f81, Tryz.f82, Tryz.f83, Tryz.f84, Tryz.f85, Tryz.f86, Tryz.f87, Tryz.f88, Tryz.f89, Tryz.f90, Tryz.f91, Tryz.f92, Tryz.f93, Tryz.f94, Tryz.f95, Tryz.f96, Tryz.f97, Tryz.f98, Tryz.f99, Tryz.f100, Tryz.f101, Tryz.f102, Tryz.f103, Tryz.f104, Tryz.f105, Tryz.f106, Tryz.f107, Tryz.f108, Tryz.f109, Tryz.f110, Tryz.f111, Tryz.f112, Tryz.f113, Tryz.f114, Tryz.f115, Tryz.f116, Tryz.f117, Tryz.f118, Tryz.f119]
theorem kgs1 : fs1.any Func.goes = false := by kernel_rfl
noncomputable def fs2 : List Func := [Tryz.f120, Tryz.f121, Tryz.f122, Tryz.f123, Tryz.f124, Tryz.f125, Tryz.f126, Tryz.f127, Tryz.f128, Tryz.f129, Tryz.f130, Tryz.f131, Tryz.f132, Tryz.f133, Tryz.f134, Tryz.f135, Tryz.f136, Tryz.f137, Tryz.f138, Tryz.f139, Tryz.f140, Tryz.f141, Tryz.f142, Tryz.f143, Tryz.f144, Tryz.f145, Tryz.f146, Tryz.f147, Tryz.f148, Tryz.f149, Tryz.f150, Tryz.f151, Tryz.f152, Tryz.f153, Tryz.f154, Tryz.f155, Tryz.f156, Tryz.f157, Tryz.f158, Tryz.f159, Tryz.f160, Tryz.f161, Tryz.f162, Tryz.f163, Tryz.f164, Tryz.f165, Tryz.f166, Tryz.f167, Tryz.f168, Tryz.f169, Tryz.f170, Tryz.f171, Tryz.f172, Tryz.f173, Tryz.f174, Tryz.f175, Tryz.f176, Tryz.f177, Tryz.f178, Tryz.f179]
theorem kgs2 : fs2.any Func.goes = false := by kernel_rfl
noncomputable def fs3 : List Func := [Tryz.f180, Tryz.f181, Tryz.f182, Tryz.f183, Tryz.f184, Tryz.f185, Tryz.f186, Tryz.f187, Tryz.f188, Tryz.f189, Tryz.f190, Tryz.f191, Tryz.f192, Tryz.f193, Tryz.f194, Tryz.f195, Tryz.f196, Tryz.f197, Tryz.f198, Tryz.f199, Tryz.f200, Tryz.f201, Tryz.f202, Tryz.f203, Tryz.f204, Tryz.f205, Tryz.f206, Tryz.f207, Tryz.f208, Tryz.f209, Tryz.f210, Tryz.f211, Tryz.f212, Tryz.f213, Tryz.f214, Tryz.f215, Tryz.f216, Tryz.f217, Tryz.f218, Tryz.f219, Tryz.f220, Tryz.f221, Tryz.f222, Tryz.f223, Tryz.f224, Tryz.f225, Tryz.f226, Tryz.f227, Tryz.f228, Tryz.f229, Tryz.f230, Tryz.f231, Tryz.f232, Tryz.f233, Tryz.f234, Tryz.f235, Tryz.f236, Tryz.f237, Tryz.f238, Tryz.f239]
theorem kgs3 : fs3.any Func.goes = false := by kernel_rfl
noncomputable def fs4 : List Func := [Tryz.f240, Tryz.f241, Tryz.f242, Tryz.f243, Tryz.f244, Tryz.f245, Tryz.f246, Tryz.f247, Tryz.f248, Tryz.f249, Tryz.f250, Tryz.f251, Tryz.f252, Tryz.f253, Tryz.f254, Tryz.f255, Tryz.f256, Tryz.f257, Tryz.f258, Tryz.f259, Tryz.f260, Tryz.f261, Tryz.f262, Tryz.f263, Tryz.f264, Tryz.f265, Tryz.f266, Tryz.f267, Tryz.f268, Tryz.f269, Tryz.f270, Tryz.f271, Tryz.f272, Tryz.f273, Tryz.f274, Tryz.f275, Tryz.f276, Tryz.f277, Tryz.f278, Tryz.f279, Tryz.f280, Tryz.f281, Tryz.f282, Tryz.f283, Tryz.f284, Tryz.f285, Tryz.f286, Tryz.f287, Tryz.f288, Tryz.f289, Tryz.f290, Tryz.f291, Tryz.f292, Tryz.f293, Tryz.f294, Tryz.f295, Tryz.f296, Tryz.f297, Tryz.f298, Tryz.f299]
theorem kgs4 : fs4.any Func.goes = false := by kernel_rfl
noncomputable def fs5 : List Func := [Tryz.f300, Tryz.f301, Tryz.f302, Tryz.f303, Tryz.f304, Tryz.f305, Tryz.f306, Tryz.f307, Tryz.f308, Tryz.f309, Tryz.f310, Tryz.f311, Tryz.f312, Tryz.f313, Tryz.f314, Tryz.f315, Tryz.f316, Tryz.f317, Tryz.f318, Tryz.f319, Tryz.f320, Tryz.f321, Tryz.f322, Tryz.f323, Tryz.f324, Tryz.f325, Tryz.f326, Tryz.f327, Tryz.f328, Tryz.f329, Tryz.f330, Tryz.f331, Tryz.f332, Tryz.f333, Tryz.f334, Tryz.f335, Tryz.f336, Tryz.f337, Tryz.f338, Tryz.f339, Tryz.f340, Tryz.f341, Tryz.f342, Tryz.f343, Tryz.f344, Tryz.f345, Tryz.f346, Tryz.f347, Tryz.f348, Tryz.f349, Tryz.f350, Tryz.f351, Tryz.f352, Tryz.f353, Tryz.f354, Tryz.f355, Tryz.f356, Tryz.f357, Tryz.f358, Tryz.f359]
theorem kgs5 : fs5.any Func.goes = false := by kernel_rfl
noncomputable def fs6 : List Func := [Tryz.f360, Tryz.f361, Tryz.f362, Tryz.f363, Tryz.f364, Tryz.f365, Tryz.f366, Tryz.f367, Tryz.f368, Tryz.f369, Tryz.f370, Tryz.f371, Tryz.f372, Tryz.f373, Tryz.f374, Tryz.f375, Tryz.f376, Tryz.f377, Tryz.f378, Tryz.f379, Tryz.f380, Tryz.f381, Tryz.f382, Tryz.f383, Tryz.f384, Tryz.f385, Tryz.f386, Tryz.f387, Tryz.f388, Tryz.f389, Tryz.f390, Tryz.f391, Tryz.f392, Tryz.f393, Tryz.f394, Tryz.f395, Tryz.f396, Tryz.f397, Tryz.f398, Tryz.f399, Tryz.f400, Tryz.f401, Tryz.f402, Tryz.f403, Tryz.f404, Tryz.f405, Tryz.f406, Tryz.f407, Tryz.f408, Tryz.f409, Tryz.f410, Tryz.f411, Tryz.f412, Tryz.f413, Tryz.f414, Tryz.f415, Tryz.f416, Tryz.f417, Tryz.f418, Tryz.f419]
theorem kgs6 : fs6.any Func.goes = false := by kernel_rfl
noncomputable def fs7 : List Func := [Tryz.f420, Tryz.f421, Tryz.f422, Tryz.f423, Tryz.f424, Tryz.f425, Tryz.f426, Tryz.f427, Tryz.f428, Tryz.f429, Tryz.f430, Tryz.f431, Tryz.f432, Tryz.f433, Tryz.f434, Tryz.f435, Tryz.f436, Tryz.f437, Tryz.f438, Tryz.f439, Tryz.f440, Tryz.f441, Tryz.f442, Tryz.f443, Tryz.f444, Tryz.f445, Tryz.f446, Tryz.f447, Tryz.f448, Tryz.f449, Tryz.f450, Tryz.f451, Tryz.f452, Tryz.f453, Tryz.f454, Tryz.f455, Tryz.f456, Tryz.f457, Tryz.f458, Tryz.f459, Tryz.f460, Tryz.f461, Tryz.f462, Tryz.f463, Tryz.f464, Tryz.f465, Tryz.f466, Tryz.f467, Tryz.f468, Tryz.f469, Tryz.f470, Tryz.f471, Tryz.f472, Tryz.f473, Tryz.f474, Tryz.f475, Tryz.f476, Tryz.f477, Tryz.f478, Tryz.f479]
theorem kgs7 : fs7.any Func.goes = false := by kernel_rfl
noncomputable def fs8 : List Func := [Tryz.f480, Tryz.f481, Tryz.f482, Tryz.f483, Tryz.f484, Tryz.f485, Tryz.f486, Tryz.f487, Tryz.f488, Tryz.f489, Tryz.f490, Tryz.f491, Tryz.f492, Tryz.f493, Tryz.f494, Tryz.f495, Tryz.f496, Tryz.f497, Tryz.f498, Tryz.f499, Tryz.f500, Tryz.f501, Tryz.f502, Tryz.f503, Tryz.f504, Tryz.f505, Tryz.f506, Tryz.f507, Tryz.f508]
theorem kgs8 : fs8.any Func.goes = false := by kernel_rfl
theorem funcsAre : Tryz.prog.funcs.toList = fs0 ++ fs1 ++ fs2 ++ fs3 ++ fs4 ++ fs5 ++ fs6 ++ fs7 ++ fs8 := by kernel_rfl
theorem kgAll : Tryz.prog.funcs.any Func.goes = false := by
  rw [← Array.any_toList, funcsAre]
  simp only [List.any_append, kgs0, kgs1, kgs2, kgs3, kgs4, kgs5, kgs6, kgs7, kgs8, Bool.or_false]
theorem kgoes : Tryz.prog.goes 3 = false := by
  unfold Program.goes
  rw [cl, kgo1, kgAll, Bool.and_false]
  rfl
theorem kf0 : (Rows.planNobodyRow.wf (OpenSpec.ofChange Rows.planNobodySpec)) = true := by kernel_rfl
theorem kf1 : (laidOutB Tryz.prog) = true := by kernel_rfl
theorem kf2 : (mapsRowed Tryz.prog) = true := by kernel_rfl
theorem kf3 : (Tryz.f3.params.all (Tryz.prog.readableRec ·)) = true := by kernel_rfl
theorem kf4 : (namedTie Tryz.prog Rows.planNobodyRow.named Rows.planNobodySpec.vars) = true := by kernel_rfl
theorem kf5 : (Rows.planNobodyRow.stops == []) = true := by kernel_rfl
theorem kf6 : (Tryz.prog.stops == []) = true := by kernel_rfl
theorem kf7 : (Rows.planNobodyRow.knobs == []) = true := by kernel_rfl
theorem kf8 : (Tryz.prog.stopKnobs == []) = true := by kernel_rfl
theorem kf9 : (Rows.planNobodyRow.inPlace == Tryz.prog.inPlace 3) = true := by unfold Program.inPlace; rw [cl]; kernel_rfl
theorem kf10 : (Rows.planNobodyRow.unfollowed == Tryz.prog.unfollowed 3) = true := by rw [kunf]; kernel_rfl
theorem kf11 : (Rows.planNobodyRow.recurses == Tryz.prog.recurses 3) = true := by rw [krec]; kernel_rfl
theorem kf12 : (Rows.planNobodyRow.named == Tryz.prog.varsNamed 3) = true := by unfold Program.varsNamed; rw [cl]; kernel_rfl
theorem kf13 : (Rows.planNobodyRow.maps == (Tryz.f3.params.toList ++ Rows.planNobodySpec.plain.varTypes Tryz.prog).any (Tryz.prog.mapsRec ·)) = true := by kernel_rfl
theorem kf14 : (Rows.planNobodyRow.ifaces == (Tryz.f3.params.toList ++ Rows.planNobodySpec.plain.varTypes Tryz.prog).any (Tryz.prog.ifacesRec ·)) = true := by kernel_rfl
theorem kf15 : (Rows.planNobodyRow.mapsOut == Tryz.prog.mapsAmong Tryz.f3.resultTypes.toList) = true := by kernel_rfl
theorem kf16 : (Rows.planNobodyRow.loops == (Tryz.f3.params.toList ++ Rows.planNobodySpec.plain.varTypes Tryz.prog).any (Tryz.prog.loopsFrom ·)) = true := by kernel_rfl
theorem kf17 : (Rows.planNobodyRow.wideKeys == (Tryz.f3.params.toList ++ Rows.planNobodySpec.plain.varTypes Tryz.prog ++ Tryz.f3.resultTypes.toList).any (Tryz.prog.wideKeysFrom ·)) = true := by kernel_rfl
theorem kf18 : (Rows.planNobodySpec.vars.all (Tryz.prog.varReadable ·)) = true := by kernel_rfl
theorem kf19 : (Tryz.f3.resultTypes.all (fun t => Tryz.prog.readableRec t && decide (t < Tryz.prog.types.size))) = true := by kernel_rfl
theorem kf20 : (Rows.planNobodyRow.ifacesOut == Tryz.f3.resultTypes.toList.any (Tryz.prog.ifacesRec ·)) = true := by kernel_rfl
theorem kf21 : (Rows.planNobodyRow.loopsOut == Tryz.f3.resultTypes.toList.any (Tryz.prog.loopsFrom ·)) = true := by kernel_rfl
theorem kf22 : (Rows.planNobodyRow.plainKeys == Tryz.prog.plainKeys) = true := by kernel_rfl
theorem kf23 : (Rows.planNobodyRow.shortTexts.isNone) = true := by kernel_rfl
theorem kf24 : (Tryz.prog.stopsHeard) = true := by kernel_rfl
theorem kf25 : (Tryz.prog.mayEnter) = true := by kernel_rfl
theorem kf26 : (Rows.planNobodyRow.lifted == Tryz.prog.liftsFinal) = true := by kernel_rfl
theorem kf27 : (Tryz.prog.make == some Rows.planNobodyRow.make) = true := by kernel_rfl
theorem kf28 : (Rows.planNobodyRow.kinds == (if Rows.planNobodyRow.domain.isEmpty then [] else Tryz.f3.params.toList.map fun t => match Tryz.prog.underlying t with | some (.int k) => some k | _ => none)) = true := by kernel_rfl
theorem kf29 : (Rows.planNobodyRow.pinned == Rows.planNobodyRow.pinnedBy) = true := by kernel_rfl
theorem kf30 : (Rows.planNobodyRow.veiled == (Tryz.f3.params.toList ++ Rows.planNobodySpec.plain.varTypes Tryz.prog ++ Tryz.f3.resultTypes.toList).any (Tryz.prog.veiledRec ·)) = true := by kernel_rfl
theorem kf31 : (Rows.planNobodyRow.veiledFits Tryz.prog Tryz.f3.params.toList (Tryz.f3.params.toList ++ Rows.planNobodySpec.plain.varTypes Tryz.prog ++ Tryz.f3.resultTypes.toList)) = true := by kernel_rfl
theorem andT {a b : Bool} (ha : a = true) (hb : b = true) : (a && b) = true := by rw [ha, hb]; rfl
theorem closedFacts : joinedFacts Tryz.pinned.checked.prog 3 Tryz.f3 Rows.planNobodySpec Rows.planNobodyRow = true := (andT (andT (andT (andT (andT (andT (andT (andT (andT (andT (andT (andT (andT (andT (andT (andT (andT (andT (andT (andT (andT (andT (andT (andT (andT (andT (andT (andT (andT (andT (andT kf0 kf1) kf2) kf3) kf4) kf5) kf6) kf7) kf8) kf9) kf10) kf11) kf12) kf13) kf14) kf15) kf16) kf17) kf18) kf19) kf20) kf21) kf22) kf23) kf24) kf25) kf26) kf27) kf28) kf29) kf30) kf31)
theorem kw : Rows.planNobodyRow.wfByText (OpenSpec.ofChange Rows.planNobodySpec) = true := by kernel_rfl
theorem kfn : Tryz.prog.funcNamed "toponym/toponymlaw34.PlanNobody" = some 3 := by kernel_rfl
theorem kg : false = Rows.planNobodyRow.goesBy Tryz.pinned.checked.prog := by
  show false = (((Tryz.prog.funcNamed "toponym/toponymlaw34.PlanNobody").any Tryz.prog.goes) || false)
  rw [kfn, Option.any_some, kgoes]
  rfl
theorem kl : true = Tryz.prog.looks [] := by kernel_rfl
theorem kst : (Tryz.f3.params.toList.all fun u => !Tryz.prog.wantsStandIn u) = true := by kernel_rfl
end Go.Proofs.YtklbbnlhhfadcaaGreatDoor.planNobody
