/- SearchNobody: a part of its proof. No condition. -/
import Derived.Test.YtjkhemeiliflgaaGreatDoorMTi
import Derived.Test.YtjkhemeiliflgaaGreatDoorCards
import Derived.ProofKit
import Derived.JoinedOf
import Derived.SevenTiedAt
namespace Go.Proofs.YtjkhemeiliflgaaGreatDoor.searchNobody
set_option maxRecDepth 100000
def clos : List FuncId := [3, 4, 10, 32, 33, 12, 11, 34, 68, 70, 69, 117, 35, 71, 5, 13, 36, 72, 73, 122, 112, 187, 197, 178, 97, 168, 169, 170, 250, 328, 123, 198, 118, 120, 121, 193, 279, 194, 280, 27, 60, 195, 281, 282, 196, 119, 192, 37, 53, 14, 38, 74, 75, 81, 65, 128, 207, 129, 111, 208, 294, 373, 374, 412, 451, 209, 210, 55, 99, 100, 101, 171, 172, 251, 258, 346, 173, 252, 329, 387, 428, 429, 430, 431, 432, 433, 434, 312, 383, 330, 388, 389, 435, 253, 331, 390, 436, 391, 332, 333, 392, 393, 437, 438, 439, 464, 470, 471, 472, 440, 441, 465, 466, 467, 468, 335, 395, 334, 394, 442, 469, 487, 443, 254, 336, 337, 255, 338, 339, 396, 256, 340, 341, 257, 345, 342, 344, 343, 174, 102, 175, 259, 347, 397, 398, 260, 348, 399, 349, 350, 365, 411, 261, 352, 353, 402, 401, 403, 354, 355, 404, 405, 444, 445, 400, 351, 176, 103, 177, 262, 356, 357, 263, 358, 114, 190, 277, 191, 278, 115, 264, 116, 104, 179, 265, 84, 135, 217, 300, 377, 136, 218, 188, 301, 266, 267, 359, 406, 446, 473, 474, 488, 447, 475, 448, 463, 484, 485, 486, 498, 360, 407, 361, 408, 449, 476, 450, 67, 180, 268, 362, 409, 269, 109, 363, 410, 270, 364, 271, 272, 273, 274, 366, 105, 181, 211, 295, 296, 376, 415, 456, 481, 497, 457, 482, 375, 413, 452, 414, 453, 477, 489, 490, 491, 492, 493, 499, 500, 501, 502, 503, 495, 454, 478, 494, 496, 504, 505, 455, 480, 479, 42, 16, 15, 39, 40, 76, 124, 125, 199, 283, 284, 285, 291, 369, 57, 106, 370, 201, 28, 200, 286, 367, 304, 380, 424, 379, 416, 92, 154, 417, 458, 418, 459, 460, 419, 461, 462, 483, 420, 421, 422, 423, 305, 368, 24, 58, 48, 287, 288, 26, 59, 107, 289, 290, 202, 77, 50, 93, 78, 29, 61, 108, 182, 275, 62, 80, 79, 126, 203, 204, 292, 371, 127, 205, 206, 293, 372, 41, 82, 83, 130, 131, 132, 212, 297, 213, 298, 215, 299, 54, 98, 133, 134, 214, 216, 6, 17, 18, 19, 30, 63, 64, 110, 183, 184, 185, 186, 276, 9, 31, 66, 113, 189, 20, 43, 85, 44, 86, 45, 87, 137, 138, 139, 219, 140, 88, 141, 89, 21, 46, 90, 142, 220, 143, 144, 145, 47, 91, 146, 221, 302, 147, 222, 303, 378, 148, 223, 306, 94, 155, 229, 310, 156, 157, 158, 230, 311, 231, 313, 232, 235, 234, 314, 233, 236, 159, 237, 315, 384, 426, 385, 427, 316, 307, 381, 382, 425, 238, 227, 239, 240, 241, 149, 224, 308, 225, 226, 309, 150, 151, 228, 152, 153, 49, 22, 51, 8, 25, 52, 95, 160, 242, 161, 243, 162, 96, 163, 167, 249, 326, 327, 317, 244, 245, 318, 166, 248, 324, 325, 164, 165, 246, 319, 386, 320, 321, 247, 322, 323, 7, 23, 56]
theorem cl : Tryz.prog.closure 3 = clos := by kernel_rfl
theorem kunf : Tryz.prog.unfollowed 3 = true := by unfold Program.unfollowed; rw [cl]; kernel_rfl
theorem krec : Tryz.prog.recurses 3 = true := by unfold Program.recurses; rw [kunf]; rfl
theorem kgo1 : (clos.any fun g => (Tryz.prog.funcs[g]?).any Func.goes) = false := by kernel_rfl
noncomputable def fs0 : List Func := [Tryz.f0, Tryz.f1, Tryz.f2, Tryz.f3, Tryz.f4, Tryz.f5, Tryz.f6, Tryz.f7, Tryz.f8, Tryz.f9, Tryz.f10, Tryz.f11, Tryz.f12, Tryz.f13, Tryz.f14, Tryz.f15, Tryz.f16, Tryz.f17, Tryz.f18, Tryz.f19, Tryz.f20, Tryz.f21, Tryz.f22, Tryz.f23, Tryz.f24, Tryz.f25, Tryz.f26, Tryz.f27, Tryz.f28, Tryz.f29, Tryz.f30, Tryz.f31, Tryz.f32, Tryz.f33, Tryz.f34, Tryz.f35, Tryz.f36, Tryz.f37, Tryz.f38, Tryz.f39, Tryz.f40, Tryz.f41, Tryz.f42, Tryz.f43, Tryz.f44, Tryz.f45, Tryz.f46, Tryz.f47, Tryz.f48, Tryz.f49, Tryz.f50, Tryz.f51, Tryz.f52, Tryz.f53, Tryz.f54, Tryz.f55, Tryz.f56, Tryz.f57, Tryz.f58, Tryz.f59]
theorem kgs0 : fs0.any Func.goes = false := by kernel_rfl
noncomputable def fs1 : List Func := [Tryz.f60, Tryz.f61, Tryz.f62, Tryz.f63, Tryz.f64, Tryz.f65, Tryz.f66, Tryz.f67, Tryz.f68, Tryz.f69, Tryz.f70, Tryz.f71, Tryz.f72, Tryz.f73, Tryz.f74, Tryz.f75, Tryz.f76, Tryz.f77, Tryz.f78, Tryz.f79, Tryz.f80, Tryz.f81, Tryz.f82, Tryz.f83, Tryz.f84, Tryz.f85, Tryz.f86, Tryz.f87, Tryz.f88, Tryz.f89, Tryz.f90, Tryz.f91, Tryz.f92, Tryz.f93, Tryz.f94, Tryz.f95, Tryz.f96, Tryz.f97, Tryz.f98, Tryz.f99, Tryz.f100, Tryz.f101, Tryz.f102, Tryz.f103, Tryz.f104, Tryz.f105, Tryz.f106, Tryz.f107, Tryz.f108, Tryz.f109, Tryz.f110, Tryz.f111, Tryz.f112, Tryz.f113, Tryz.f114, Tryz.f115, Tryz.f116, Tryz.f117, Tryz.f118, Tryz.f119]
theorem kgs1 : fs1.any Func.goes = false := by kernel_rfl
noncomputable def fs2 : List Func := [Tryz.f120, Tryz.f121, Tryz.f122, Tryz.f123, Tryz.f124, Tryz.f125, Tryz.f126, Tryz.f127, Tryz.f128, Tryz.f129, Tryz.f130, Tryz.f131, Tryz.f132, Tryz.f133, Tryz.f134, Tryz.f135, Tryz.f136, Tryz.f137, Tryz.f138, Tryz.f139, Tryz.f140, Tryz.f141, Tryz.f142, Tryz.f143, Tryz.f144, Tryz.f145, Tryz.f146, Tryz.f147, Tryz.f148, Tryz.f149, Tryz.f150, Tryz.f151, Tryz.f152, Tryz.f153, Tryz.f154, Tryz.f155, Tryz.f156, Tryz.f157, Tryz.f158, Tryz.f159, Tryz.f160, Tryz.f161, Tryz.f162, Tryz.f163, Tryz.f164, Tryz.f165, Tryz.f166, Tryz.f167, Tryz.f168, Tryz.f169, Tryz.f170, Tryz.f171, Tryz.f172, Tryz.f173, Tryz.f174, Tryz.f175, Tryz.f176, Tryz.f177, Tryz.f178, Tryz.f179]
theorem kgs2 : fs2.any Func.goes = false := by kernel_rfl
noncomputable def fs3 : List Func := [Tryz.f180, Tryz.f181, Tryz.f182, Tryz.f183, Tryz.f184, Tryz.f185, Tryz.f186, Tryz.f187, Tryz.f188, Tryz.f189, Tryz.f190, Tryz.f191, Tryz.f192, Tryz.f193, Tryz.f194, Tryz.f195, Tryz.f196, Tryz.f197, Tryz.f198, Tryz.f199, Tryz.f200, Tryz.f201, Tryz.f202, Tryz.f203, Tryz.f204, Tryz.f205, Tryz.f206, Tryz.f207, Tryz.f208, Tryz.f209, Tryz.f210, Tryz.f211, Tryz.f212, Tryz.f213, Tryz.f214, Tryz.f215, Tryz.f216, Tryz.f217, Tryz.f218, Tryz.f219, Tryz.f220, Tryz.f221, Tryz.f222, Tryz.f223, Tryz.f224, Tryz.f225, Tryz.f226, Tryz.f227, Tryz.f228, Tryz.f229, Tryz.f230, Tryz.f231, Tryz.f232, Tryz.f233, Tryz.f234, Tryz.f235, Tryz.f236, Tryz.f237, Tryz.f238, Tryz.f239]
theorem kgs3 : fs3.any Func.goes = false := by kernel_rfl
noncomputable def fs4 : List Func := [Tryz.f240, Tryz.f241, Tryz.f242, Tryz.f243, Tryz.f244, Tryz.f245, Tryz.f246, Tryz.f247, Tryz.f248, Tryz.f249, Tryz.f250, Tryz.f251, Tryz.f252, Tryz.f253, Tryz.f254, Tryz.f255, Tryz.f256, Tryz.f257, Tryz.f258, Tryz.f259, Tryz.f260, Tryz.f261, Tryz.f262, Tryz.f263, Tryz.f264, Tryz.f265, Tryz.f266, Tryz.f267, Tryz.f268, Tryz.f269, Tryz.f270, Tryz.f271, Tryz.f272, Tryz.f273, Tryz.f274, Tryz.f275, Tryz.f276, Tryz.f277, Tryz.f278, Tryz.f279, Tryz.f280, Tryz.f281, Tryz.f282, Tryz.f283, Tryz.f284, Tryz.f285, Tryz.f286, Tryz.f287, Tryz.f288, Tryz.f289, Tryz.f290, Tryz.f291, Tryz.f292, Tryz.f293, Tryz.f294, Tryz.f295, Tryz.f296, Tryz.f297, Tryz.f298, Tryz.f299]
theorem kgs4 : fs4.any Func.goes = false := by kernel_rfl
noncomputable def fs5 : List Func := [Tryz.f300, Tryz.f301, Tryz.f302, Tryz.f303, Tryz.f304, Tryz.f305, Tryz.f306, Tryz.f307, Tryz.f308, Tryz.f309, Tryz.f310, Tryz.f311, Tryz.f312, Tryz.f313, Tryz.f314, Tryz.f315, Tryz.f316, Tryz.f317, Tryz.f318, Tryz.f319, Tryz.f320, Tryz.f321, Tryz.f322, Tryz.f323, Tryz.f324, Tryz.f325, Tryz.f326, Tryz.f327, Tryz.f328, Tryz.f329, Tryz.f330, Tryz.f331, Tryz.f332, Tryz.f333, Tryz.f334, Tryz.f335, Tryz.f336, Tryz.f337, Tryz.f338, Tryz.f339, Tryz.f340, Tryz.f341, Tryz.f342, Tryz.f343, Tryz.f344, Tryz.f345, Tryz.f346, Tryz.f347, Tryz.f348, Tryz.f349, Tryz.f350, Tryz.f351, Tryz.f352, Tryz.f353, Tryz.f354, Tryz.f355, Tryz.f356, Tryz.f357, Tryz.f358, Tryz.f359]
theorem kgs5 : fs5.any Func.goes = false := by kernel_rfl
noncomputable def fs6 : List Func := [Tryz.f360, Tryz.f361, Tryz.f362, Tryz.f363, Tryz.f364, Tryz.f365, Tryz.f366, Tryz.f367, Tryz.f368, Tryz.f369, Tryz.f370, Tryz.f371, Tryz.f372, Tryz.f373, Tryz.f374, Tryz.f375, Tryz.f376, Tryz.f377, Tryz.f378, Tryz.f379, Tryz.f380, Tryz.f381, Tryz.f382, Tryz.f383, Tryz.f384, Tryz.f385, Tryz.f386, Tryz.f387, Tryz.f388, Tryz.f389, Tryz.f390, Tryz.f391, Tryz.f392, Tryz.f393, Tryz.f394, Tryz.f395, Tryz.f396, Tryz.f397, Tryz.f398, Tryz.f399, Tryz.f400, Tryz.f401, Tryz.f402, Tryz.f403, Tryz.f404, Tryz.f405, Tryz.f406, Tryz.f407, Tryz.f408, Tryz.f409, Tryz.f410, Tryz.f411, Tryz.f412, Tryz.f413, Tryz.f414, Tryz.f415, Tryz.f416, Tryz.f417, Tryz.f418, Tryz.f419]
theorem kgs6 : fs6.any Func.goes = false := by kernel_rfl
noncomputable def fs7 : List Func := [Tryz.f420, Tryz.f421, Tryz.f422, Tryz.f423, Tryz.f424, Tryz.f425, Tryz.f426, Tryz.f427, Tryz.f428, Tryz.f429, Tryz.f430, Tryz.f431, Tryz.f432, Tryz.f433, Tryz.f434, Tryz.f435, Tryz.f436, Tryz.f437, Tryz.f438, Tryz.f439, Tryz.f440, Tryz.f441, Tryz.f442, Tryz.f443, Tryz.f444, Tryz.f445, Tryz.f446, Tryz.f447, Tryz.f448, Tryz.f449, Tryz.f450, Tryz.f451, Tryz.f452, Tryz.f453, Tryz.f454, Tryz.f455, Tryz.f456, Tryz.f457, Tryz.f458, Tryz.f459, Tryz.f460, Tryz.f461, Tryz.f462, Tryz.f463, Tryz.f464, Tryz.f465, Tryz.f466, Tryz.f467, Tryz.f468, Tryz.f469, Tryz.f470, Tryz.f471, Tryz.f472, Tryz.f473, Tryz.f474, Tryz.f475, Tryz.f476, Tryz.f477, Tryz.f478, Tryz.f479]
theorem kgs7 : fs7.any Func.goes = false := by kernel_rfl
noncomputable def fs8 : List Func := [Tryz.f480, Tryz.f481, Tryz.f482, Tryz.f483, Tryz.f484, Tryz.f485, Tryz.f486, Tryz.f487, Tryz.f488, Tryz.f489, Tryz.f490, Tryz.f491, Tryz.f492, Tryz.f493, Tryz.f494, Tryz.f495, Tryz.f496, Tryz.f497, Tryz.f498, Tryz.f499, Tryz.f500, Tryz.f501, Tryz.f502, Tryz.f503, Tryz.f504, Tryz.f505, Tryz.f506, Tryz.f507, Tryz.f508, Tryz.f509, Tryz.f510, Tryz.f511, Tryz.f512, Tryz.f513, Tryz.f514, Tryz.f515, Tryz.f516, Tryz.f517, Tryz.f518, Tryz.f519, Tryz.f520, Tryz.f521, Tryz.f522, Tryz.f523, Tryz.f524, Tryz.f525, Tryz.f526, Tryz.f527, Tryz.f528, Tryz.f529, Tryz.f530, Tryz.f531, Tryz.f532, Tryz.f533, Tryz.f534, Tryz.f535, Tryz.f536, Tryz.f537, Tryz.f538, Tryz.f539]
theorem kgs8 : fs8.any Func.goes = false := by kernel_rfl
noncomputable def fs9 : List Func := [Tryz.f540, Tryz.f541, Tryz.f542, Tryz.f543, Tryz.f544, Tryz.f545, Tryz.f546, Tryz.f547, Tryz.f548, Tryz.f549, Tryz.f550, Tryz.f551, Tryz.f552, Tryz.f553, Tryz.f554]
theorem kgs9 : fs9.any Func.goes = false := by kernel_rfl
theorem funcsAre : Tryz.prog.funcs.toList = fs0 ++ fs1 ++ fs2 ++ fs3 ++ fs4 ++ fs5 ++ fs6 ++ fs7 ++ fs8 ++ fs9 := by kernel_rfl
theorem kgAll : Tryz.prog.funcs.any Func.goes = false := by
  rw [← Array.any_toList, funcsAre]
  simp only [List.any_append, kgs0, kgs1, kgs2, kgs3, kgs4, kgs5, kgs6, kgs7, kgs8, kgs9, Bool.or_false]
theorem kgoes : Tryz.prog.goes 3 = false := by
  unfold Program.goes
  rw [cl, kgo1, kgAll, Bool.and_false]
  rfl
theorem kf0 : (Rows.searchNobodyRow.wf (OpenSpec.ofChange Rows.searchNobodySpec)) = true := by kernel_rfl
theorem kf1 : (laidOutB Tryz.prog) = true := by kernel_rfl
theorem kf2 : (mapsRowed Tryz.prog) = true := by kernel_rfl
theorem kf3 : (Tryz.f3.params.all (Tryz.prog.readableRec ·)) = true := by kernel_rfl
theorem kf4 : (namedTie Tryz.prog Rows.searchNobodyRow.named Rows.searchNobodySpec.vars) = true := by kernel_rfl
theorem kf5 : (Rows.searchNobodyRow.stops == []) = true := by kernel_rfl
theorem kf6 : (Tryz.prog.stops == []) = true := by kernel_rfl
theorem kf7 : (Rows.searchNobodyRow.knobs == []) = true := by kernel_rfl
theorem kf8 : (Tryz.prog.stopKnobs == []) = true := by kernel_rfl
theorem kf9 : (Rows.searchNobodyRow.inPlace == Tryz.prog.inPlace 3) = true := by unfold Program.inPlace; rw [cl]; kernel_rfl
theorem kf10 : (Rows.searchNobodyRow.unfollowed == Tryz.prog.unfollowed 3) = true := by rw [kunf]; kernel_rfl
theorem kf11 : (Rows.searchNobodyRow.recurses == Tryz.prog.recurses 3) = true := by rw [krec]; kernel_rfl
theorem kf12 : (Rows.searchNobodyRow.named == Tryz.prog.varsNamed 3) = true := by unfold Program.varsNamed; rw [cl]; kernel_rfl
theorem kf13 : (Rows.searchNobodyRow.maps == (Tryz.f3.params.toList ++ Rows.searchNobodySpec.plain.varTypes Tryz.prog).any (Tryz.prog.mapsRec ·)) = true := by kernel_rfl
theorem kf14 : (Rows.searchNobodyRow.ifaces == (Tryz.f3.params.toList ++ Rows.searchNobodySpec.plain.varTypes Tryz.prog).any (Tryz.prog.ifacesRec ·)) = true := by kernel_rfl
theorem kf15 : (Rows.searchNobodyRow.mapsOut == Tryz.prog.mapsAmong Tryz.f3.resultTypes.toList) = true := by kernel_rfl
theorem kf16 : (Rows.searchNobodyRow.loops == (Tryz.f3.params.toList ++ Rows.searchNobodySpec.plain.varTypes Tryz.prog).any (Tryz.prog.loopsFrom ·)) = true := by kernel_rfl
theorem kf17 : (Rows.searchNobodyRow.wideKeys == (Tryz.f3.params.toList ++ Rows.searchNobodySpec.plain.varTypes Tryz.prog ++ Tryz.f3.resultTypes.toList).any (Tryz.prog.wideKeysFrom ·)) = true := by kernel_rfl
theorem kf18 : (Rows.searchNobodySpec.vars.all (Tryz.prog.varReadable ·)) = true := by kernel_rfl
theorem kf19 : (Tryz.f3.resultTypes.all (fun t => Tryz.prog.readableRec t && decide (t < Tryz.prog.types.size))) = true := by kernel_rfl
theorem kf20 : (Rows.searchNobodyRow.ifacesOut == Tryz.f3.resultTypes.toList.any (Tryz.prog.ifacesRec ·)) = true := by kernel_rfl
theorem kf21 : (Rows.searchNobodyRow.loopsOut == Tryz.f3.resultTypes.toList.any (Tryz.prog.loopsFrom ·)) = true := by kernel_rfl
theorem kf22 : (Rows.searchNobodyRow.plainKeys == Tryz.prog.plainKeys) = true := by kernel_rfl
theorem kf23 : (Rows.searchNobodyRow.shortTexts.isNone) = true := by kernel_rfl
theorem kf24 : (Tryz.prog.stopsHeard) = true := by kernel_rfl
theorem kf25 : (Tryz.prog.mayEnter) = true := by kernel_rfl
theorem kf26 : (Rows.searchNobodyRow.lifted == Tryz.prog.liftsFinal) = true := by kernel_rfl
theorem kf27 : (Tryz.prog.make == some Rows.searchNobodyRow.make) = true := by kernel_rfl
theorem kf28 : (Rows.searchNobodyRow.kinds == (if Rows.searchNobodyRow.domain.isEmpty then [] else Tryz.f3.params.toList.map fun t => match Tryz.prog.underlying t with | some (.int k) => some k | _ => none)) = true := by kernel_rfl
theorem kf29 : (Rows.searchNobodyRow.pinned == Rows.searchNobodyRow.pinnedBy) = true := by kernel_rfl
theorem kf30 : (Rows.searchNobodyRow.veiled == (Tryz.f3.params.toList ++ Rows.searchNobodySpec.plain.varTypes Tryz.prog ++ Tryz.f3.resultTypes.toList).any (Tryz.prog.veiledRec ·)) = true := by kernel_rfl
theorem kf31 : (Rows.searchNobodyRow.veiledFits Tryz.prog Tryz.f3.params.toList (Tryz.f3.params.toList ++ Rows.searchNobodySpec.plain.varTypes Tryz.prog ++ Tryz.f3.resultTypes.toList)) = true := by kernel_rfl
theorem andT {a b : Bool} (ha : a = true) (hb : b = true) : (a && b) = true := by rw [ha, hb]; rfl
theorem closedFacts : joinedFacts Tryz.pinned.checked.prog 3 Tryz.f3 Rows.searchNobodySpec Rows.searchNobodyRow = true := (andT (andT (andT (andT (andT (andT (andT (andT (andT (andT (andT (andT (andT (andT (andT (andT (andT (andT (andT (andT (andT (andT (andT (andT (andT (andT (andT (andT (andT (andT (andT kf0 kf1) kf2) kf3) kf4) kf5) kf6) kf7) kf8) kf9) kf10) kf11) kf12) kf13) kf14) kf15) kf16) kf17) kf18) kf19) kf20) kf21) kf22) kf23) kf24) kf25) kf26) kf27) kf28) kf29) kf30) kf31)
theorem kw : Rows.searchNobodyRow.wfByText (OpenSpec.ofChange Rows.searchNobodySpec) = true := by kernel_rfl
theorem kfn : Tryz.prog.funcNamed "toponym/toponymlaw35.SearchNobody" = some 3 := by kernel_rfl
theorem kg : false = Rows.searchNobodyRow.goesBy Tryz.pinned.checked.prog := by
  show false = (((Tryz.prog.funcNamed "toponym/toponymlaw35.SearchNobody").any Tryz.prog.goes) || false)
  rw [kfn, Option.any_some, kgoes]
  rfl
theorem kl : true = Tryz.prog.looks [] := by kernel_rfl
theorem kst : (Tryz.f3.params.toList.all fun u => !Tryz.prog.wantsStandIn u) = true := by kernel_rfl
end Go.Proofs.YtjkhemeiliflgaaGreatDoor.searchNobody
