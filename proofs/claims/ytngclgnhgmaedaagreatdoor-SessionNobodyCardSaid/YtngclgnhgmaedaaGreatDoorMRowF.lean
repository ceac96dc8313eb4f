/- SessionNobody: a part of its proof. No condition. -/
import Derived.Test.YtngclgnhgmaedaaGreatDoorMTi
import Derived.Test.YtngclgnhgmaedaaGreatDoorCards
import Derived.ProofKit
import Derived.JoinedOf
import Derived.SevenTiedAt
namespace Go.Proofs.YtngclgnhgmaedaaGreatDoor.sessionNobody
set_option maxRecDepth 100000
def clos : List FuncId := [3, 4, 7, 8, 19, 20, 44, 21, 45, 112, 46, 47, 53, 116, 26, 62, 120, 63, 121, 187, 188, 31, 79, 189, 294, 190, 122, 191, 123, 48, 49, 113, 50, 114, 51, 115, 52, 23, 22, 54, 57, 117, 55, 56, 58, 59, 9, 13, 10, 24, 25, 30, 77, 146, 232, 353, 455, 147, 233, 234, 354, 129, 78, 127, 201, 303, 228, 136, 218, 219, 220, 328, 416, 202, 304, 148, 235, 149, 183, 236, 355, 456, 457, 505, 537, 237, 238, 72, 74, 138, 139, 140, 221, 222, 329, 336, 434, 223, 330, 417, 481, 514, 515, 516, 517, 518, 519, 520, 399, 478, 418, 482, 483, 521, 331, 419, 484, 522, 485, 420, 421, 486, 487, 523, 524, 525, 547, 553, 554, 555, 526, 527, 548, 549, 550, 551, 423, 489, 422, 488, 528, 552, 569, 529, 332, 424, 425, 333, 426, 427, 490, 334, 428, 429, 335, 433, 430, 432, 431, 224, 141, 225, 337, 435, 491, 492, 338, 436, 493, 437, 438, 453, 504, 339, 440, 441, 254, 495, 496, 442, 443, 497, 498, 530, 531, 494, 439, 226, 142, 227, 340, 444, 445, 341, 446, 209, 240, 358, 319, 404, 150, 342, 151, 143, 229, 343, 344, 345, 447, 499, 532, 556, 557, 570, 533, 558, 534, 546, 566, 567, 568, 580, 448, 500, 449, 501, 535, 559, 536, 131, 230, 346, 450, 502, 347, 293, 451, 503, 348, 452, 349, 350, 351, 352, 454, 144, 231, 239, 356, 357, 459, 508, 542, 564, 579, 543, 565, 458, 506, 538, 507, 539, 560, 571, 572, 573, 574, 575, 581, 582, 583, 584, 585, 577, 540, 561, 576, 578, 586, 587, 541, 563, 562, 60, 16, 37, 39, 101, 107, 67, 125, 200, 126, 108, 80, 118, 153, 241, 242, 243, 181, 292, 390, 474, 133, 210, 320, 244, 359, 61, 119, 186, 69, 130, 208, 318, 27, 15, 38, 102, 103, 182, 104, 65, 105, 106, 64, 124, 192, 295, 391, 193, 296, 392, 475, 84, 156, 253, 155, 245, 246, 360, 247, 361, 362, 248, 363, 364, 460, 249, 250, 251, 252, 85, 194, 297, 393, 128, 203, 305, 397, 204, 205, 206, 306, 398, 307, 400, 308, 311, 310, 401, 309, 312, 207, 137, 313, 402, 387, 473, 479, 513, 403, 394, 476, 477, 512, 314, 301, 315, 316, 317, 195, 298, 395, 299, 300, 267, 371, 396, 196, 197, 302, 198, 199, 66, 28, 68, 70, 132, 71, 134, 211, 321, 212, 135, 213, 217, 327, 414, 415, 405, 322, 323, 406, 216, 326, 412, 413, 214, 215, 324, 407, 480, 408, 409, 325, 410, 411, 11, 29, 73, 75, 76, 145, 12, 32, 14, 33, 81, 82, 83, 152, 154, 86, 87, 88, 89, 90, 157, 255, 256, 365, 257, 258, 366, 367, 461, 259, 260, 261, 262, 91, 93, 159, 263, 171, 163, 270, 272, 273, 374, 466, 375, 467, 376, 468, 469, 377, 271, 373, 283, 165, 167, 274, 276, 286, 378, 284, 381, 471, 472, 382, 383, 384, 385, 170, 264, 265, 368, 462, 463, 509, 544, 369, 464, 465, 510, 545, 160, 180, 162, 268, 178, 269, 370, 372, 290, 291, 388, 389, 92, 158, 34, 94, 161, 266, 35, 95, 164, 166, 168, 275, 277, 278, 169, 279, 280, 281, 282, 379, 380, 470, 511, 96, 172, 36, 97, 173, 174, 285, 98, 99, 175, 176, 177, 100, 179, 287, 288, 386, 289, 5, 6, 18, 43, 17, 40, 109, 110, 41, 111, 184, 185, 42]
theorem cl : Tryz.prog.closure 3 = clos := by kernel_rfl
theorem kunf : Tryz.prog.unfollowed 3 = true := by unfold Program.unfollowed; rw [cl]; kernel_rfl
theorem krec : Tryz.prog.recurses 3 = true := by unfold Program.recurses; rw [kunf]; rfl
theorem kgo1 : (clos.any fun g => (Tryz.prog.funcs[g]?).any Func.goes) = false := by kernel_rfl
noncomputable def fs0 : List Func := [Tryz.f0, Tryz.f1, Tryz.f2, Tryz.f3, Tryz.f4, Tryz.f5, Tryz.f6, Tryz.f7, Tryz.f8, Tryz.f9, Tryz.f10, Tryz.f11, Tryz.f12, Tryz.f13, Tryz.f14, Tryz.f15, Tryz.f16, Tryz.f17, Tryz.f18, Tryz.f19, Tryz.f20, Tryz.f21, Tryz.f22, Tryz.f23, Tryz.f24, Tryz.f25, Tryz.f26, Tryz.f27, Tryz.f28, Tryz.f29, Tryz.f30, Tryz.f31, Tryz.f32, Tryz.f33, Tryz.f34, Tryz.f35, Tryz.f36, Tryz.f37, Tryz.f38, Tryz.f39, Tryz.f40, Tryz.f41, Tryz.f42, Tryz.f43, Tryz.f44, Tryz.f45, Tryz.f46, Tryz.f47, Tryz.f48, Tryz.f49, Tryz.f50, Tryz.f51, Tryz.f52, Tryz.f53, Tryz.f54, Tryz.f55, Tryz.f56, Tryz.f57, Tryz.f58, Tryz.f59]
theorem kgs0 : fs0.any Func.goes = false := by kernel_rfl
noncomputable def fs1 : List Func := [Tryz.f60, Tryz.f61, Tryz.f62, Tryz.f63, Tryz.f64, Tryz.f65, Tryz.f66, Tryz.f67, Tryz.f68, Tryz.f69, Tryz.f70, Tryz.f71, Tryz.f72, Tryz.f73, Tryz.f74, Tryz.f75, Tryz.f76, Tryz.f77, Tryz.f78, Tryz.f79, Tryz.f80, Tryz.f81, Tryz.f82, Tryz.f83, Tryz.f84, Tryz.f85, Tryz.f86, Tryz.f87, Tryz.f88, Tryz.f89, Tryz.f90, Tryz.f91, Tryz.f92, Tryz.f93, Tryz.f94, Tryz.f95, Tryz.f96, Tryz.f97, Tryz.f98, Tryz.f99, Tryz.f100, Tryz.f101, Tryz.f102, Tryz.f103, Tryz.f104, Tryz.f105, Tryz.f106, Tryz.f107, Tryz.f108, Tryz.f109, Tryz.f110, Tryz.f111, Tryz.f112, Tryz.f113, Tryz.f114, Tryz.f115, Tryz.f116, Tryz.f117, Tryz.f118, Tryz.f119]
theorem kgs1 : fs1.any Func.goes = false := by kernel_rfl
noncomputable def fs2 : List Func := [Tryz.f120, Tryz.f121, Tryz.f122, Tryz.f123, Tryz.f124, Tryz.f125, Tryz.f126, Tryz.f127, Tryz.f128, Tryz.f129, Tryz.f130, Tryz.f131, Tryz.f132, Tryz.f133, Tryz.f134, Tryz.f135, Tryz.f136, Tryz.f137, Tryz.f138, Tryz.f139, Tryz.f140, Tryz.f141, Tryz.f142, Tryz.f143, Tryz.f144, Tryz.f145, Tryz.f146, Tryz.f147, Tryz.f148, Tryz.f149, Tryz.f150, Tryz.f151, Tryz.f152, Tryz.f153, Tryz.f154, Tryz.f155, Tryz.f156, Tryz.f157, Tryz.f158, Tryz.f159, Tryz.f160, Tryz.f161, Tryz.f162, Tryz.f163, Tryz.f164, Tryz.f165, Tryz.f166, Tryz.f167, Tryz.f168, Tryz.f169, Tryz.f170, Tryz.f171, Tryz.f172, Tryz.f173, Tryz.f174, Tryz.f175, Tryz.f176, Tryz.f177, Tryz.f178, Tryz.f179]
theorem kgs2 : fs2.any Func.goes = false := by kernel_rfl
noncomputable def fs3 : List Func := [Tryz.f180, Tryz.f181, Tryz.f182, Tryz.f183, Tryz.f184, Tryz.f185, Tryz.f186, Tryz.f187, Tryz.f188, Tryz.f189, Tryz.f190, Tryz.f191, Tryz.f192, Tryz.f193, Tryz.f194, Tryz.f195, Tryz.f196, Tryz.f197, Tryz.f198, Tryz.f199, Tryz.f200, Tryz.f201, Tryz.f202, Tryz.f203, Tryz.f204, Tryz.f205, Tryz.f206, Tryz.f207, Tryz.f208, Tryz.f209, Tryz.f210, Tryz.f211, Tryz.f212, Tryz.f213, Tryz.f214, Tryz.f215, Tryz.f216, Tryz.f217, Tryz.f218, Tryz.f219, Tryz.f220, Tryz.f221, Tryz.f222, Tryz.f223, Tryz.f224, Tryz.f225, Tryz.f226, Tryz.f227, Tryz.f228, Tryz.f229, Tryz.f230, Tryz.f231, Tryz.f232, Tryz.f233, Tryz.f234, Tryz.f235, Tryz.f236, Tryz.f237, Tryz.f238, Tryz.f239]
theorem kgs3 : fs3.any Func.goes = false := by kernel_rfl
noncomputable def fs4 : List Func := [Tryz.f240, Tryz.f241, Tryz.f242, Tryz.f243, Tryz.f244, Tryz.f245, Tryz.f246, Tryz.f247, Tryz.f248, Tryz.f249, Tryz.f250, Tryz.f251, Tryz.f252, Tryz.f253, Tryz.f254, Tryz.f255, Tryz.f256, Tryz.f257, Tryz.f258, Tryz.f259, Tryz.f260, Tryz.f261, Tryz.f262, Tryz.f263, Tryz.f264, Tryz.f265, Tryz.f266, Tryz.f267, Tryz.f268, Tryz.f269, Tryz.f270, Tryz.f271, Tryz.f272, Tryz.f273, Tryz.f274, Tryz.f275, Tryz.f276, Tryz.f277, Tryz.f278, Tryz.f279, Tryz.f280, Tryz.f281, Tryz.f282, Tryz.f283, Tryz.f284, Tryz.f285, Tryz.f286, Tryz.f287, Tryz.f288, Tryz.f289, Tryz.f290, Tryz.f291, Tryz.f292, Tryz.f293, Tryz.f294, Tryz.f295, Tryz.f296, Tryz.f297, Tryz.f298, Tryz.f299]
theorem kgs4 : fs4.any Func.goes = false := by kernel_rfl
noncomputable def fs5 : List Func := [Tryz.f300, Tryz.f301, Tryz.f302, Tryz.f303, Tryz.f304, Tryz.f305, Tryz.f306, Tryz.f307, Tryz.f308, Tryz.f309, Tryz.f310, Tryz.f311, Tryz.f312, Tryz.f313, Tryz.f314, Tryz.f315, Tryz.f316, Tryz.f317, Tryz.f318, Tryz.f319, Tryz.f320, Tryz.f321, Tryz.f322, Tryz.f323, Tryz.f324, Tryz.f325, Tryz.f326, Tryz.f327, Tryz.f328, Tryz.f329, Tryz.f330, Tryz.f331, Tryz.f332, Tryz.f333, Tryz.f334, Tryz.f335, Tryz.f336, Tryz.f337, Tryz.f338, Tryz.f339, Tryz.f340, Tryz.f341, Tryz.f342, Tryz.f343, Tryz.f344, Tryz.f345, Tryz.f346, Tryz.f347, Tryz.f348, Tryz.f349, Tryz.f350, Tryz.f351, Tryz.f352, Tryz.f353, Tryz.f354, Tryz.f355, Tryz.f356, Tryz.f357, Tryz.f358, Tryz.f359]
theorem kgs5 : fs5.any Func.goes = false := by kernel_rfl
noncomputable def fs6 : List Func := [Tryz.f360, Tryz.f361, Tryz.f362, Tryz.f363, Tryz.f364, Tryz.f365, Tryz.f366, Tryz.f367, Tryz.f368, Tryz.f369, Tryz.f370, Tryz.f371, Tryz.f372, Tryz.f373, Tryz.f374, Tryz.f375, Tryz.f376, Tryz.f377, Tryz.f378, Tryz.f379, Tryz.f380, Tryz.f381, Tryz.f382, Tryz.f383, Tryz.f384, Tryz.f385, Tryz.f386, Tryz.f387, Tryz.f388, Tryz.f389, Tryz.f390, Tryz.f391, Tryz.f392, Tryz.f393, Tryz.f394, Tryz.f395, Tryz.f396, Tryz.f397, Tryz.f398, Tryz.f399, Tryz.f400, Tryz.f401, Tryz.f402, Tryz.f403, Tryz.f404, Tryz.f405, Tryz.f406, Tryz.f407, Tryz.f408, Tryz.f409, Tryz.f410, Tryz.f411, Tryz.f412, Tryz.f413, Tryz.f414, Tryz.f415, Tryz.f416, Tryz.f417, Tryz.f418, Tryz.f419]
theorem kgs6 : fs6.any Func.goes = false := by kernel_rfl
noncomputable def fs7 : List Func := [Tryz.f420, Tryz.f421, Tryz.f422, Tryz.f423, Tryz.f424, Tryz.f425, Tryz.f426, Tryz.f427, Tryz.f428, Tryz.f429, Tryz.f430, Tryz.f431, Tryz.f432, Tryz.f433, Tryz.f434, Tryz.f435, Tryz.f436, Tryz.f437, Tryz.f438, Tryz.f439, Tryz.f440, Tryz.f441, Tryz.f442, Tryz.f443, Tryz.f444, Tryz.f445, Tryz.f446, Tryz.f447, Tryz.f448, Tryz.f449, Tryz.f450, Tryz.f451, Tryz.f452, Tryz.f453, Tryz.f454, Tryz.f455, Tryz.f456, Tryz.f457, Tryz.f458, Tryz.f459, Tryz.f460, Tryz.f461, Tryz.f462, Tryz.f463, Tryz.f464, Tryz.f465, Tryz.f466, Tryz.f467, Tryz.f468, Tryz.f469, Tryz.f470, Tryz.f471, Tryz.f472, Tryz.f473, Tryz.f474, Tryz.f475, Tryz.f476, Tryz.f477, Tryz.f478, Tryz.f479]
theorem kgs7 : fs7.any Func.goes = false := by kernel_rfl
noncomputable def fs8 : List Func := [Tryz.f480, Tryz.f481, Tryz.f482, Tryz.f483, Tryz.f484, Tryz.f485, Tryz.f486, Tryz.f487, Tryz.f488, Tryz.f489, Tryz.f490, Tryz.f491, Tryz.f492, Tryz.f493, Tryz.f494, Tryz.f495, Tryz.f496, Tryz.f497, Tryz.f498, Tryz.f499, Tryz.f500, Tryz.f501, Tryz.f502, Tryz.f503, Tryz.f504, Tryz.f505, Tryz.f506, Tryz.f507, Tryz.f508, Tryz.f509, Tryz.f510, Tryz.f511, Tryz.f512, Tryz.f513, Tryz.f514, Tryz.f515, Tryz.f516, Tryz.f517, Tryz.f518, Tryz.f519, Tryz.f520, Tryz.f521, Tryz.f522, Tryz.f523, Tryz.f524, Tryz.f525, Tryz.f526, Tryz.f527, Tryz.f528, Tryz.f529, Tryz.f530, Tryz.f531, Tryz.f532, Tryz.f533, Tryz.f534, Tryz.f535, Tryz.f536, Tryz.f537, Tryz.f538, Tryz.f539]
theorem kgs8 : fs8.any Func.goes = false := by kernel_rfl
noncomputable def fs9 : List Func := [Tryz.f540, Tryz.f541, Tryz.f542, Tryz.f543, Tryz.f544, Tryz.f545, Tryz.f546, Tryz.f547, Tryz.f548, Tryz.f549, Tryz.f550, Tryz.f551, Tryz.f552, Tryz.f553, Tryz.f554, Tryz.f555, Tryz.f556, Tryz.f557, Tryz.f558, Tryz.f559, Tryz.f560, Tryz.f561, Tryz.f562, Tryz.f563, Tryz.f564, Tryz.f565, Tryz.f566, Tryz.f567, Tryz.f568, Tryz.f569, Tryz.f570, Tryz.f571, Tryz.f572, Tryz.f573, Tryz.f574, Tryz.f575, Tryz.f576, Tryz.f577, Tryz.f578, Tryz.f579, Tryz.f580, Tryz.f581, Tryz.f582, Tryz.f583, Tryz.f584, Tryz.f585, Tryz.f586, Tryz.f587, Tryz.f588, Tryz.f589, Tryz.f590, Tryz.f591, Tryz.f592, Tryz.f593, Tryz.f594, Tryz.f595, Tryz.f596, Tryz.f597, Tryz.f598, Tryz.f599]
theorem kgs9 : fs9.any Func.goes = false := by kernel_rfl
noncomputable def fs10 : List Func := [Tryz.f600, Tryz.f601, Tryz.f602, Tryz.f603, Tryz.f604, Tryz.f605, Tryz.f606, Tryz.f607, Tryz.f608, Tryz.f609, Tryz.f610, Tryz.f611, Tryz.f612, Tryz.f613, Tryz.f614, Tryz.f615, Tryz.f616, Tryz.f617, Tryz.f618, Tryz.f619, Tryz.f620, Tryz.f621, Tryz.f622, Tryz.f623, Tryz.f624, Tryz.f625, Tryz.f626, Tryz.f627, Tryz.f628, Tryz.f629, Tryz.f630, Tryz.f631, Tryz.f632, Tryz.f633, Tryz.f634, Tryz.f635]
theorem kgs10 : fs10.any Func.goes = false := by kernel_rfl
theorem funcsAre : Tryz.prog.funcs.toList = fs0 ++ fs1 ++ fs2 ++ fs3 ++ fs4 ++ fs5 ++ fs6 ++ fs7 ++ fs8 ++ fs9 ++ fs10 := by kernel_rfl
theorem kgAll : Tryz.prog.funcs.any Func.goes = false := by
  rw [← Array.any_toList, funcsAre]
  simp only [List.any_append, kgs0, kgs1, kgs2, kgs3, kgs4, kgs5, kgs6, kgs7, kgs8, kgs9, kgs10, Bool.or_false]
theorem kgoes : Tryz.prog.goes 3 = false := by
  unfold Program.goes
  rw [cl, kgo1, kgAll, Bool.and_false]
  rfl
theorem kf0 : (Rows.sessionNobodyRow.wf (OpenSpec.ofChange Rows.sessionNobodySpec)) = true := by kernel_rfl
theorem kf1 : (laidOutB Tryz.prog) = true := by kernel_rfl
theorem kf2 : (mapsRowed Tryz.prog) = true := by kernel_rfl
theorem kf3 : (Tryz.f3.params.all (Tryz.prog.readableRec ·)) = true := by kernel_rfl
theorem kf4 : (namedTie Tryz.prog Rows.sessionNobodyRow.named Rows.sessionNobodySpec.vars) = true := by kernel_rfl
theorem kf5 : (Rows.sessionNobodyRow.stops == []) = true := by kernel_rfl
theorem kf6 : (Tryz.prog.stops == []) = true := by kernel_rfl
theorem kf7 : (Rows.sessionNobodyRow.knobs == []) = true := by kernel_rfl
theorem kf8 : (Tryz.prog.stopKnobs == []) = true := by kernel_rfl
theorem kf9 : (Rows.sessionNobodyRow.inPlace == Tryz.prog.inPlace 3) = true := by unfold Program.inPlace; rw [cl]; kernel_rfl
theorem kf10 : (Rows.sessionNobodyRow.unfollowed == Tryz.prog.unfollowed 3) = true := by rw [kunf]; kernel_rfl
theorem kf11 : (Rows.sessionNobodyRow.recurses == Tryz.prog.recurses 3) = true := by rw [krec]; kernel_rfl
theorem kf12 : (Rows.sessionNobodyRow.named == Tryz.prog.varsNamed 3) = true := by unfold Program.varsNamed; rw [cl]; kernel_rfl
theorem kf13 : (Rows.sessionNobodyRow.maps == (Tryz.f3.params.toList ++ Rows.sessionNobodySpec.plain.varTypes Tryz.prog).any (Tryz.prog.mapsRec ·)) = true := by kernel_rfl
theorem kf14 : (Rows.sessionNobodyRow.ifaces == (Tryz.f3.params.toList ++ Rows.sessionNobodySpec.plain.varTypes Tryz.prog).any (Tryz.prog.ifacesRec ·)) = true := by kernel_rfl
theorem kf15 : (Rows.sessionNobodyRow.mapsOut == Tryz.prog.mapsAmong Tryz.f3.resultTypes.toList) = true := by kernel_rfl
theorem kf16 : (Rows.sessionNobodyRow.loops == (Tryz.f3.params.toList ++ Rows.sessionNobodySpec.plain.varTypes Tryz.prog).any (Tryz.prog.loopsFrom ·)) = true := by kernel_rfl
theorem kf17 : (Rows.sessionNobodyRow.wideKeys == (Tryz.f3.params.toList ++ Rows.sessionNobodySpec.plain.varTypes Tryz.prog ++ Tryz.f3.resultTypes.toList).any (Tryz.prog.wideKeysFrom ·)) = true := by kernel_rfl
theorem kf18 : (Rows.sessionNobodySpec.vars.all (Tryz.prog.varReadable ·)) = true := by kernel_rfl
theorem kf19 : (Tryz.f3.resultTypes.all (fun t => Tryz.prog.readableRec t && decide (t < Tryz.prog.types.size))) = true := by kernel_rfl
theorem kf20 : (Rows.sessionNobodyRow.ifacesOut == Tryz.f3.resultTypes.toList.any (Tryz.prog.ifacesRec ·)) = true := by kernel_rfl
theorem kf21 : (Rows.sessionNobodyRow.loopsOut == Tryz.f3.resultTypes.toList.any (Tryz.prog.loopsFrom ·)) = true := by kernel_rfl
theorem kf22 : (Rows.sessionNobodyRow.plainKeys == Tryz.prog.plainKeys) = true := by kernel_rfl
theorem kf23 : (Rows.sessionNobodyRow.shortTexts.isNone) = true := by kernel_rfl
theorem kf24 : (Tryz.prog.stopsHeard) = true := by kernel_rfl
theorem kf25 : (Tryz.prog.mayEnter) = true := by kernel_rfl
theorem kf26 : (Rows.sessionNobodyRow.lifted == Tryz.prog.liftsFinal) = true := by kernel_rfl
theorem kf27 : (Tryz.prog.make == some Rows.sessionNobodyRow.make) = true := by kernel_rfl
theorem kf28 : (Rows.sessionNobodyRow.kinds == (if Rows.sessionNobodyRow.domain.isEmpty then [] else Tryz.f3.params.toList.map fun t => match Tryz.prog.underlying t with | some (.int k) => some k | _ => none)) = true := by kernel_rfl
theorem kf29 : (Rows.sessionNobodyRow.pinned == Rows.sessionNobodyRow.pinnedBy) = true := by kernel_rfl
theorem kf30 : (Rows.sessionNobodyRow.veiled == (Tryz.f3.params.toList ++ Rows.sessionNobodySpec.plain.varTypes Tryz.prog ++ Tryz.f3.resultTypes.toList).any (Tryz.prog.veiledRec ·)) = true := by kernel_rfl
theorem kf31 : (Rows.sessionNobodyRow.veiledFits Tryz.prog Tryz.f3.params.toList (Tryz.f3.params.toList ++ Rows.sessionNobodySpec.plain.varTypes Tryz.prog ++ Tryz.f3.resultTypes.toList)) = true := by kernel_rfl
theorem andT {a b : Bool} (ha : a = true) (hb : b = true) : (a && b) = true := by rw [ha, hb]; rfl
theorem closedFacts : joinedFacts Tryz.pinned.checked.prog 3 Tryz.f3 Rows.sessionNobodySpec Rows.sessionNobodyRow = true := (andT (andT (andT (andT (andT (andT (andT (andT (andT (andT (andT (andT (andT (andT (andT (andT (andT (andT (andT (andT (andT (andT (andT (andT (andT (andT (andT (andT (andT (andT (andT kf0 kf1) kf2) kf3) kf4) kf5) kf6) kf7) kf8) kf9) kf10) kf11) kf12) kf13) kf14) kf15) kf16) kf17) kf18) kf19) kf20) kf21) kf22) kf23) kf24) kf25) kf26) kf27) kf28) kf29) kf30) kf31)
theorem kw : Rows.sessionNobodyRow.wfByText (OpenSpec.ofChange Rows.sessionNobodySpec) = true := by kernel_rfl
theorem kfn : Tryz.prog.funcNamed "toponym/toponymlaw37.SessionNobody" = some 3 := by kernel_rfl
theorem kg : false = Rows.sessionNobodyRow.goesBy Tryz.pinned.checked.prog := by
  show false = (((Tryz.prog.funcNamed "toponym/toponymlaw37.SessionNobody").any Tryz.prog.goes) || false)
  rw [kfn, Option.any_some, kgoes]
  rfl
theorem kl : true = Tryz.prog.looks [] := by kernel_rfl
theorem kst : (Tryz.f3.params.toList.all fun u => !Tryz.prog.wantsStandIn u) = true := by kernel_rfl
end Go.Proofs.YtngclgnhgmaedaaGreatDoor.sessionNobody
