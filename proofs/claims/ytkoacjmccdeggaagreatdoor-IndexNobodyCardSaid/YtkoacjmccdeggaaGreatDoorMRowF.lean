/- IndexNobody: a part of its proof. No condition. -/
import Derived.Test.YtkoacjmccdeggaaGreatDoorTie
import Derived.Test.YtkoacjmccdeggaaGreatDoorCards
import Derived.ProofKit
import Derived.JoinedOf
import Derived.SevenTiedAt
namespace Go.Proofs.YtkoacjmccdeggaaGreatDoor.indexNobody
set_option maxRecDepth 100000
theorem kf0 : (Rows.indexNobodyRow.wf (OpenSpec.ofChange Rows.indexNobodySpec)) = true := by kernel_rfl
theorem kf1 : (laidOutB Tryz.prog) = true := by kernel_rfl
theorem kf2 : (mapsRowed Tryz.prog) = true := by kernel_rfl
theorem kf3 : (Tryz.f3.params.all (Tryz.prog.readableRec ·)) = true := by kernel_rfl
theorem kf4 : (namedTie Tryz.prog Rows.indexNobodyRow.named Rows.indexNobodySpec.vars) = true := by kernel_rfl
theorem kf5 : (Rows.indexNobodyRow.stops == []) = true := by kernel_rfl
theorem kf6 : (Tryz.prog.stops == []) = true := by kernel_rfl
theorem kf7 : (Rows.indexNobodyRow.knobs == []) = true := by kernel_rfl
theorem kf8 : (Tryz.prog.stopKnobs == []) = true := by kernel_rfl
theorem kf9 : (Rows.indexNobodyRow.inPlace == Tryz.prog.inPlace 3) = true := by kernel_rfl
theorem kf10 : (Rows.indexNobodyRow.unfollowed == Tryz.prog.unfollowed 3) = true := by kernel_rfl
theorem kf11 : (Rows.indexNobodyRow.recurses == Tryz.prog.recurses 3) = true := by kernel_rfl
theorem kf12 : (Rows.indexNobodyRow.named == Tryz.prog.varsNamed 3) = true := by kernel_rfl
theorem kf13 : (Rows.indexNobodyRow.maps == (Tryz.f3.params.toList ++ Rows.indexNobodySpec.plain.varTypes Tryz.prog).any (Tryz.prog.mapsRec ·)) = true := by kernel_rfl
theorem kf14 : (Rows.indexNobodyRow.ifaces == (Tryz.f3.params.toList ++ Rows.indexNobodySpec.plain.varTypes Tryz.prog).any (Tryz.prog.ifacesRec ·)) = true := by kernel_rfl
theorem kf15 : (Rows.indexNobodyRow.mapsOut == Tryz.prog.mapsAmong Tryz.f3.resultTypes.toList) = true := by kernel_rfl
theorem kf16 : (Rows.indexNobodyRow.loops == (Tryz.f3.params.toList ++ Rows.indexNobodySpec.plain.varTypes Tryz.prog).any (Tryz.prog.loopsFrom ·)) = true := by kernel_rfl
theorem kf17 : (Rows.indexNobodyRow.wideKeys == (Tryz.f3.params.toList ++ Rows.indexNobodySpec.plain.varTypes Tryz.prog ++ Tryz.f3.resultTypes.toList).any (Tryz.prog.wideKeysFrom ·)) = true := by kernel_rfl
theorem kf18 : (Rows.indexNobodySpec.vars.all (Tryz.prog.varReadable ·)) = true := by kernel_rfl
theorem kf19 : (Tryz.f3.resultTypes.all (fun t => Tryz.prog.readableRec t && decide (t < Tryz.prog.types.size))) = true := by kernel_rfl
theorem kf20 : (Rows.indexNobodyRow.ifacesOut == Tryz.f3.resultTypes.toList.any (Tryz.prog.ifacesRec ·)) = true := by kernel_rfl
theorem kf21 : (Rows.indexNobodyRow.loopsOut == Tryz.f3.resultTypes.toList.any (Tryz.prog.loopsFrom ·)) = true := by kernel_rfl
theorem kf22 : (Rows.indexNobodyRow.plainKeys == Tryz.prog.plainKeys) = true := by kernel_rfl
theorem kf23 : (Rows.indexNobodyRow.shortTexts.isNone) = true := by kernel_rfl
theorem kf24 : (Tryz.prog.stopsHeard) = true := by kernel_rfl
theorem kf25 : (Tryz.prog.mayEnter) = true := by kernel_rfl
theorem kf26 : (Rows.indexNobodyRow.lifted == Tryz.prog.liftsFinal) = true := by kernel_rfl
theorem kf27 : (Tryz.prog.make == some Rows.indexNobodyRow.make) = true := by kernel_rfl
theorem kf28 : (Rows.indexNobodyRow.kinds == (if Rows.indexNobodyRow.domain.isEmpty then [] else Tryz.f3.params.toList.map fun t => match Tryz.prog.underlying t with | some (.int k) => some k | _ => none)) = true := by kernel_rfl
theorem kf29 : (Rows.indexNobodyRow.pinned == Rows.indexNobodyRow.pinnedBy) = true := by kernel_rfl
theorem kf30 : (Rows.indexNobodyRow.veiled == (Tryz.f3.params.toList ++ Rows.indexNobodySpec.plain.varTypes Tryz.prog ++ Tryz.f3.resultTypes.toList).any (Tryz.prog.veiledRec ·)) = true := by kernel_rfl
theorem kf31 : (Rows.indexNobodyRow.veiledFits Tryz.prog Tryz.f3.params.toList (Tryz.f3.params.toList ++ Rows.indexNobodySpec.plain.varTypes Tryz.prog ++ Tryz.f3.resultTypes.toList)) = true := by kernel_rfl
theorem andT {a b : Bool} (ha : a = true) (hb : b = true) : (a && b) = true := by rw [ha, hb]; rfl
theorem closedFacts : joinedFacts Tryz.pinned.checked.prog 3 Tryz.f3 Rows.indexNobodySpec Rows.indexNobodyRow = true := (andT (andT (andT (andT (andT (andT (andT (andT (andT (andT (andT (andT (andT (andT (andT (andT (andT (andT (andT (andT (andT (andT (andT (andT (andT (andT (andT (andT (andT (andT (andT kf0 kf1) kf2) kf3) kf4) kf5) kf6) kf7) kf8) kf9) kf10) kf11) kf12) kf13) kf14) kf15) kf16) kf17) kf18) kf19) kf20) kf21) kf22) kf23) kf24) kf25) kf26) kf27) kf28) kf29) kf30) kf31)
theorem kw : Rows.indexNobodyRow.wfByText (OpenSpec.ofChange Rows.indexNobodySpec) = true := by kernel_rfl
theorem kg : false = Rows.indexNobodyRow.goesBy Tryz.pinned.checked.prog := by kernel_rfl
theorem kl : true = Tryz.prog.looks [] := by kernel_rfl
theorem kfn : Tryz.prog.funcNamed "toponym/toponymlaw33.IndexNobody" = some 3 := by kernel_rfl
theorem kst : (Tryz.f3.params.toList.all fun u => !Tryz.prog.wantsStandIn u) = true := by kernel_rfl
end Go.Proofs.YtkoacjmccdeggaaGreatDoor.indexNobody
