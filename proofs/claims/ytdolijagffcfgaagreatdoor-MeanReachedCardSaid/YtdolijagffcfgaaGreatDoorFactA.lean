/-
  The closed facts of the row of MeanReached, each a theorem of its own, part 1 of 2.
-/
import Derived.Test.YtdolijagffcfgaaGreatDoorRows
import Derived.JoinedOf
namespace Go.Proofs.YtdolijagffcfgaaGreatDoor.meanReached
open Go
theorem fact0 : (Rows.meanReachedRow.wf (OpenSpec.ofChange Rows.meanReachedSpec)) = true := by kernel_rfl
theorem fact1 : (laidOutB Tryz.prog) = true := by kernel_rfl
theorem fact2 : (mapsRowed Tryz.prog) = true := by kernel_rfl
theorem fact3 : (Tryz.f4.params.all (Tryz.prog.readableRec ·)) = true := by kernel_rfl
theorem fact4 : (namedTie Tryz.prog Rows.meanReachedRow.named Rows.meanReachedSpec.vars) = true := by kernel_rfl
theorem fact5 : ((Rows.meanReachedRow.stops == [])) = true := by kernel_rfl
theorem fact6 : ((Tryz.prog.stops == [])) = true := by kernel_rfl
theorem fact7 : ((Rows.meanReachedRow.knobs == [])) = true := by kernel_rfl
theorem fact8 : ((Tryz.prog.stopKnobs == [])) = true := by kernel_rfl
theorem fact9 : ((Rows.meanReachedRow.inPlace == Tryz.prog.inPlace 4)) = true := by kernel_rfl
theorem fact10 : ((Rows.meanReachedRow.unfollowed == Tryz.prog.unfollowed 4)) = true := by kernel_rfl
theorem fact11 : ((Rows.meanReachedRow.recurses == Tryz.prog.recurses 4)) = true := by kernel_rfl
theorem fact12 : ((Rows.meanReachedRow.named == Tryz.prog.varsNamed 4)) = true := by kernel_rfl
theorem fact13 : ((Rows.meanReachedRow.maps == (Tryz.f4.params.toList ++ Rows.meanReachedSpec.plain.varTypes Tryz.prog).any (Tryz.prog.mapsRec ·))) = true := by kernel_rfl
theorem fact14 : ((Rows.meanReachedRow.ifaces == (Tryz.f4.params.toList ++ Rows.meanReachedSpec.plain.varTypes Tryz.prog).any (Tryz.prog.ifacesRec ·))) = true := by kernel_rfl
theorem fact15 : ((Rows.meanReachedRow.mapsOut == Tryz.prog.mapsAmong Tryz.f4.resultTypes.toList)) = true := by kernel_rfl
theorem fact16 : ((Rows.meanReachedRow.loops == (Tryz.f4.params.toList ++ Rows.meanReachedSpec.plain.varTypes Tryz.prog).any (Tryz.prog.loopsFrom ·))) = true := by kernel_rfl
theorem fact17 : ((Rows.meanReachedRow.wideKeys == (Tryz.f4.params.toList ++ Rows.meanReachedSpec.plain.varTypes Tryz.prog ++ Tryz.f4.resultTypes.toList).any (Tryz.prog.wideKeysFrom ·))) = true := by kernel_rfl
end Go.Proofs.YtdolijagffcfgaaGreatDoor.meanReached
