/-
  The closed facts of the row of MeanAlike, each a theorem of its own, part 1 of 2.
-/
import Derived.Test.YtdolijagffcfgaaGreatDoorRows
import Derived.JoinedOf
namespace Go.Proofs.YtdolijagffcfgaaGreatDoor.meanAlike
open Go
theorem fact0 : (Rows.meanAlikeRow.wf (OpenSpec.ofChange Rows.meanAlikeSpec)) = true := by kernel_rfl
theorem fact1 : (laidOutB Tryz.prog) = true := by kernel_rfl
theorem fact2 : (mapsRowed Tryz.prog) = true := by kernel_rfl
theorem fact3 : (Tryz.f3.params.all (Tryz.prog.readableRec ·)) = true := by kernel_rfl
theorem fact4 : (namedTie Tryz.prog Rows.meanAlikeRow.named Rows.meanAlikeSpec.vars) = true := by kernel_rfl
theorem fact5 : ((Rows.meanAlikeRow.stops == [])) = true := by kernel_rfl
theorem fact6 : ((Tryz.prog.stops == [])) = true := by kernel_rfl
theorem fact7 : ((Rows.meanAlikeRow.knobs == [])) = true := by kernel_rfl
theorem fact8 : ((Tryz.prog.stopKnobs == [])) = true := by kernel_rfl
theorem fact9 : ((Rows.meanAlikeRow.inPlace == Tryz.prog.inPlace 3)) = true := by kernel_rfl
theorem fact10 : ((Rows.meanAlikeRow.unfollowed == Tryz.prog.unfollowed 3)) = true := by kernel_rfl
theorem fact11 : ((Rows.meanAlikeRow.recurses == Tryz.prog.recurses 3)) = true := by kernel_rfl
theorem fact12 : ((Rows.meanAlikeRow.named == Tryz.prog.varsNamed 3)) = true := by kernel_rfl
theorem fact13 : ((Rows.meanAlikeRow.maps == (Tryz.f3.params.toList ++ Rows.meanAlikeSpec.plain.varTypes Tryz.prog).any (Tryz.prog.mapsRec ·))) = true := by kernel_rfl
theorem fact14 : ((Rows.meanAlikeRow.ifaces == (Tryz.f3.params.toList ++ Rows.meanAlikeSpec.plain.varTypes Tryz.prog).any (Tryz.prog.ifacesRec ·))) = true := by kernel_rfl
theorem fact15 : ((Rows.meanAlikeRow.mapsOut == Tryz.prog.mapsAmong Tryz.f3.resultTypes.toList)) = true := by kernel_rfl
theorem fact16 : ((Rows.meanAlikeRow.loops == (Tryz.f3.params.toList ++ Rows.meanAlikeSpec.plain.varTypes Tryz.prog).any (Tryz.prog.loopsFrom ·))) = true := by kernel_rfl
theorem fact17 : ((Rows.meanAlikeRow.wideKeys == (Tryz.f3.params.toList ++ Rows.meanAlikeSpec.plain.varTypes Tryz.prog ++ Tryz.f3.resultTypes.toList).any (Tryz.prog.wideKeysFrom ·))) = true := by kernel_rfl
end Go.Proofs.YtdolijagffcfgaaGreatDoor.meanAlike
