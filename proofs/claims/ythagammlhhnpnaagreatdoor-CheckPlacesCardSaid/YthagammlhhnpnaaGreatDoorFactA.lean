/-
  The closed facts of the row of CheckPlaces, each a theorem of its own, part 1 of 2.
-/
import Derived.Test.YthagammlhhnpnaaGreatDoorRows
import Derived.JoinedOf
namespace Go.Proofs.YthagammlhhnpnaaGreatDoor.checkPlaces
open Go
theorem fact0 : (Rows.checkPlacesRow.wf (OpenSpec.ofChange Rows.checkPlacesSpec)) = true := by kernel_rfl
theorem fact1 : (laidOutB Tryz.prog) = true := by kernel_rfl
theorem fact2 : (mapsRowed Tryz.prog) = true := by kernel_rfl
theorem fact3 : (Tryz.f3.params.all (Tryz.prog.readableRec ·)) = true := by kernel_rfl
theorem fact4 : (namedTie Tryz.prog Rows.checkPlacesRow.named Rows.checkPlacesSpec.vars) = true := by kernel_rfl
theorem fact5 : ((Rows.checkPlacesRow.stops == [])) = true := by kernel_rfl
theorem fact6 : ((Tryz.prog.stops == [])) = true := by kernel_rfl
theorem fact7 : ((Rows.checkPlacesRow.knobs == [])) = true := by kernel_rfl
theorem fact8 : ((Tryz.prog.stopKnobs == [])) = true := by kernel_rfl
theorem fact9 : ((Rows.checkPlacesRow.inPlace == Tryz.prog.inPlace 3)) = true := by kernel_rfl
theorem fact10 : ((Rows.checkPlacesRow.unfollowed == Tryz.prog.unfollowed 3)) = true := by kernel_rfl
theorem fact11 : ((Rows.checkPlacesRow.recurses == Tryz.prog.recurses 3)) = true := by kernel_rfl
theorem fact12 : ((Rows.checkPlacesRow.named == Tryz.prog.varsNamed 3)) = true := by kernel_rfl
theorem fact13 : ((Rows.checkPlacesRow.maps == (Tryz.f3.params.toList ++ Rows.checkPlacesSpec.plain.varTypes Tryz.prog).any (Tryz.prog.mapsRec ·))) = true := by kernel_rfl
theorem fact14 : ((Rows.checkPlacesRow.ifaces == (Tryz.f3.params.toList ++ Rows.checkPlacesSpec.plain.varTypes Tryz.prog).any (Tryz.prog.ifacesRec ·))) = true := by kernel_rfl
theorem fact15 : ((Rows.checkPlacesRow.mapsOut == Tryz.prog.mapsAmong Tryz.f3.resultTypes.toList)) = true := by kernel_rfl
theorem fact16 : ((Rows.checkPlacesRow.loops == (Tryz.f3.params.toList ++ Rows.checkPlacesSpec.plain.varTypes Tryz.prog).any (Tryz.prog.loopsFrom ·))) = true := by kernel_rfl
theorem fact17 : ((Rows.checkPlacesRow.wideKeys == (Tryz.f3.params.toList ++ Rows.checkPlacesSpec.plain.varTypes Tryz.prog ++ Tryz.f3.resultTypes.toList).any (Tryz.prog.wideKeysFrom ·))) = true := by kernel_rfl
end Go.Proofs.YthagammlhhnpnaaGreatDoor.checkPlaces
