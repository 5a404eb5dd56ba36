/-
  The closed facts of the row of CheckPlaces, each a theorem of its own, part 2 of 2.
-/
import Derived.Test.YthagammlhhnpnaaGreatDoorRows
import Derived.JoinedOf
namespace Go.Proofs.YthagammlhhnpnaaGreatDoor.checkPlaces
open Go
theorem fact18 : (Rows.checkPlacesSpec.vars.all (Tryz.prog.varReadable ·)) = true := by kernel_rfl
theorem fact19 : (Tryz.f3.resultTypes.all (fun t => Tryz.prog.readableRec t && decide (t < Tryz.prog.types.size))) = true := by kernel_rfl
theorem fact20 : ((Rows.checkPlacesRow.ifacesOut == Tryz.f3.resultTypes.toList.any (Tryz.prog.ifacesRec ·))) = true := by kernel_rfl
theorem fact21 : ((Rows.checkPlacesRow.loopsOut == Tryz.f3.resultTypes.toList.any (Tryz.prog.loopsFrom ·))) = true := by kernel_rfl
theorem fact22 : ((Rows.checkPlacesRow.plainKeys == Tryz.prog.plainKeys)) = true := by kernel_rfl
theorem fact23 : (Rows.checkPlacesRow.shortTexts.isNone) = true := by kernel_rfl
theorem fact24 : (Tryz.prog.stopsHeard) = true := by kernel_rfl
theorem fact25 : (Tryz.prog.mayEnter) = true := by kernel_rfl
theorem fact26 : ((Rows.checkPlacesRow.lifted == Tryz.prog.liftsFinal)) = true := by kernel_rfl
theorem fact27 : ((Tryz.prog.make == some Rows.checkPlacesRow.make)) = true := by kernel_rfl
theorem fact28 : ((Rows.checkPlacesRow.kinds == (if Rows.checkPlacesRow.domain.isEmpty then [] else Tryz.f3.params.toList.map fun t => match Tryz.prog.underlying t with | some (.int k) => some k | _ => none))) = true := by kernel_rfl
theorem fact29 : ((Rows.checkPlacesRow.pinned == Rows.checkPlacesRow.pinnedBy)) = true := by kernel_rfl
theorem fact30 : ((Rows.checkPlacesRow.veiled == (Tryz.f3.params.toList ++ Rows.checkPlacesSpec.plain.varTypes Tryz.prog ++ Tryz.f3.resultTypes.toList).any (Tryz.prog.veiledRec ·))) = true := by kernel_rfl
theorem fact31 : (Rows.checkPlacesRow.veiledFits Tryz.prog Tryz.f3.params.toList (Tryz.f3.params.toList ++ Rows.checkPlacesSpec.plain.varTypes Tryz.prog ++ Tryz.f3.resultTypes.toList)) = true := by kernel_rfl
end Go.Proofs.YthagammlhhnpnaaGreatDoor.checkPlaces
