/-
  The closed facts of the row of MeanReached, each a theorem of its own, part 2 of 2.
-/
import Derived.Test.YtdolijagffcfgaaGreatDoorRows
import Derived.JoinedOf
namespace Go.Proofs.YtdolijagffcfgaaGreatDoor.meanReached
open Go
theorem fact18 : (Rows.meanReachedSpec.vars.all (Tryz.prog.varReadable ·)) = true := by kernel_rfl
theorem fact19 : (Tryz.f4.resultTypes.all (fun t => Tryz.prog.readableRec t && decide (t < Tryz.prog.types.size))) = true := by kernel_rfl
theorem fact20 : ((Rows.meanReachedRow.ifacesOut == Tryz.f4.resultTypes.toList.any (Tryz.prog.ifacesRec ·))) = true := by kernel_rfl
theorem fact21 : ((Rows.meanReachedRow.loopsOut == Tryz.f4.resultTypes.toList.any (Tryz.prog.loopsFrom ·))) = true := by kernel_rfl
theorem fact22 : ((Rows.meanReachedRow.plainKeys == Tryz.prog.plainKeys)) = true := by kernel_rfl
theorem fact23 : (Rows.meanReachedRow.shortTexts.isNone) = true := by kernel_rfl
theorem fact24 : (Tryz.prog.stopsHeard) = true := by kernel_rfl
theorem fact25 : (Tryz.prog.mayEnter) = true := by kernel_rfl
theorem fact26 : ((Rows.meanReachedRow.lifted == Tryz.prog.liftsFinal)) = true := by kernel_rfl
theorem fact27 : ((Tryz.prog.make == some Rows.meanReachedRow.make)) = true := by kernel_rfl
theorem fact28 : ((Rows.meanReachedRow.kinds == (if Rows.meanReachedRow.domain.isEmpty then [] else Tryz.f4.params.toList.map fun t => match Tryz.prog.underlying t with | some (.int k) => some k | _ => none))) = true := by kernel_rfl
theorem fact29 : ((Rows.meanReachedRow.pinned == Rows.meanReachedRow.pinnedBy)) = true := by kernel_rfl
theorem fact30 : ((Rows.meanReachedRow.veiled == (Tryz.f4.params.toList ++ Rows.meanReachedSpec.plain.varTypes Tryz.prog ++ Tryz.f4.resultTypes.toList).any (Tryz.prog.veiledRec ·))) = true := by kernel_rfl
theorem fact31 : (Rows.meanReachedRow.veiledFits Tryz.prog Tryz.f4.params.toList (Tryz.f4.params.toList ++ Rows.meanReachedSpec.plain.varTypes Tryz.prog ++ Tryz.f4.resultTypes.toList)) = true := by kernel_rfl
end Go.Proofs.YtdolijagffcfgaaGreatDoor.meanReached
