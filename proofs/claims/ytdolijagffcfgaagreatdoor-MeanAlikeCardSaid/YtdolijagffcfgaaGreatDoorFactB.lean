/-
  The closed facts of the row of MeanAlike, each a theorem of its own, part 2 of 2.
-/
import Derived.Test.YtdolijagffcfgaaGreatDoorRows
import Derived.JoinedOf
namespace Go.Proofs.YtdolijagffcfgaaGreatDoor.meanAlike
open Go
theorem fact18 : (Rows.meanAlikeSpec.vars.all (Tryz.prog.varReadable ·)) = true := by kernel_rfl
theorem fact19 : (Tryz.f3.resultTypes.all (fun t => Tryz.prog.readableRec t && decide (t < Tryz.prog.types.size))) = true := by kernel_rfl
theorem fact20 : ((Rows.meanAlikeRow.ifacesOut == Tryz.f3.resultTypes.toList.any (Tryz.prog.ifacesRec ·))) = true := by kernel_rfl
theorem fact21 : ((Rows.meanAlikeRow.loopsOut == Tryz.f3.resultTypes.toList.any (Tryz.prog.loopsFrom ·))) = true := by kernel_rfl
theorem fact22 : ((Rows.meanAlikeRow.plainKeys == Tryz.prog.plainKeys)) = true := by kernel_rfl
theorem fact23 : (Rows.meanAlikeRow.shortTexts.isNone) = true := by kernel_rfl
theorem fact24 : (Tryz.prog.stopsHeard) = true := by kernel_rfl
theorem fact25 : (Tryz.prog.mayEnter) = true := by kernel_rfl
theorem fact26 : ((Rows.meanAlikeRow.lifted == Tryz.prog.liftsFinal)) = true := by kernel_rfl
theorem fact27 : ((Tryz.prog.make == some Rows.meanAlikeRow.make)) = true := by kernel_rfl
theorem fact28 : ((Rows.meanAlikeRow.kinds == (if Rows.meanAlikeRow.domain.isEmpty then [] else Tryz.f3.params.toList.map fun t => match Tryz.prog.underlying t with | some (.int k) => some k | _ => none))) = true := by kernel_rfl
theorem fact29 : ((Rows.meanAlikeRow.pinned == Rows.meanAlikeRow.pinnedBy)) = true := by kernel_rfl
theorem fact30 : ((Rows.meanAlikeRow.veiled == (Tryz.f3.params.toList ++ Rows.meanAlikeSpec.plain.varTypes Tryz.prog ++ Tryz.f3.resultTypes.toList).any (Tryz.prog.veiledRec ·))) = true := by kernel_rfl
theorem fact31 : (Rows.meanAlikeRow.veiledFits Tryz.prog Tryz.f3.params.toList (Tryz.f3.params.toList ++ Rows.meanAlikeSpec.plain.varTypes Tryz.prog ++ Tryz.f3.resultTypes.toList)) = true := by kernel_rfl
end Go.Proofs.YtdolijagffcfgaaGreatDoor.meanAlike
