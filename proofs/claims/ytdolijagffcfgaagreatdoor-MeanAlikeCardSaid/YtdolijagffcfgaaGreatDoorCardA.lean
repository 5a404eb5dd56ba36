/-
  The closed facts of the card of MeanAlike, each a theorem of its own. No condition.
-/
import Derived.Test.YtdolijagffcfgaaGreatDoorRows
import Derived.SevenTiedAt
namespace Go.Proofs.YtdolijagffcfgaaGreatDoor.meanAlike
open Go
theorem cardWf : Rows.meanAlikeRow.wfByText (OpenSpec.ofChange Rows.meanAlikeSpec) = true := by kernel_rfl
theorem cardMain : Tryz.prog.mainIs = some (true, "c6407ce27c0758cba7e36dc58b8cf975daa0030af4dee989c9cb342756d5decd".toList) := by kernel_rfl
theorem cardStand : Tryz.prog.wantsStandIn 22 = false := by kernel_rfl
theorem cardStand3 : Tryz.prog.wantsStandIn 23 = false := by kernel_rfl
theorem cardLooks : true = Tryz.prog.looks [] := by kernel_rfl
end Go.Proofs.YtdolijagffcfgaaGreatDoor.meanAlike
