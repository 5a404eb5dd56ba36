/-
  The closed facts of the card of CheckPlaces, each a theorem of its own. No condition.
-/
import Derived.Test.YthagammlhhnpnaaGreatDoorRows
import Derived.SevenTiedAt
namespace Go.Proofs.YthagammlhhnpnaaGreatDoor.checkPlaces
open Go
theorem cardWf : Rows.checkPlacesRow.wfByText (OpenSpec.ofChange Rows.checkPlacesSpec) = true := by kernel_rfl
theorem cardMain : Tryz.prog.mainIs = some (true, "3b641faa28879d16c7f3c97a178d108c7bca07db67539994663bccd146f24068".toList) := by kernel_rfl
theorem cardStand : Tryz.prog.wantsStandIn 3 = false := by kernel_rfl
theorem cardLooks : true = Tryz.prog.looks [] := by kernel_rfl
end Go.Proofs.YthagammlhhnpnaaGreatDoor.checkPlaces
