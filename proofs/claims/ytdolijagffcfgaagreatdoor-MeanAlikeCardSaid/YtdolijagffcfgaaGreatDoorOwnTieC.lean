/-
  The row of MeanAlike is tied to the program's text, part 3 of 4: closed facts, each a theorem of its own, in texts of their own, so that each keeps within the memory that one process may take.
-/
import Derived.Test.YtdolijagffcfgaaGreatDoorRows
import Derived.LaidByTextLater
import Derived.SevenTiedAt
import Derived.Test.YtdolijagffcfgaaGreatDoorOwnTieB
namespace Go.Proofs.YtdolijagffcfgaaGreatDoor
open Go
theorem own_t9 : ∀ os tape, (DataW.laidRun Tryz.prog (varsWorld Tryz.prog 400 (varsId Tryz.prog) os tape).memory 8 (laidL.map (·.1))).map (fun x => decide x.2.Nodup && laidRowsB Tryz.prog (varsWorld Tryz.prog 400 (varsId Tryz.prog) os tape).memory x.2) = some true := fun _ _ => by kernel_rfl
end Go.Proofs.YtdolijagffcfgaaGreatDoor
