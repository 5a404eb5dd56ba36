/-
  The row of MeanAlike is tied to the program's text, part 2 of 4: closed facts, each a theorem of its own, in texts of their own, so that each keeps within the memory that one process may take.
-/
import Derived.Test.YtdolijagffcfgaaGreatDoorRows
import Derived.LaidByTextLater
import Derived.SevenTiedAt
import Derived.Test.YtdolijagffcfgaaGreatDoorOwnTieA
namespace Go.Proofs.YtdolijagffcfgaaGreatDoor
open Go
theorem own_t7 : ∀ os tape, varsDone Tryz.prog 400 (varsId Tryz.prog) os tape = true := fun _ _ => by kernel_rfl
theorem own_t8 : ∀ os tape, (DataW.laidRun Tryz.prog (varsWorld Tryz.prog 400 (varsId Tryz.prog) os tape).memory 8 (laidL.map (·.1))).map (·.1) = some laidL := fun _ _ => by kernel_rfl
end Go.Proofs.YtdolijagffcfgaaGreatDoor
