/-
  The row of CheckPlaces is tied to the program's text, part 3 of 3: closed facts, each a theorem of its own, in texts of their own, so that each keeps within the memory that one process may take.
-/
import Derived.Test.YthagammlhhnpnaaGreatDoorRows
import Derived.LaidByTextLater
import Derived.SevenTiedAt
import Derived.Test.YthagammlhhnpnaaGreatDoorOwnTieB
namespace Go.Proofs.YthagammlhhnpnaaGreatDoor
open Go
theorem own_t9 : ∀ os tape, (DataW.laidRun Tryz.prog (varsWorld Tryz.prog 400 (varsId Tryz.prog) os tape).memory 8 (laidL.map (·.1))).map (fun x => decide x.2.Nodup && laidRowsB Tryz.prog (varsWorld Tryz.prog 400 (varsId Tryz.prog) os tape).memory x.2) = some true := fun _ _ => by kernel_rfl
theorem own_tie : Tryz.prog.laidByTextLater laidL [.data, .listed, .sentinel, .sentinel, .data, .data, .data] true :=
  Program.laidByTextLater_by_run 400 8 own_t1 own_t2 own_t3 own_t4 own_t5 own_t6 own_t7 own_t8 own_t9 own_t10
theorem own_row_tie : Rows.checkPlacesRow.laidByTextAt .later Tryz.pinned [.data, .listed, .sentinel, .sentinel, .data, .data, .data] true :=
  OpenClaim.laidByTextAt_later rfl rfl own_tie own_noUnsafe
end Go.Proofs.YthagammlhhnpnaaGreatDoor
