/-
  The row of MeanAlike is tied to the program's text, part 4 of 4: closed facts, each a theorem of its own, in texts of their own, so that each keeps within the memory that one process may take.
-/
import Derived.Test.YtdolijagffcfgaaGreatDoorRows
import Derived.LaidByTextLater
import Derived.SevenTiedAt
import Derived.Test.YtdolijagffcfgaaGreatDoorOwnTieC
namespace Go.Proofs.YtdolijagffcfgaaGreatDoor
open Go
theorem own_tie : Tryz.prog.laidByTextLater laidL [.data, .listed, .sentinel, .sentinel, .data, .data, .data] true :=
  Program.laidByTextLater_by_run 400 8 own_t1 own_t2 own_t3 own_t4 own_t5 own_t6 own_t7 own_t8 own_t9 own_t10
theorem own_row_tie : Rows.meanAlikeRow.laidByTextAt .later Tryz.pinned [.data, .listed, .sentinel, .sentinel, .data, .data, .data] true :=
  OpenClaim.laidByTextAt_later rfl rfl own_tie (by kernel_rfl)
end Go.Proofs.YtdolijagffcfgaaGreatDoor
