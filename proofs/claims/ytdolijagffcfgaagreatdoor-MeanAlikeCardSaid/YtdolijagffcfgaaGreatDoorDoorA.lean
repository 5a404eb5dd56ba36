/-
  The memory that the door of the variables leaves: the row of MeanAlike has an input that fits.
-/
import Derived.Test.YtdolijagffcfgaaGreatDoorOwnTieA
import Derived.ProofKit
import Derived.LaidMore
import Derived.OpenShut
import Derived.Stop.Joined
import Derived.MakeChecks
namespace Go.Proofs.YtdolijagffcfgaaGreatDoor.meanAlike
open Go Go.ChangeShapes Go.WideShapes Go.ChangeAt Go.RowKit
set_option linter.unusedVariables false

theorem own : ownKnob Tryz.prog.godebug = none := by kernel_rfl

theorem door_met1 (os : Os) (args : Array Value) : (DataW.laidRun Tryz.prog ((World.doorLaid Tryz.prog 400 os).forCall (fun _ _ => 0) ⟨#[], args, []⟩).memory 8 (laidL.map (·.1))).map (·.1) = some laidL := by kernel_rfl
theorem door_met2 (os : Os) (args : Array Value) : (DataW.laidRun Tryz.prog ((World.doorLaid Tryz.prog 400 os).forCall (fun _ _ => 0) ⟨#[], args, []⟩).memory 8 (laidL.map (·.1))).map (fun x => decide x.2.Nodup && laidRowsB Tryz.prog ((World.doorLaid Tryz.prog 400 os).forCall (fun _ _ => 0) ⟨#[], args, []⟩).memory x.2) = some true := by kernel_rfl
theorem door_met (os : Os) (args : Array Value) : laidMetH Tryz.prog laidL ((World.doorLaid Tryz.prog 400 os).forCall (fun _ _ => 0) ⟨#[], args, []⟩).memory := by
  rw [MakeChecks.laidMetH_plain _ _ _ own_t10]
  exact laidMet_of_run' 8 (door_met1 os args) (door_met2 os args)
end Go.Proofs.YtdolijagffcfgaaGreatDoor.meanAlike
