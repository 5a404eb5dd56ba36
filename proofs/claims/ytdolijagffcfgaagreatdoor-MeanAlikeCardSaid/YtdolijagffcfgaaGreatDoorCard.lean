/-
  MeanAlike of the chapter on meaning is true for every input: for every two heaps of objects and every two lists of values the call returns true and leaves its arguments as they were. Conditions: the package variables that the row lists start as the program's text lays them (tied to the pruned copy of the project); calls may recurse and outside bodies are as the row's cells say.
-/
import Derived.Test.YtdolijagffcfgaaGreatDoorOver
import Derived.Test.YtdolijagffcfgaaGreatDoorOwnTieD
import Derived.Test.YtdolijagffcfgaaGreatDoorCards
import Derived.Test.YtdolijagffcfgaaGreatDoorCardA
import Derived.Test.YtdolijagffcfgaaGreatDoorCardB
import Derived.SevenTiedAt
namespace Go.Proofs.YtdolijagffcfgaaGreatDoor.meanAlike
open Go

/-- ████ THE TIED CARD ████ -/
theorem card_holds : Rows.MeanAlikeCardSaid :=
  Claim7.holds_tied_plain_at .later [] [.data, .listed, .sentinel, .sentinel, .data, .data, .data] true (true, "c6407ce27c0758cba7e36dc58b8cf975daa0030af4dee989c9cb342756d5decd") true
    proved (fun _ h => by cases h) cardWf (fun _ h => by cases h) own_row_tie rfl ⟨rfl, rfl⟩ cardMain rfl
    (fun f fn hf hfn => by
      obtain rfl : f = 3 := Option.some.inj (named3.symm.trans hf) |>.symm
      obtain rfl : fn = Tryz.f3 := (Option.some.inj (Tryz.func3.symm.trans hfn)).symm
      exact ⟨cardLooks, fun j t ht => by
        rw [Tryz.params3] at ht
        have hm : t ∈ [22, 23, 22, 23] := by simpa using Array.mem_of_getElem? ht
        simp only [List.mem_cons, List.not_mem_nil, or_false] at hm
        rcases hm with rfl | rfl | rfl | rfl
        · exact cardStand
        · exact cardStand3
        · exact cardStand
        · exact cardStand3⟩)
    cardGoes
#print axioms card_holds
end Go.Proofs.YtdolijagffcfgaaGreatDoor.meanAlike
