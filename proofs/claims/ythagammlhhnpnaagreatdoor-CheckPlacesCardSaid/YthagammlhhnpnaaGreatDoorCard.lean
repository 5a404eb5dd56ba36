/-
  CheckPlaces of the chapter on check is true for every input: for every four numbers the call returns true and leaves its arguments as they were. Conditions: the package variables that the row lists start as the program's text lays them (tied to the pruned copy of the project); calls may recurse and outside bodies are as the row's cells say.
-/
import Derived.Test.YthagammlhhnpnaaGreatDoorOver
import Derived.Test.YthagammlhhnpnaaGreatDoorOwnTieD
import Derived.Test.YthagammlhhnpnaaGreatDoorCards
import Derived.Test.YthagammlhhnpnaaGreatDoorCardA
import Derived.Test.YthagammlhhnpnaaGreatDoorCardB
import Derived.SevenTiedAt
namespace Go.Proofs.YthagammlhhnpnaaGreatDoor.checkPlaces
open Go

/-- ████ THE TIED CARD ████ -/
theorem card_holds : Rows.CheckPlacesCardSaid :=
  Claim7.holds_tied_plain_at .later [] [.data, .listed, .sentinel, .sentinel, .data, .data, .data] true (true, "3b641faa28879d16c7f3c97a178d108c7bca07db67539994663bccd146f24068") true
    proved (fun _ h => by cases h) cardWf (fun _ h => by cases h) own_row_tie rfl ⟨rfl, rfl⟩ cardMain rfl
    (fun f fn hf hfn => by
      obtain rfl : f = 3 := Option.some.inj (named3.symm.trans hf) |>.symm
      obtain rfl : fn = Tryz.f3 := (Option.some.inj (Tryz.func3.symm.trans hfn)).symm
      exact ⟨cardLooks, fun j t ht => by
        rw [Tryz.params3] at ht
        have hm : t ∈ [3, 3, 3, 3] := by simpa using Array.mem_of_getElem? ht
        obtain rfl : t = 3 := by simpa using hm
        exact cardStand⟩)
    cardGoes
#print axioms card_holds
end Go.Proofs.YthagammlhhnpnaaGreatDoor.checkPlaces
