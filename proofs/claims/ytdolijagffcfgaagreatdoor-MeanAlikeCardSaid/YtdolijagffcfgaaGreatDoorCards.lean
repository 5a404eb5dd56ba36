/-
  DERIVED. GIVEN WITH THE SEED: THE CARDS: each row of YtdolijagffcfgaaGreatDoorRows.lean that lists a variable, with what it lists TIED to the program's text (the seventh form; the later family's looks); each row that meets fmt, with fmt's text TOLD by the authors' own Lean function (tested against real Go, not proved from fmt's source: count such statements apart). THE CARD IS WHAT COUNTS. Prove the row's statement (the work); the ties are given (YtdolijagffcfgaaGreatDoorTie.lean); close each card by the builder's one call (the guide's Derived/Test/ToyasCard.lean, 'card_holds'). Laid BY PROGRAM, IN A SANDBOX (cutbox-door.mjs). By AI agents, Wed Nov 11 2026. No macro, syntax, notation, axiom, sorry.
-/
import Derived.Test.YtdolijagffcfgaaGreatDoorRows
import GoSem.ClaimSeven
namespace Go.Proofs.YtdolijagffcfgaaGreatDoor
namespace Rows

/-- THE TIED CARD OF 'arguslaw06.MeanAlike'. -/
def meanAlikeCard : Claim7 := { stood := { row := meanAlikeRow, standIns := [], harness := (true, "c6407ce27c0758cba7e36dc58b8cf975daa0030af4dee989c9cb342756d5decd"), looks := true }, kinds := [], alts := [], laidByText := true, laidKinds := [.data, .listed, .sentinel, .sentinel, .data, .data, .data], laidTests := true, laidLooks := .later }
def MeanAlikeCardSaid : Prop := Claim7.holds Tryz.pinned (.plain (OpenSpec.ofChange meanAlikeSpec)) meanAlikeCard

/-- THE TIED CARD OF 'arguslaw06.MeanReached'. -/
def meanReachedCard : Claim7 := { stood := { row := meanReachedRow, standIns := [], harness := (true, "c6407ce27c0758cba7e36dc58b8cf975daa0030af4dee989c9cb342756d5decd"), looks := true }, kinds := [], alts := [], laidByText := true, laidKinds := [.data, .listed, .sentinel, .sentinel, .data, .data, .data], laidTests := true, laidLooks := .later }
def MeanReachedCardSaid : Prop := Claim7.holds Tryz.pinned (.plain (OpenSpec.ofChange meanReachedSpec)) meanReachedCard

/-- THE SECOND FORM's CARD OF 'arguslaw06.MeanAlike'. -/
def meanAlikeUptoCard : Claim7 := { stood := { row := meanAlikeUptoRow, standIns := [], harness := (true, "c6407ce27c0758cba7e36dc58b8cf975daa0030af4dee989c9cb342756d5decd"), looks := true }, kinds := [], alts := [], laidByText := true, laidKinds := [.data, .listed, .sentinel, .sentinel, .data, .data, .data], laidTests := true, laidLooks := .later }
def MeanAlikeUptoCardSaid : Prop := Claim7.holds Tryz.pinned (.plain (OpenSpec.upto meanAlikeSpec)) meanAlikeUptoCard

/-- THE SECOND FORM's CARD OF 'arguslaw06.MeanReached'. -/
def meanReachedUptoCard : Claim7 := { stood := { row := meanReachedUptoRow, standIns := [], harness := (true, "c6407ce27c0758cba7e36dc58b8cf975daa0030af4dee989c9cb342756d5decd"), looks := true }, kinds := [], alts := [], laidByText := true, laidKinds := [.data, .listed, .sentinel, .sentinel, .data, .data, .data], laidTests := true, laidLooks := .later }
def MeanReachedUptoCardSaid : Prop := Claim7.holds Tryz.pinned (.plain (OpenSpec.upto meanReachedSpec)) meanReachedUptoCard
end Rows
end Go.Proofs.YtdolijagffcfgaaGreatDoor
