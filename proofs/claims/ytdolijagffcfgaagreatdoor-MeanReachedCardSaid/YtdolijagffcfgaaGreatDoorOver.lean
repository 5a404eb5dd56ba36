/-
  MeanReached returns true for every input: the row's statement, where the package variables that it lists hold what the program's text lays in them.
-/
import Derived.Test.YtdolijagffcfgaaGreatDoorRow
import Derived.Test.YtdolijagffcfgaaGreatDoorFactA
import Derived.Test.YtdolijagffcfgaaGreatDoorFactB
namespace Go.Proofs.YtdolijagffcfgaaGreatDoor.meanReached
open Go

theorem andL {a b : Bool} (h : a = true) (k : b = true) : (a && b) = true := by rw [h, k]; rfl
theorem closed : joinedFacts Tryz.prog 4 Tryz.f4 Rows.meanReachedSpec Rows.meanReachedRow = true := by
  unfold joinedFacts
  exact andL (andL (andL (andL (andL (andL (andL (andL (andL (andL (andL (andL (andL (andL (andL (andL (andL (andL (andL (andL (andL (andL (andL (andL (andL (andL (andL (andL (andL (andL (andL fact0 fact1) fact2) fact3) fact4) fact5) fact6) fact7) fact8) fact9) fact10) fact11) fact12) fact13) fact14) fact15) fact16) fact17) fact18) fact19) fact20) fact21) fact22) fact23) fact24) fact25) fact26) fact27) (by kernel_rfl)) fact29) fact30) fact31
theorem named3 : Tryz.prog.funcNamed "argus/arguslaw06.MeanReached" = some 4 := by kernel_rfl
theorem inst3 : Tryz.f4.isInstance Tryz.prog Rows.meanReachedRow.origin Rows.meanReachedRow.targs := of_decide_eq_true (by kernel_rfl)
theorem wrap3 : Tryz.f4.isWrapper Tryz.prog Rows.meanReachedRow.wrapper Rows.meanReachedRow.mainSum := by
  unfold Func.isWrapper
  first | (rw [if_pos (by decide +kernel)]; kernel_rfl) | (rw [if_neg (by decide +kernel)]; exact ⟨rfl, rfl⟩)

theorem over : Rows.meanReachedRow.holds Tryz.pinned (OpenSpec.ofChange Rows.meanReachedSpec) :=
  OpenClaim.holds_of_wide 4 Tryz.f4 rfl rfl rfl rfl rfl rfl rfl ⟨rfl, rfl, rfl, rfl, rfl⟩ rfl rfl rfl rfl rfl named3 Tryz.func4 closed inst3 wrap3
    (fun os started H enc _ => lifted os started H enc)

/-- ████ THE ROW's STATEMENT ████ -/
theorem proved : Rows.MeanReachedSaid :=
  over
end Go.Proofs.YtdolijagffcfgaaGreatDoor.meanReached
