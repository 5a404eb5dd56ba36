/-
  MeanAlike returns true for every input: the row's statement, where the package variables that it lists hold what the program's text lays in them.
-/
import Derived.Test.YtdolijagffcfgaaGreatDoorRow
import Derived.Test.YtdolijagffcfgaaGreatDoorFactA
import Derived.Test.YtdolijagffcfgaaGreatDoorFactB
namespace Go.Proofs.YtdolijagffcfgaaGreatDoor.meanAlike
open Go

theorem andL {a b : Bool} (h : a = true) (k : b = true) : (a && b) = true := by rw [h, k]; rfl
theorem closed : joinedFacts Tryz.prog 3 Tryz.f3 Rows.meanAlikeSpec Rows.meanAlikeRow = true := by
  unfold joinedFacts
  exact andL (andL (andL (andL (andL (andL (andL (andL (andL (andL (andL (andL (andL (andL (andL (andL (andL (andL (andL (andL (andL (andL (andL (andL (andL (andL (andL (andL (andL (andL (andL fact0 fact1) fact2) fact3) fact4) fact5) fact6) fact7) fact8) fact9) fact10) fact11) fact12) fact13) fact14) fact15) fact16) fact17) fact18) fact19) fact20) fact21) fact22) fact23) fact24) fact25) fact26) fact27) (by kernel_rfl)) fact29) fact30) fact31
theorem named3 : Tryz.prog.funcNamed "argus/arguslaw06.MeanAlike" = some 3 := by kernel_rfl
theorem inst3 : Tryz.f3.isInstance Tryz.prog Rows.meanAlikeRow.origin Rows.meanAlikeRow.targs := of_decide_eq_true (by kernel_rfl)
theorem wrap3 : Tryz.f3.isWrapper Tryz.prog Rows.meanAlikeRow.wrapper Rows.meanAlikeRow.mainSum := by
  unfold Func.isWrapper
  first | (rw [if_pos (by decide +kernel)]; kernel_rfl) | (rw [if_neg (by decide +kernel)]; exact ⟨rfl, rfl⟩)

theorem over : Rows.meanAlikeRow.holds Tryz.pinned (OpenSpec.ofChange Rows.meanAlikeSpec) :=
  OpenClaim.holds_of_wide 3 Tryz.f3 rfl rfl rfl rfl rfl rfl rfl ⟨rfl, rfl, rfl, rfl, rfl⟩ rfl rfl rfl rfl rfl named3 Tryz.func3 closed inst3 wrap3
    (fun os started H enc _ => lifted os started H enc)

/-- ████ THE ROW's STATEMENT ████ -/
theorem proved : Rows.MeanAlikeSaid :=
  over
end Go.Proofs.YtdolijagffcfgaaGreatDoor.meanAlike
