/-
  No body of the translated program starts a goroutine: so the call of MeanAlike starts none. No condition.
-/
import Derived.Test.YtdolijagffcfgaaGreatDoorRows
import Derived.SevenTiedAt
namespace Go.Proofs.YtdolijagffcfgaaGreatDoor.meanAlike
open Go
theorem bodiesGo : Tryz.prog.funcs.toList.any Func.goes = false := by kernel_rfl
theorem bodyGo (g : Nat) : (Tryz.prog.funcs[g]?).any Func.goes = false := by
  cases hg : Tryz.prog.funcs[g]? with
  | none => rfl
  | some fn =>
    have hm : fn ∈ Tryz.prog.funcs.toList := Array.mem_toList_iff.2 (Array.mem_of_getElem? hg)
    have := List.any_eq_false.1 bodiesGo fn hm
    simpa using this
theorem goNone (f : FuncId) : Tryz.prog.goes f = false := by
  have h1 : ((Tryz.prog.closure f).any fun g => (Tryz.prog.funcs[g]?).any Func.goes) = false := by
    rw [List.any_eq_false]
    intro g _
    rw [bodyGo g]
    exact Bool.false_ne_true
  have h2 : Tryz.prog.funcs.any Func.goes = false := by
    rw [← Array.any_toList]
    exact bodiesGo
  unfold Program.goes
  rw [h1, h2, Bool.and_false]
  rfl
theorem anyNone {p : FuncId → Bool} (h : ∀ f, p f = false) (o : Option FuncId) : o.any p = false := by
  cases o with
  | none => rfl
  | some f => exact h f
theorem cardGoes : false = Rows.meanAlikeRow.goesBy Tryz.prog := by
  have h3 : Rows.meanAlikeRow.start = .entering := rfl
  unfold OpenClaim.goesBy Program.goesAt Program.goesFrom
  rw [anyNone goNone, h3]
  rfl
end Go.Proofs.YtdolijagffcfgaaGreatDoor.meanAlike
