/-
  Two values are compared by their kinds and numbers.
-/
import Derived.Laws.StructEq
import Derived.KernelRfl
import Derived.WalkKit
import Derived.Test.YtdolijagffcfgaaGreatDoorProg
namespace Go.Proofs.YtdolijagffcfgaaGreatDoor
open Go Go.Instr
theorem stood49 : Tryz.prog.stoodInHeld 49 = false := by kernel_rfl
theorem guard49 : Tryz.prog.eqGuardType Tryz.prog.depth 49 = false := by kernel_rfl
theorem agg5 (w : World) : (isAgg 5).run Tryz.prog w = .ok false w := by simp [isAgg, Go.run_underlying Tryz.underlying5]
theorem agg3 (w : World) : (isAgg 3).run Tryz.prog w = .ok false w := by simp [isAgg, Go.run_underlying Tryz.underlying3]
theorem part5 (xs : Array Value) (v : Value) (h : xs[0]? = some v) (w : World) : (part 5 xs 0).run Tryz.prog w = .ok v w := by
  unfold part
  rw [Sem.run_bind, agg5]
  simp [h]
theorem part3 (xs : Array Value) (v : Value) (h : xs[1]? = some v) (w : World) : (part 3 xs 1).run Tryz.prog w = .ok v w := by
  unfold part
  rw [Sem.run_bind, agg3]
  simp [h]
theorem eqf49 (a b c d : Int) (w : World) : (Op.eqFields 9999 #[.int .u8 a, .int .i64 b] #[.int .u8 c, .int .i64 d] (Tryz.prog.fieldsOf 49).toList).run Tryz.prog w = .ok ((a == c) && (b == d)) w := by
  unfold Program.fieldsOf
  rw [Tryz.underlying49]
  simp only [Op.eqFields, ne_eq, show ¬ ("Kind" = "_") from by decide, show ¬ ("N" = "_") from by decide, not_false_eq_true, if_true, Sem.run_bind]
  rw [part5 _ (.int .u8 a) rfl]
  simp only [Result.andThen_ok]
  rw [part5 _ (.int .u8 c) rfl]
  simp only [Result.andThen_ok]
  rw [run_equalIn_int w 9998 5 .u8 .u8 a c Tryz.underlying5]
  simp only [Result.andThen_ok]
  cases hac : (a == c) with
  | false => simp
  | true =>
    simp only [Bool.not_true, Bool.false_eq_true, if_false, Sem.run_bind]
    rw [part3 _ (.int .i64 b) rfl]
    simp only [Result.andThen_ok]
    rw [part3 _ (.int .i64 d) rfl]
    simp only [Result.andThen_ok]
    rw [run_equalIn_int w 9998 3 .i64 .i64 b d Tryz.underlying3]
    simp only [Result.andThen_ok]
    cases hbd : (b == d) <;> simp
theorem neq49 (a b c d : Int) (w : World) : (binOp .neq 49 (.agg #[.int .u8 a, .int .i64 b]) (.agg #[.int .u8 c, .int .i64 d])).run Tryz.prog w = .ok (.bool (!((a == c) && (b == d)))) w := by
  rw [run_neq_struct, run_equalIn_struct w 9999 49 _ _ (by unfold Program.fieldsOf; rw [Tryz.underlying49]) stood49, eqf49]
  rfl
theorem neqg49 (x y : Operand) (a b c d : Int) (w : World) : (eqGuard .neq 49 x y (.agg #[.int .u8 a, .int .i64 b]) (.agg #[.int .u8 c, .int .i64 d])).run Tryz.prog w = .ok () w :=
  run_eqGuard_agg w .neq 49 x y _ _ guard49
end Go.Proofs.YtdolijagffcfgaaGreatDoor
