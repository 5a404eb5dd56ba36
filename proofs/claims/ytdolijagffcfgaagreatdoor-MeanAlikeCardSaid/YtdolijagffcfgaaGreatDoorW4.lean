/-
  The walks of slices.Equal and SameValues. No condition on the memory.
-/
import Derived.Laws.StructEq
import Derived.KernelRfl
import Derived.WalkKit
import Derived.Test.YtdolijagffcfgaaGreatDoorProg
import Derived.Deep.QuietTactic
import Derived.BigQuiet
import Derived.Test.YtdolijagffcfgaaGreatDoorW2
namespace Go.Proofs.YtdolijagffcfgaaGreatDoor
open Go Go.Instr
theorem stood49 : Tryz.prog.stoodInHeld 49 = false := by kernel_rfl
theorem guard49 : Tryz.prog.eqGuardType Tryz.prog.depth 49 = false := by kernel_rfl
theorem agg5 (w : World) : (isAgg 5).run Tryz.prog w = .ok false w := by simp [isAgg, Go.run_underlying Tryz.underlying5]
theorem agg3 (w : World) : (isAgg 3).run Tryz.prog w = .ok false w := by simp [isAgg, Go.run_underlying Tryz.underlying3]
theorem part5 (xs : Array Value) (v : Value) (h : xs[0]? = some v) (w : World) : (part 5 xs 0).run Tryz.prog w = .ok v w := by
  unfold part
  rw [Sem.run_bind, agg5]
  simp [h]
theorem part3 (xs : Array Value) (v : Value) (h : xs[1]? = some v) (w : World) : (part 3 xs 1).run Tryz.prog w = .ok v w := by
  unfold part
  rw [Sem.run_bind, agg3]
  simp [h]
theorem eqf49 (a b c d : Int) (w : World) : (Op.eqFields 9999 #[.int .u8 a, .int .i64 b] #[.int .u8 c, .int .i64 d] (Tryz.prog.fieldsOf 49).toList).run Tryz.prog w = .ok ((a == c) && (b == d)) w := by
  unfold Program.fieldsOf
  rw [Tryz.underlying49]
  simp only [Op.eqFields, ne_eq, show ¬ ("Kind" = "_") from by decide, show ¬ ("N" = "_") from by decide, not_false_eq_true, if_true, Sem.run_bind]
  rw [part5 _ (.int .u8 a) rfl]
  simp only [Result.andThen_ok]
  rw [part5 _ (.int .u8 c) rfl]
  simp only [Result.andThen_ok]
  rw [run_equalIn_int w 9998 5 .u8 .u8 a c Tryz.underlying5]
  simp only [Result.andThen_ok]
  cases hac : (a == c) with
  | false => simp
  | true =>
    simp only [Bool.not_true, Bool.false_eq_true, if_false, Sem.run_bind]
    rw [part3 _ (.int .i64 b) rfl]
    simp only [Result.andThen_ok]
    rw [part3 _ (.int .i64 d) rfl]
    simp only [Result.andThen_ok]
    rw [run_equalIn_int w 9998 3 .i64 .i64 b d Tryz.underlying3]
    simp only [Result.andThen_ok]
    cases hbd : (b == d) <;> simp
theorem neq49 (a b c d : Int) (w : World) : (binOp .neq 49 (.agg #[.int .u8 a, .int .i64 b]) (.agg #[.int .u8 c, .int .i64 d])).run Tryz.prog w = .ok (.bool (!((a == c) && (b == d)))) w := by
  rw [run_neq_struct, run_equalIn_struct w 9999 49 _ _ (by unfold Program.fieldsOf; rw [Tryz.underlying49]) stood49, eqf49]
  rfl
theorem neqg49 (x y : Operand) (a b c d : Int) (w : World) : (eqGuard .neq 49 x y (.agg #[.int .u8 a, .int .i64 b]) (.agg #[.int .u8 c, .int .i64 d])).run Tryz.prog w = .ok () w :=
  run_eqGuard_agg w .neq 49 x y _ _ guard49
end Go.Proofs.YtdolijagffcfgaaGreatDoor

namespace Go.Proofs.YtdolijagffcfgaaGreatDoor
open Go Go.RowKit Go.Mn
set_option maxHeartbeats 2000000
set_option maxRecDepth 20000

theorem below_drewN {B : Nat} {a w : World} (h : Below B a w) (n : Nat) : Below B a (w.drewN n) := ⟨h.os, h.tape, h.output, h.size, h.block⟩

theorem take_next {a b : List Vl} {k : Nat} {x : Vl} (h : a.take k = b.take k) (ha : a[k]? = some x) (hb : b[k]? = some x) : a.take (k + 1) = b.take (k + 1) := by
  rw [List.take_add_one, List.take_add_one, h, ha, hb]

theorem equal_any (B : Nat) (s t : Value) (a b : List Vl) (w : World) (hB : B ≤ w.heap.size) (ha : ValsAt B w s a) (hb : ValsAt B w t b) :
    Calls Tryz.prog 16 #[s, t] w fun e w' => e = .returned (.bool (decide (a = b))) ∧ Below w.heap.size w w' := by
  obtain ⟨p, c, rfl, hl, hm, hc⟩ := ha
  obtain ⟨p2, c2, rfl, hl2, hm2, hc2⟩ := hb
  unfold maxLen at hm hm2
  by_cases hlen : a.length = b.length
  · have hne : ((a.length : Int) != (b.length : Int)) = false := by rw [hlen]; simp
    have Hlen := Lib.hid hlen
    clear hlen
    go_enter Tryz.func16, Tryz.ntmps16
    go_wp2
    go_loopw [5, 13] (fun _ i wr => ∃ k : Nat, k ≤ a.length ∧ i = .int .i64 k ∧ Below w.heap.size w wr ∧ a.take k = b.take k) (fun _ i _ => a.length - (intOf i).toNat)
    case atStart => exact ⟨0, Nat.zero_le _, rfl, Below.refl _ _, rfl⟩
    case round =>
      obtain ⟨k, hk, rfl, hW, htk⟩ := hrel
      by_cases hlt : k < a.length
      · have hltb : k < b.length := by rw [← Hlen.out]; exact hlt
        have hx : a[k]? = some a[k] := List.getElem?_eq_getElem hlt
        have hy : b[k]? = some b[k] := List.getElem?_eq_getElem hltb
        obtain ⟨q1, o1, rfl, g1, e1, e2⟩ := hc k _ hx
        obtain ⟨q2, o2, rfl, g2, e3, e4⟩ := hc2 k _ hy
        have Hx := Lib.hid hx
        have Hy := Lib.hid hy
        have Htk := Lib.hid htk
        clear hc hc2 hx hy htk
        generalize a[k] = x at *
        generalize b[k] = y at *
        have d1 := (hW.cell (p := ⟨q1, o1 + k * 2, none⟩) (by show q1 < _; omega)).trans e1
        have d2 := (hW.cell (p := ⟨q1, o1 + k * 2 + 1, none⟩) (by show q1 < _; omega)).trans e2
        have d3 := (hW.cell (p := ⟨q2, o2 + k * 2, none⟩) (by show q2 < _; omega)).trans e3
        have d4 := (hW.cell (p := ⟨q2, o2 + k * 2 + 1, none⟩) (by show q2 < _; omega)).trans e4
        clear e1 e2 e3 e4
        have hqg := neqg49 (.tmp 19) (.tmp 23) x.1 x.2 y.1 y.2
        cases hxy : ((x.1 == y.1) && (x.2 == y.2)) with
        | true =>
          have hq : ∀ w, (binOp .neq 49 (.agg #[.int .u8 x.1, .int .i64 x.2]) (.agg #[.int .u8 y.1, .int .i64 y.2])).run Tryz.prog w = .ok (.bool false) w := fun w => by rw [neq49, hxy]; rfl
          have hxe : x = y := by simp at hxy; exact Prod.ext hxy.1 hxy.2
          have Hxe := Lib.hid hxe
          clear hxe hxy
          go_wp2
          go_quiet (fail)
          go_wp2
          go_roundw
          case rel => exact ⟨k + 1, by omega, by go_num, below_drewN hW _, take_next Htk.out Hx.out (by rw [Hxe.out]; exact Hy.out)⟩
          case measure => simp [intOf]; omega
        | false =>
          have hq : ∀ w, (binOp .neq 49 (.agg #[.int .u8 x.1, .int .i64 x.2]) (.agg #[.int .u8 y.1, .int .i64 y.2])).run Tryz.prog w = .ok (.bool true) w := fun w => by rw [neq49, hxy]; rfl
          have hne' : a ≠ b := fun e => by
            have h1 := Hx.out
            have h2 := Hy.out
            rw [e, h2] at h1
            cases h1
            simp at hxy
          have Hne := Lib.hid hne'
          clear hne' hxy
          go_wp2
          go_quiet (fail)
          go_wp2
          go_ret
          exact ⟨ret_bool (by simp [Hne.out]), below_drewN hW _⟩
      · obtain rfl : k = a.length := by omega
        have he : a = b := by
          rw [List.take_length] at htk
          rw [htk, Hlen.out, List.take_length]
        have He := Lib.hid he
        clear htk he hc hc2
        go_wp2
        go_ret
        exact ⟨ret_bool (by simp [He.out]), hW⟩
  · have hne : ((a.length : Int) != (b.length : Int)) = true := by simp; omega
    have hn : a ≠ b := fun e => hlen (by rw [e])
    have Hn := Lib.hid hn
    clear hlen hc hc2 hn
    go_enter Tryz.func16, Tryz.ntmps16
    go_wp2
    go_ret
    exact ⟨ret_bool (by simp [Hn.out]), Below.refl _ _⟩
theorem drewN_more {w wr : World} (h : ∃ n, wr = w.drewN n) (m : Nat) : ∃ n, wr.drewN m = w.drewN n := by
  obtain ⟨n, rfl⟩ := h
  exact ⟨n + m, World.drewN_drewN _ _ _⟩

theorem sameValues_any (B : Nat) (s t : Value) (a b : List Vl) (w : World) (hB : B ≤ w.heap.size) (ha : ValsAt B w s a) (hb : ValsAt B w t b) :
    Calls Tryz.prog 12 #[s, t] w fun e w' => e = .returned (.bool (decide (a = b))) ∧ ∃ n, w' = w.drewN n := by
  obtain ⟨p, c, rfl, hl, hm, hc⟩ := ha
  obtain ⟨p2, c2, rfl, hl2, hm2, hc2⟩ := hb
  unfold maxLen at hm hm2
  by_cases hlen : a.length = b.length
  · have hne : ((a.length : Int) != (b.length : Int)) = false := by rw [hlen]; simp
    have Hlen := Lib.hid hlen
    clear hlen
    go_enter Tryz.func12, Tryz.ntmps12
    go_wp2
    go_loopw [5] (fun i wr => ∃ k : Nat, k ≤ a.length ∧ i = .int .i64 k ∧ (∃ n, wr = w.drewN n) ∧ a.take k = b.take k) (fun i _ => a.length - (intOf i).toNat)
    case atStart => exact ⟨0, Nat.zero_le _, rfl, ⟨0, rfl⟩, rfl⟩
    case round =>
      obtain ⟨k, hk, rfl, hD, htk⟩ := hrel
      have hW : Below w.heap.size w wr := by obtain ⟨n, rfl⟩ := hD; exact below_drewN (Below.refl _ _) n
      have HD := Lib.hid hD
      clear hD
      by_cases hlt : k < a.length
      · have hltb : k < b.length := by rw [← Hlen.out]; exact hlt
        have hx : a[k]? = some a[k] := List.getElem?_eq_getElem hlt
        have hy : b[k]? = some b[k] := List.getElem?_eq_getElem hltb
        obtain ⟨q1, o1, rfl, g1, e1, e2⟩ := hc k _ hx
        obtain ⟨q2, o2, rfl, g2, e3, e4⟩ := hc2 k _ hy
        have Hx := Lib.hid hx
        have Hy := Lib.hid hy
        have Htk := Lib.hid htk
        clear hc hc2 hx hy htk
        generalize a[k] = x at *
        generalize b[k] = y at *
        have d1 := (hW.cell (p := ⟨q1, o1 + k * 2, none⟩) (by show q1 < _; omega)).trans e1
        have d2 := (hW.cell (p := ⟨q1, o1 + k * 2 + 1, none⟩) (by show q1 < _; omega)).trans e2
        have d3 := (hW.cell (p := ⟨q2, o2 + k * 2, none⟩) (by show q2 < _; omega)).trans e3
        have d4 := (hW.cell (p := ⟨q2, o2 + k * 2 + 1, none⟩) (by show q2 < _; omega)).trans e4
        clear e1 e2 e3 e4
        have hqg := neqg49 (.tmp 20) (.tmp 24) x.1 x.2 y.1 y.2
        cases hxy : ((x.1 == y.1) && (x.2 == y.2)) with
        | true =>
          have hq : ∀ w, (binOp .neq 49 (.agg #[.int .u8 x.1, .int .i64 x.2]) (.agg #[.int .u8 y.1, .int .i64 y.2])).run Tryz.prog w = .ok (.bool false) w := fun w => by rw [neq49, hxy]; rfl
          have hxe : x = y := by simp at hxy; exact Prod.ext hxy.1 hxy.2
          have Hxe := Lib.hid hxe
          clear hxe hxy
          go_wp2
          go_quiet (fail)
          go_wp2
          go_roundw
          case rel => exact ⟨k + 1, by omega, by go_num, drewN_more HD.out _, take_next Htk.out Hx.out (by rw [Hxe.out]; exact Hy.out)⟩
          case measure => simp [intOf]; omega
        | false =>
          have hq : ∀ w, (binOp .neq 49 (.agg #[.int .u8 x.1, .int .i64 x.2]) (.agg #[.int .u8 y.1, .int .i64 y.2])).run Tryz.prog w = .ok (.bool true) w := fun w => by rw [neq49, hxy]; rfl
          have hne' : a ≠ b := fun e => by
            have h1 := Hx.out
            have h2 := Hy.out
            rw [e, h2] at h1
            cases h1
            simp at hxy
          have Hne := Lib.hid hne'
          clear hne' hxy
          go_wp2
          go_quiet (fail)
          go_wp2
          go_ret
          exact ⟨ret_bool (by simp [Hne.out]), drewN_more HD.out _⟩
      · obtain rfl : k = a.length := by omega
        have he : a = b := by
          rw [List.take_length] at htk
          rw [htk, Hlen.out, List.take_length]
        have He := Lib.hid he
        clear htk he hc hc2
        go_wp2
        go_ret
        exact ⟨ret_bool (by simp [He.out]), HD.out⟩
  · have hne : ((a.length : Int) != (b.length : Int)) = true := by simp; omega
    have hn : a ≠ b := fun e => hlen (by rw [e])
    have Hn := Lib.hid hn
    clear hlen hc hc2 hn
    go_enter Tryz.func12, Tryz.ntmps12
    go_wp2
    go_ret
    exact ⟨ret_bool (by simp [Hn.out]), ⟨0, rfl⟩⟩
end Go.Proofs.YtdolijagffcfgaaGreatDoor
