/-
  The walks of the small tests of values: within, is, value. No condition on the memory.
-/
import Derived.WalkKit
import Derived.Deep.QuietTactic
import Derived.BigQuiet
import Derived.Lib.Hide
import Derived.Test.YtdolijagffcfgaaGreatDoorPlain
import Derived.Test.YtdolijagffcfgaaGreatDoorProg
namespace Go.Proofs.YtdolijagffcfgaaGreatDoor
open Go Go.RowKit Go.Mn
set_option maxHeartbeats 400000

theorem ret_bool {a b : Bool} (h : a = b) : Ending.returned (.bool a) = .returned (.bool b) := by rw [h]

theorem within_any (n a b : Int) (w : World) : Calls Tryz.prog 107 #[.int .i64 n, .int .i64 a, .int .i64 b] w fun e w' => e = .returned (.bool (decide (a ≤ n) && decide (n ≤ b))) ∧ w = w' := by
  by_cases h : a ≤ n
  · go_enter Tryz.func107, Tryz.ntmps107
    go_wp2
    go_ret
    simp [h]
  · have hd : decide (a ≤ n) = false := by simpa using h
    rw [hd]
    go_enter Tryz.func107, Tryz.ntmps107
    go_wp2
    go_ret
    exact ⟨rfl, rfl⟩
theorem within6_any (n a b : Int) (w : World) : Calls Tryz.prog 118 #[.int .i64 n, .int .i64 a, .int .i64 b] w fun e w' => e = .returned (.bool (decide (a ≤ n) && decide (n ≤ b))) ∧ w = w' := by
  by_cases h : a ≤ n
  · go_enter Tryz.func118, Tryz.ntmps118
    go_wp2
    go_ret
    simp [h]
  · have hd : decide (a ≤ n) = false := by simpa using h
    rw [hd]
    go_enter Tryz.func118, Tryz.ntmps118
    go_wp2
    go_ret
    exact ⟨rfl, rfl⟩

theorem isV_1 (m : Nat) (n : Int) : isV m (1, n) = (decide (-1000000000 ≤ n) && decide (n ≤ 1000000000)) := by simp [isV]
theorem isV_2 (m : Nat) (n : Int) : isV m (2, n) = (decide (0 ≤ n) && decide (n ≤ 1)) := by simp [isV]
theorem isV_3 (m : Nat) (n : Int) : isV m (3, n) = (n == 0) := by simp [isV]; rfl
theorem isV_4 (m : Nat) (n : Int) : isV m (4, n) = (decide (0 ≤ n) && decide (n ≤ (m : Int) - 1)) := by simp [isV]
theorem isV_x (m : Nat) (k n : Int) (h1 : (k == 1) = false) (h2 : (k == 2) = false) (h3 : (k == 3) = false) (h4 : (k == 4) = false) : isV m (k, n) = false := by
  simp only [beq_eq_false_iff_ne, ne_eq] at h1 h2 h3 h4
  simp [isV, h1, h2, h3, h4]

theorem is_any (k n : Int) (m : Nat) (hm : m ≤ 9223372036854775807) (w : World) : Calls Tryz.prog 51 #[.agg #[.int .u8 k, .int .i64 n], .int .i64 m] w fun e w' => e = .returned (.bool (isV m (k, n))) ∧ Below w.heap.size w w' := by
  by_cases h1 : k = 1
  · subst h1
    rw [isV_1]
    go_enter Tryz.func51, Tryz.ntmps51
    go_wp2_with (go_at_call 107; refine (within_any _ _ _ _).mono ?_; rintro e w' ⟨rfl, rfl⟩)
    go_ret
    exact ⟨rfl, (Below.refl _ _).alloc (Nat.le_refl _) _⟩
  · by_cases h2 : k = 2
    · subst h2
      rw [isV_2]
      go_enter Tryz.func51, Tryz.ntmps51
      go_wp2_with (go_at_call 107; refine (within_any _ _ _ _).mono ?_; rintro e w' ⟨rfl, rfl⟩)
      go_ret
      exact ⟨rfl, (Below.refl _ _).alloc (Nat.le_refl _) _⟩
    · by_cases h3 : k = 3
      · subst h3
        rw [isV_3]
        go_enter Tryz.func51, Tryz.ntmps51
        go_wp2
        go_ret
        exact ⟨rfl, (Below.refl _ _).alloc (Nat.le_refl _) _⟩
      · by_cases h4 : k = 4
        · subst h4
          rw [isV_4]
          go_enter Tryz.func51, Tryz.ntmps51
          go_wp2_with (go_at_call 107; refine (within_any _ _ _ _).mono ?_; rintro e w' ⟨rfl, rfl⟩)
          go_ret
          exact ⟨rfl, (Below.refl _ _).alloc (Nat.le_refl _) _⟩
        · have b1 : (k == 1) = false := by simpa using h1
          have b2 : (k == 2) = false := by simpa using h2
          have b3 : (k == 3) = false := by simpa using h3
          have b4 : (k == 4) = false := by simpa using h4
          rw [isV_x m k n b1 b2 b3 b4]
          clear h1 h2 h3 h4
          go_enter Tryz.func51, Tryz.ntmps51
          go_wp2
          go_ret
          exact ⟨rfl, (Below.refl _ _).alloc (Nat.le_refl _) _⟩

theorem value6_any (k n : Int) (m : Nat) (hm : m ≤ 9223372036854775807) (w : World) : Calls Tryz.prog 54 #[.agg #[.int .u8 k, .int .i64 n], .int .i64 m] w fun e w' => e = .returned (.bool (isV m (k, n))) ∧ Below w.heap.size w w' := by
  by_cases h1 : k = 1
  · subst h1
    rw [isV_1]
    go_enter Tryz.func54, Tryz.ntmps54
    go_wp2_with (go_at_call 118; refine (within6_any _ _ _ _).mono ?_; rintro e w' ⟨rfl, rfl⟩)
    go_ret
    exact ⟨rfl, (Below.refl _ _).alloc (Nat.le_refl _) _⟩
  · by_cases h2 : k = 2
    · subst h2
      rw [isV_2]
      go_enter Tryz.func54, Tryz.ntmps54
      go_wp2_with (go_at_call 118; refine (within6_any _ _ _ _).mono ?_; rintro e w' ⟨rfl, rfl⟩)
      go_ret
      exact ⟨rfl, (Below.refl _ _).alloc (Nat.le_refl _) _⟩
    · by_cases h3 : k = 3
      · subst h3
        rw [isV_3]
        go_enter Tryz.func54, Tryz.ntmps54
        go_wp2
        go_ret
        exact ⟨rfl, (Below.refl _ _).alloc (Nat.le_refl _) _⟩
      · by_cases h4 : k = 4
        · subst h4
          rw [isV_4]
          go_enter Tryz.func54, Tryz.ntmps54
          go_wp2_with (go_at_call 118; refine (within6_any _ _ _ _).mono ?_; rintro e w' ⟨rfl, rfl⟩)
          go_ret
          exact ⟨rfl, (Below.refl _ _).alloc (Nat.le_refl _) _⟩
        · have b1 : (k == 1) = false := by simpa using h1
          have b2 : (k == 2) = false := by simpa using h2
          have b3 : (k == 3) = false := by simpa using h3
          have b4 : (k == 4) = false := by simpa using h4
          rw [isV_x m k n b1 b2 b3 b4]
          clear h1 h2 h3 h4
          go_enter Tryz.func54, Tryz.ntmps54
          go_wp2
          go_ret
          exact ⟨rfl, (Below.refl _ _).alloc (Nat.le_refl _) _⟩
end Go.Proofs.YtdolijagffcfgaaGreatDoor
