/-
  The contracts of the four functions that number the places (Spot and Place, the program's and the reference's): what each returns, for every number; the memory stays as it was. No condition.
-/
import Derived.Test.YthagammlhhnpnaaGreatDoorRows
import Derived.WalkKit
import Derived.ProofKit
import Derived.OpenShut
namespace Go.Proofs.YthagammlhhnpnaaGreatDoor.Law
open Go

theorem in_ok (n lo hi : Int) (w : World) : Calls Tryz.prog 9 #[.int .i64 n, .int .i64 lo, .int .i64 hi] w fun e w' => e = .returned (.bool (decide (lo ≤ n ∧ n ≤ hi))) ∧ w' = w := by
  by_cases h1 : lo ≤ n
  · go_enter Tryz.func9, Tryz.ntmps9
    go_wp2
    go_ret
    simp [h1]
  · go_enter Tryz.func9, Tryz.ntmps9
    go_wp2
    go_ret
    simp
    omega

/-- what a place stands for -/
def spotV (a : Int) : Value := if 0 ≤ a ∧ a ≤ 159999 then .tuple #[.int .i64 (a / 8000), .int .i64 (a % 8000 / 400), .int .i64 (a % 400)] else .tuple #[.int .i64 0, .int .i64 0, .int .i64 0]

theorem spot_ok (a : Int) (w : World) : Calls Tryz.prog 4 #[.int .i64 a] w fun e w' => e = .returned (spotV a) ∧ w' = w := by
  by_cases h : 0 ≤ a ∧ a ≤ 159999
  · have hv : spotV a = .tuple #[.int .i64 (a / 8000), .int .i64 (a % 8000 / 400), .int .i64 (a % 400)] := if_pos h
    rw [hv]
    go_enter Tryz.func4, Tryz.ntmps4
    go_wp2_with (go_at_call 9; refine (in_ok _ _ _ _).mono ?_; rintro e w' ⟨rfl, rfl⟩)
    go_ret3
    all_goals first | rfl | exact ⟨rfl, rfl⟩ | trivial
  · have hv : spotV a = .tuple #[.int .i64 0, .int .i64 0, .int .i64 0] := if_neg h
    rw [hv]
    go_enter Tryz.func4, Tryz.ntmps4
    go_wp2_with (go_at_call 9; refine (in_ok _ _ _ _).mono ?_; rintro e w' ⟨rfl, rfl⟩)
    go_ret3
    all_goals first | rfl | exact ⟨rfl, rfl⟩ | trivial
theorem spotR_ok (a : Int) (w : World) : Calls Tryz.prog 5 #[.int .i64 a] w fun e w' => e = .returned (spotV a) ∧ w' = w := by
  by_cases h1 : a < 0
  · have hv : spotV a = .tuple #[.int .i64 0, .int .i64 0, .int .i64 0] := if_neg (by omega)
    rw [hv]
    go_enter Tryz.func5, Tryz.ntmps5
    go_wp2
    go_ret3
    all_goals first | rfl | exact ⟨rfl, rfl⟩ | trivial
  · by_cases h2 : 160000 ≤ a
    · have hv : spotV a = .tuple #[.int .i64 0, .int .i64 0, .int .i64 0] := if_neg (by omega)
      rw [hv]
      go_enter Tryz.func5, Tryz.ntmps5
      go_wp2
      go_ret3
      all_goals first | rfl | exact ⟨rfl, rfl⟩ | trivial
    · have hv : spotV a = .tuple #[.int .i64 (a / 8000), .int .i64 (a % 8000 / 400), .int .i64 (a % 400)] := if_pos (by omega)
      have h0 : 0 ≤ a ∧ a ≤ 159999 := by omega
      rw [hv]
      go_enter Tryz.func5, Tryz.ntmps5
      go_wp2
      go_ret3
      all_goals first | rfl | exact ⟨rfl, rfl⟩ | trivial

def placeI (m r n : Int) : Int := if (0 ≤ m ∧ m ≤ 19) ∧ (0 ≤ r ∧ r ≤ 19) ∧ (0 ≤ n ∧ n ≤ 399) then 8000 * m + 400 * r + n else 0

theorem place_ok (m r n : Int) (w : World) : Calls Tryz.prog 6 #[.int .i64 m, .int .i64 r, .int .i64 n] w fun e w' => e = .returned (.int .i64 (placeI m r n)) ∧ w' = w := by
  by_cases h1 : 0 ≤ m ∧ m ≤ 19
  · by_cases h2 : 0 ≤ r ∧ r ≤ 19
    · by_cases h3 : 0 ≤ n ∧ n ≤ 399
      · have hv : placeI m r n = 8000 * m + 400 * r + n := if_pos ⟨h1, h2, h3⟩
        rw [hv]
        go_enter Tryz.func6, Tryz.ntmps6
        go_wp2_with (go_at_call 9; refine (in_ok _ _ _ _).mono ?_; rintro e w' ⟨rfl, rfl⟩)
        go_ret
        all_goals first | rfl | exact ⟨rfl, rfl⟩ | simp | trace_state
      · have hv : placeI m r n = 0 := if_neg fun h => h3 h.2.2
        rw [hv]
        go_enter Tryz.func6, Tryz.ntmps6
        go_wp2_with (go_at_call 9; refine (in_ok _ _ _ _).mono ?_; rintro e w' ⟨rfl, rfl⟩)
        go_ret
        all_goals first | rfl | exact ⟨rfl, rfl⟩ | simp | trace_state
    · have hv : placeI m r n = 0 := if_neg fun h => h2 h.2.1
      rw [hv]
      go_enter Tryz.func6, Tryz.ntmps6
      go_wp2_with (go_at_call 9; refine (in_ok _ _ _ _).mono ?_; rintro e w' ⟨rfl, rfl⟩)
      go_ret
      all_goals first | rfl | exact ⟨rfl, rfl⟩ | simp | trace_state
  · have hv : placeI m r n = 0 := if_neg fun h => h1 h.1
    rw [hv]
    go_enter Tryz.func6, Tryz.ntmps6
    go_wp2_with (go_at_call 9; refine (in_ok _ _ _ _).mono ?_; rintro e w' ⟨rfl, rfl⟩)
    go_ret
    all_goals first | rfl | exact ⟨rfl, rfl⟩ | simp | trace_state

theorem placeR_ok (m r n : Int) (w : World) : Calls Tryz.prog 7 #[.int .i64 m, .int .i64 r, .int .i64 n] w fun e w' => e = .returned (.int .i64 (placeI m r n)) ∧ w' = w := by
  by_cases h1 : m < 0
  · have hv : placeI m r n = 0 := if_neg (by omega)
    rw [hv]
    go_enter Tryz.func7, Tryz.ntmps7
    go_wp2
    go_ret
    all_goals first | rfl | exact ⟨rfl, rfl⟩ | simp | trace_state
  · by_cases h2 : 19 < m
    · have hv : placeI m r n = 0 := if_neg (by omega)
      rw [hv]
      go_enter Tryz.func7, Tryz.ntmps7
      go_wp2
      go_ret
      all_goals first | rfl | exact ⟨rfl, rfl⟩ | simp | trace_state
    · by_cases h3 : r < 0
      · have hv : placeI m r n = 0 := if_neg (by omega)
        rw [hv]
        go_enter Tryz.func7, Tryz.ntmps7
        go_wp2
        go_ret
        all_goals first | rfl | exact ⟨rfl, rfl⟩ | simp | trace_state
      · by_cases h4 : 19 < r
        · have hv : placeI m r n = 0 := if_neg (by omega)
          rw [hv]
          go_enter Tryz.func7, Tryz.ntmps7
          go_wp2
          go_ret
          all_goals first | rfl | exact ⟨rfl, rfl⟩ | simp | trace_state
        · by_cases h5 : n < 0
          · have hv : placeI m r n = 0 := if_neg (by omega)
            rw [hv]
            go_enter Tryz.func7, Tryz.ntmps7
            go_wp2
            go_ret
            all_goals first | rfl | exact ⟨rfl, rfl⟩ | simp | trace_state
          · by_cases h6 : 399 < n
            · have hv : placeI m r n = 0 := if_neg (by omega)
              rw [hv]
              go_enter Tryz.func7, Tryz.ntmps7
              go_wp2
              go_ret
              all_goals first | rfl | exact ⟨rfl, rfl⟩ | simp | trace_state
            · have hv : placeI m r n = 8000 * m + 400 * r + n := if_pos (by omega)
              rw [hv]
              go_enter Tryz.func7, Tryz.ntmps7
              go_wp2
              go_ret
              all_goals first | rfl | exact ⟨rfl, rfl⟩ | simp | trace_state
end Go.Proofs.YthagammlhhnpnaaGreatDoor.Law
