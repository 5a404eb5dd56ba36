/-
  The walk of the law of the places, and the plain law behind it.
-/
import Derived.Test.YthagammlhhnpnaaGreatDoorLaw
import Derived.Test.YthagammlhhnpnaaGreatDoorChk
namespace Go.Proofs.YthagammlhhnpnaaGreatDoor.Law
open Go

def sA (a : Int) : Int := if 0 ≤ a ∧ a ≤ 159999 then a / 8000 else 0
def sB (a : Int) : Int := if 0 ≤ a ∧ a ≤ 159999 then a % 8000 / 400 else 0
def sC (a : Int) : Int := if 0 ≤ a ∧ a ≤ 159999 then a % 400 else 0
theorem spotV_eq (a : Int) : spotV a = .tuple #[.int .i64 (sA a), .int .i64 (sB a), .int .i64 (sC a)] := by
  unfold spotV sA sB sC
  split <;> rfl

theorem back (m r n : Int) (h : placeI m r n ≠ 0) : sA (placeI m r n) = m ∧ sB (placeI m r n) = r ∧ sC (placeI m r n) = n := by
  unfold placeI at h ⊢
  split at h
  · rename_i hb
    rw [if_pos hb]
    have hc : 0 ≤ 8000 * m + 400 * r + n ∧ 8000 * m + 400 * r + n ≤ 159999 := by omega
    unfold sA sB sC
    rw [if_pos hc, if_pos hc, if_pos hc]
    omega
  · exact absurd rfl h
theorem forth (a : Int) (h0 : 0 ≤ a) (h1 : a < 160000) : placeI (sA a) (sB a) (sC a) = a := by
  have hc : 0 ≤ a ∧ a ≤ 159999 := by omega
  unfold sA sB sC
  rw [if_pos hc, if_pos hc, if_pos hc]
  unfold placeI
  rw [if_pos (by omega)]
  omega

/-- what the law leaves as it was -/
def Kept (w w' : World) : Prop := w'.os = w.os ∧ w'.output = w.output ∧ w'.tape = w.tape ∧ w.heap.size ≤ w'.heap.size ∧ ∀ b, b < w.heap.size → w'.heap[b]? = w.heap[b]?

theorem spot_ok' (a : Int) (w : World) : Calls Tryz.prog 4 #[.int .i64 a] w fun e w' => e = .returned (.tuple #[.int .i64 (sA a), .int .i64 (sB a), .int .i64 (sC a)]) ∧ w' = w := by
  rw [← spotV_eq]; exact spot_ok a w
theorem spotR_ok' (a : Int) (w : World) : Calls Tryz.prog 5 #[.int .i64 a] w fun e w' => e = .returned (.tuple #[.int .i64 (sA a), .int .i64 (sB a), .int .i64 (sC a)]) ∧ w' = w := by
  rw [← spotV_eq]; exact spotR_ok a w

theorem walk1 (a0 a1 a2 a3 : Int) {w : World} (h : Spaced w) (hp : placeI a0 a1 a2 = 0) (h0 : a3 < 0) : Calls Tryz.prog 3 #[.int .i64 a0, .int .i64 a1, .int .i64 a2, .int .i64 a3] w fun e w' => e = .returned (.bool true) ∧ Kept w w' := by
  go_enter Tryz.func3, Tryz.ntmps3
  go_wp2_with (first
    | (go_at_call 4; refine (spot_ok' _ _).mono ?_; rintro e w' ⟨rfl, rfl⟩)
    | (go_at_call 5; refine (spotR_ok' _ _).mono ?_; rintro e w' ⟨rfl, rfl⟩)
    | (go_at_call 6; refine (place_ok _ _ _ _).mono ?_; rintro e w' ⟨rfl, rfl⟩)
    | (go_at_call 7; refine (placeR_ok _ _ _ _).mono ?_; rintro e w' ⟨rfl, rfl⟩)
    | (go_at_call 8; refine (checked_ok h).mono ?_; rintro e w' ⟨rfl, hk⟩))
  go_ret
  all_goals exact ⟨rfl, hk⟩
theorem walk2 (a0 a1 a2 a3 : Int) {w : World} (h : Spaced w) (hp : placeI a0 a1 a2 = 0) (h0 : ¬ a3 < 0) (h1 : 160000 ≤ a3) : Calls Tryz.prog 3 #[.int .i64 a0, .int .i64 a1, .int .i64 a2, .int .i64 a3] w fun e w' => e = .returned (.bool true) ∧ Kept w w' := by
  go_enter Tryz.func3, Tryz.ntmps3
  go_wp2_with (first
    | (go_at_call 4; refine (spot_ok' _ _).mono ?_; rintro e w' ⟨rfl, rfl⟩)
    | (go_at_call 5; refine (spotR_ok' _ _).mono ?_; rintro e w' ⟨rfl, rfl⟩)
    | (go_at_call 6; refine (place_ok _ _ _ _).mono ?_; rintro e w' ⟨rfl, rfl⟩)
    | (go_at_call 7; refine (placeR_ok _ _ _ _).mono ?_; rintro e w' ⟨rfl, rfl⟩)
    | (go_at_call 8; refine (checked_ok h).mono ?_; rintro e w' ⟨rfl, hk⟩))
  go_ret
  all_goals exact ⟨rfl, hk⟩
theorem walk3 (a0 a1 a2 a3 : Int) {w : World} (h : Spaced w) (hp : placeI a0 a1 a2 = 0) (h0 : ¬ a3 < 0) (h1 : ¬ 160000 ≤ a3) (hf : placeI (sA a3) (sB a3) (sC a3) = a3) : Calls Tryz.prog 3 #[.int .i64 a0, .int .i64 a1, .int .i64 a2, .int .i64 a3] w fun e w' => e = .returned (.bool true) ∧ Kept w w' := by
  go_enter Tryz.func3, Tryz.ntmps3
  go_wp2_with (first
    | (go_at_call 4; refine (spot_ok' _ _).mono ?_; rintro e w' ⟨rfl, rfl⟩)
    | (go_at_call 5; refine (spotR_ok' _ _).mono ?_; rintro e w' ⟨rfl, rfl⟩)
    | (go_at_call 6; refine (place_ok _ _ _ _).mono ?_; rintro e w' ⟨rfl, rfl⟩)
    | (go_at_call 7; refine (placeR_ok _ _ _ _).mono ?_; rintro e w' ⟨rfl, rfl⟩)
    | (go_at_call 8; refine (checked_ok h).mono ?_; rintro e w' ⟨rfl, hk⟩))
  go_ret
  all_goals exact ⟨rfl, hk⟩
theorem walk4 (a0 a1 a2 a3 : Int) {w : World} (h : Spaced w) (hp : ¬ placeI a0 a1 a2 = 0) (b0 : sA (placeI a0 a1 a2) = a0) (b1 : sB (placeI a0 a1 a2) = a1) (b2 : sC (placeI a0 a1 a2) = a2) (h0 : a3 < 0) : Calls Tryz.prog 3 #[.int .i64 a0, .int .i64 a1, .int .i64 a2, .int .i64 a3] w fun e w' => e = .returned (.bool true) ∧ Kept w w' := by
  go_enter Tryz.func3, Tryz.ntmps3
  go_wp2_with (first
    | (go_at_call 4; refine (spot_ok' _ _).mono ?_; rintro e w' ⟨rfl, rfl⟩)
    | (go_at_call 5; refine (spotR_ok' _ _).mono ?_; rintro e w' ⟨rfl, rfl⟩)
    | (go_at_call 6; refine (place_ok _ _ _ _).mono ?_; rintro e w' ⟨rfl, rfl⟩)
    | (go_at_call 7; refine (placeR_ok _ _ _ _).mono ?_; rintro e w' ⟨rfl, rfl⟩)
    | (go_at_call 8; refine (checked_ok h).mono ?_; rintro e w' ⟨rfl, hk⟩))
  go_ret
  all_goals exact ⟨rfl, hk⟩
theorem walk5 (a0 a1 a2 a3 : Int) {w : World} (h : Spaced w) (hp : ¬ placeI a0 a1 a2 = 0) (b0 : sA (placeI a0 a1 a2) = a0) (b1 : sB (placeI a0 a1 a2) = a1) (b2 : sC (placeI a0 a1 a2) = a2) (h0 : ¬ a3 < 0) (h1 : 160000 ≤ a3) : Calls Tryz.prog 3 #[.int .i64 a0, .int .i64 a1, .int .i64 a2, .int .i64 a3] w fun e w' => e = .returned (.bool true) ∧ Kept w w' := by
  go_enter Tryz.func3, Tryz.ntmps3
  go_wp2_with (first
    | (go_at_call 4; refine (spot_ok' _ _).mono ?_; rintro e w' ⟨rfl, rfl⟩)
    | (go_at_call 5; refine (spotR_ok' _ _).mono ?_; rintro e w' ⟨rfl, rfl⟩)
    | (go_at_call 6; refine (place_ok _ _ _ _).mono ?_; rintro e w' ⟨rfl, rfl⟩)
    | (go_at_call 7; refine (placeR_ok _ _ _ _).mono ?_; rintro e w' ⟨rfl, rfl⟩)
    | (go_at_call 8; refine (checked_ok h).mono ?_; rintro e w' ⟨rfl, hk⟩))
  go_ret
  all_goals exact ⟨rfl, hk⟩
theorem walk6 (a0 a1 a2 a3 : Int) {w : World} (h : Spaced w) (hp : ¬ placeI a0 a1 a2 = 0) (b0 : sA (placeI a0 a1 a2) = a0) (b1 : sB (placeI a0 a1 a2) = a1) (b2 : sC (placeI a0 a1 a2) = a2) (h0 : ¬ a3 < 0) (h1 : ¬ 160000 ≤ a3) (hf : placeI (sA a3) (sB a3) (sC a3) = a3) : Calls Tryz.prog 3 #[.int .i64 a0, .int .i64 a1, .int .i64 a2, .int .i64 a3] w fun e w' => e = .returned (.bool true) ∧ Kept w w' := by
  go_enter Tryz.func3, Tryz.ntmps3
  go_wp2_with (first
    | (go_at_call 4; refine (spot_ok' _ _).mono ?_; rintro e w' ⟨rfl, rfl⟩)
    | (go_at_call 5; refine (spotR_ok' _ _).mono ?_; rintro e w' ⟨rfl, rfl⟩)
    | (go_at_call 6; refine (place_ok _ _ _ _).mono ?_; rintro e w' ⟨rfl, rfl⟩)
    | (go_at_call 7; refine (placeR_ok _ _ _ _).mono ?_; rintro e w' ⟨rfl, rfl⟩)
    | (go_at_call 8; refine (checked_ok h).mono ?_; rintro e w' ⟨rfl, hk⟩))
  go_ret
  all_goals exact ⟨rfl, hk⟩

/-- ████ THE WALK -/
theorem walk (a0 a1 a2 a3 : Int) {w : World} (h : Spaced w) : Calls Tryz.prog 3 #[.int .i64 a0, .int .i64 a1, .int .i64 a2, .int .i64 a3] w fun e w' => e = .returned (.bool true) ∧ Kept w w' := by
  by_cases hp : placeI a0 a1 a2 = 0
  · by_cases h0 : a3 < 0
    · exact walk1 _ _ _ _ h hp h0
    · by_cases h1 : 160000 ≤ a3
      · exact walk2 _ _ _ _ h hp h0 h1
      · exact walk3 _ _ _ _ h hp h0 h1 (forth a3 (by omega) (by omega))
  · obtain ⟨b0, b1, b2⟩ := back _ _ _ hp
    by_cases h0 : a3 < 0
    · exact walk4 _ _ _ _ h hp b0 b1 b2 h0
    · by_cases h1 : 160000 ≤ a3
      · exact walk5 _ _ _ _ h hp b0 b1 b2 h0 h1
      · exact walk6 _ _ _ _ h hp b0 b1 b2 h0 h1 (forth a3 (by omega) (by omega))
end Go.Proofs.YthagammlhhnpnaaGreatDoor.Law
