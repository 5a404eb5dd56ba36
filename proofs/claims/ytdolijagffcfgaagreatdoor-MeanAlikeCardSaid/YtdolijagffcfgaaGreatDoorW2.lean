/-
  The walks of the tests of values and of slices.ContainsFunc with closures. No condition on the memory.
-/
import Derived.WalkKit
import Derived.Deep.QuietTactic
import Derived.BigQuiet
import Derived.Lib.Hide
import Derived.Test.YtdolijagffcfgaaGreatDoorPlain
import Derived.Test.YtdolijagffcfgaaGreatDoorProg
import Derived.Test.YtdolijagffcfgaaGreatDoorMem
namespace Go.Proofs.YtdolijagffcfgaaGreatDoor
open Go Go.RowKit Go.Mn
set_option maxHeartbeats 400000

theorem ret_bool {a b : Bool} (h : a = b) : Ending.returned (.bool a) = .returned (.bool b) := by rw [h]

theorem within_any (n a b : Int) (w : World) : Calls Tryz.prog 107 #[.int .i64 n, .int .i64 a, .int .i64 b] w fun e w' => e = .returned (.bool (decide (a ≤ n) && decide (n ≤ b))) ∧ w = w' := by
  by_cases h : a ≤ n
  · go_enter Tryz.func107, Tryz.ntmps107
    go_wp2
    go_ret
    simp [h]
  · have hd : decide (a ≤ n) = false := by simpa using h
    rw [hd]
    go_enter Tryz.func107, Tryz.ntmps107
    go_wp2
    go_ret
    exact ⟨rfl, rfl⟩
theorem within6_any (n a b : Int) (w : World) : Calls Tryz.prog 118 #[.int .i64 n, .int .i64 a, .int .i64 b] w fun e w' => e = .returned (.bool (decide (a ≤ n) && decide (n ≤ b))) ∧ w = w' := by
  by_cases h : a ≤ n
  · go_enter Tryz.func118, Tryz.ntmps118
    go_wp2
    go_ret
    simp [h]
  · have hd : decide (a ≤ n) = false := by simpa using h
    rw [hd]
    go_enter Tryz.func118, Tryz.ntmps118
    go_wp2
    go_ret
    exact ⟨rfl, rfl⟩

theorem isV_1 (m : Nat) (n : Int) : isV m (1, n) = (decide (-1000000000 ≤ n) && decide (n ≤ 1000000000)) := by simp [isV]
theorem isV_2 (m : Nat) (n : Int) : isV m (2, n) = (decide (0 ≤ n) && decide (n ≤ 1)) := by simp [isV]
theorem isV_3 (m : Nat) (n : Int) : isV m (3, n) = (n == 0) := by simp [isV]; rfl
theorem isV_4 (m : Nat) (n : Int) : isV m (4, n) = (decide (0 ≤ n) && decide (n ≤ (m : Int) - 1)) := by simp [isV]
theorem isV_x (m : Nat) (k n : Int) (h1 : (k == 1) = false) (h2 : (k == 2) = false) (h3 : (k == 3) = false) (h4 : (k == 4) = false) : isV m (k, n) = false := by
  simp only [beq_eq_false_iff_ne, ne_eq] at h1 h2 h3 h4
  simp [isV, h1, h2, h3, h4]

theorem is_any (k n : Int) (m : Nat) (hm : m ≤ 9223372036854775807) (w : World) : Calls Tryz.prog 51 #[.agg #[.int .u8 k, .int .i64 n], .int .i64 m] w fun e w' => e = .returned (.bool (isV m (k, n))) ∧ Below w.heap.size w w' := by
  by_cases h1 : k = 1
  · subst h1
    rw [isV_1]
    go_enter Tryz.func51, Tryz.ntmps51
    go_wp2_with (go_at_call 107; refine (within_any _ _ _ _).mono ?_; rintro e w' ⟨rfl, rfl⟩)
    go_ret
    exact ⟨rfl, (Below.refl _ _).alloc (Nat.le_refl _) _⟩
  · by_cases h2 : k = 2
    · subst h2
      rw [isV_2]
      go_enter Tryz.func51, Tryz.ntmps51
      go_wp2_with (go_at_call 107; refine (within_any _ _ _ _).mono ?_; rintro e w' ⟨rfl, rfl⟩)
      go_ret
      exact ⟨rfl, (Below.refl _ _).alloc (Nat.le_refl _) _⟩
    · by_cases h3 : k = 3
      · subst h3
        rw [isV_3]
        go_enter Tryz.func51, Tryz.ntmps51
        go_wp2
        go_ret
        exact ⟨rfl, (Below.refl _ _).alloc (Nat.le_refl _) _⟩
      · by_cases h4 : k = 4
        · subst h4
          rw [isV_4]
          go_enter Tryz.func51, Tryz.ntmps51
          go_wp2_with (go_at_call 107; refine (within_any _ _ _ _).mono ?_; rintro e w' ⟨rfl, rfl⟩)
          go_ret
          exact ⟨rfl, (Below.refl _ _).alloc (Nat.le_refl _) _⟩
        · have b1 : (k == 1) = false := by simpa using h1
          have b2 : (k == 2) = false := by simpa using h2
          have b3 : (k == 3) = false := by simpa using h3
          have b4 : (k == 4) = false := by simpa using h4
          rw [isV_x m k n b1 b2 b3 b4]
          clear h1 h2 h3 h4
          go_enter Tryz.func51, Tryz.ntmps51
          go_wp2
          go_ret
          exact ⟨rfl, (Below.refl _ _).alloc (Nat.le_refl _) _⟩

theorem value6_any (k n : Int) (m : Nat) (hm : m ≤ 9223372036854775807) (w : World) : Calls Tryz.prog 54 #[.agg #[.int .u8 k, .int .i64 n], .int .i64 m] w fun e w' => e = .returned (.bool (isV m (k, n))) ∧ Below w.heap.size w w' := by
  by_cases h1 : k = 1
  · subst h1
    rw [isV_1]
    go_enter Tryz.func54, Tryz.ntmps54
    go_wp2_with (go_at_call 118; refine (within6_any _ _ _ _).mono ?_; rintro e w' ⟨rfl, rfl⟩)
    go_ret
    exact ⟨rfl, (Below.refl _ _).alloc (Nat.le_refl _) _⟩
  · by_cases h2 : k = 2
    · subst h2
      rw [isV_2]
      go_enter Tryz.func54, Tryz.ntmps54
      go_wp2_with (go_at_call 118; refine (within6_any _ _ _ _).mono ?_; rintro e w' ⟨rfl, rfl⟩)
      go_ret
      exact ⟨rfl, (Below.refl _ _).alloc (Nat.le_refl _) _⟩
    · by_cases h3 : k = 3
      · subst h3
        rw [isV_3]
        go_enter Tryz.func54, Tryz.ntmps54
        go_wp2
        go_ret
        exact ⟨rfl, (Below.refl _ _).alloc (Nat.le_refl _) _⟩
      · by_cases h4 : k = 4
        · subst h4
          rw [isV_4]
          go_enter Tryz.func54, Tryz.ntmps54
          go_wp2_with (go_at_call 118; refine (within6_any _ _ _ _).mono ?_; rintro e w' ⟨rfl, rfl⟩)
          go_ret
          exact ⟨rfl, (Below.refl _ _).alloc (Nat.le_refl _) _⟩
        · have b1 : (k == 1) = false := by simpa using h1
          have b2 : (k == 2) = false := by simpa using h2
          have b3 : (k == 3) = false := by simpa using h3
          have b4 : (k == 4) = false := by simpa using h4
          rw [isV_x m k n b1 b2 b3 b4]
          clear h1 h2 h3 h4
          go_enter Tryz.func54, Tryz.ntmps54
          go_wp2
          go_ret
          exact ⟨rfl, (Below.refl _ _).alloc (Nat.le_refl _) _⟩
end Go.Proofs.YtdolijagffcfgaaGreatDoor

namespace Go.Proofs.YtdolijagffcfgaaGreatDoor
open Go Go.RowKit Go.Mn
set_option maxHeartbeats 1000000

/-- where the elements lie -/
def CellsAt (w : World) (p : Option Addr) (k : Nat) (v : Vl) : Prop := ∃ b o, p = some ⟨b, o, none⟩ ∧ w.cell? ⟨b, o + k * 2, none⟩ = some (.int .u8 v.1) ∧ w.cell? ⟨b, o + k * 2 + 1, none⟩ = some (.int .i64 v.2)

theorem idx57 (J Jx : Nat → World → Prop) (c : Value) (p : Option Addr) (cap : Nat) (vs : List Vl) (hl : vs.length ≤ cap) (hm : cap ≤ maxLen)
    (hcell : ∀ k v w, vs[k]? = some v → J k w → CellsAt w p k v)
    (hg : ∀ k v w, vs[k]? = some v → J k w → Calls Tryz.prog 57 #[.agg #[.int .u8 v.1, .int .i64 v.2], c] w fun e w' => (e = .returned (.bool false) ∧ J (k + 1) w') ∨ (e = .returned (.bool true) ∧ Jx k w'))
    (w : World) (h0 : J 0 w) :
    Calls Tryz.prog 120 #[.slice p vs.length cap, .func (.func 57) #[] #[c]] w fun e w' => (e = .returned (.int .i64 (-1)) ∧ J vs.length w') ∨ (∃ k : Nat, k < vs.length ∧ e = .returned (.int .i64 k) ∧ Jx k w') := by
  unfold maxLen at hm
  go_enter Tryz.func120, Tryz.ntmps120
  go_wp2
  go_loopw [5, 8] (fun _ i wr => ∃ k : Nat, k ≤ vs.length ∧ i = .int .i64 k ∧ J k wr) (fun _ i _ => vs.length - (intOf i).toNat)
  case atStart => exact ⟨0, Nat.zero_le _, rfl, h0⟩
  case round =>
    obtain ⟨k, hk, rfl, hJ⟩ := hrel
    by_cases hlt : k < vs.length
    · have hv : vs[k]? = some vs[k] := List.getElem?_eq_getElem hlt
      obtain ⟨b, o, rfl, hc1, hc2⟩ := hcell k _ _ hv hJ
      have hcall := hg k _ _ hv hJ
      clear hcell hg hv
      generalize vs[k] = v at *
      go_wp2_with (go_at_call 57; refine hcall.mono ?_; clear hcall; rintro e w' (⟨rfl, hJ'⟩ | ⟨rfl, hJx⟩))
      · go_roundw
        case rel => exact ⟨k + 1, by omega, by go_num, hJ'⟩
        case measure => simp [intOf]; omega
      · go_ret
        exact .inr ⟨k, hlt, rfl, hJx⟩
    · obtain rfl : k = vs.length := by omega
      go_wp2
      go_ret
      exact .inl ⟨rfl, hJ⟩
theorem con57 (J Jx : Nat → World → Prop) (c : Value) (p : Option Addr) (cap : Nat) (vs : List Vl) (hl : vs.length ≤ cap) (hm : cap ≤ maxLen)
    (hcell : ∀ k v w, vs[k]? = some v → J k w → CellsAt w p k v)
    (hg : ∀ k v w, vs[k]? = some v → J k w → Calls Tryz.prog 57 #[.agg #[.int .u8 v.1, .int .i64 v.2], c] w fun e w' => (e = .returned (.bool false) ∧ J (k + 1) w') ∨ (e = .returned (.bool true) ∧ Jx k w'))
    (w : World) (h0 : J 0 w) :
    Calls Tryz.prog 56 #[.slice p vs.length cap, .func (.func 57) #[] #[c]] w fun e w' => (e = .returned (.bool false) ∧ J vs.length w') ∨ (∃ k : Nat, k < vs.length ∧ e = .returned (.bool true) ∧ Jx k w') := by
  have hcall := idx57 J Jx c p cap vs hl hm hcell hg w h0
  clear hcell hg
  go_enter Tryz.func56, Tryz.ntmps56
  go_wp2_with (go_at_call 120; refine hcall.mono ?_; clear hcall; rintro e w' (⟨rfl, hJ'⟩ | ⟨k, hk, rfl, hJx⟩))
  · go_ret
    exact .inl ⟨rfl, hJ'⟩
  · go_ret
    exact .inr ⟨k, hk, by simp, hJx⟩

theorem idx119 (J Jx : Nat → World → Prop) (c : Value) (p : Option Addr) (cap : Nat) (vs : List Vl) (hl : vs.length ≤ cap) (hm : cap ≤ maxLen)
    (hcell : ∀ k v w, vs[k]? = some v → J k w → CellsAt w p k v)
    (hg : ∀ k v w, vs[k]? = some v → J k w → Calls Tryz.prog 119 #[.agg #[.int .u8 v.1, .int .i64 v.2], c] w fun e w' => (e = .returned (.bool false) ∧ J (k + 1) w') ∨ (e = .returned (.bool true) ∧ Jx k w'))
    (w : World) (h0 : J 0 w) :
    Calls Tryz.prog 120 #[.slice p vs.length cap, .func (.func 119) #[] #[c]] w fun e w' => (e = .returned (.int .i64 (-1)) ∧ J vs.length w') ∨ (∃ k : Nat, k < vs.length ∧ e = .returned (.int .i64 k) ∧ Jx k w') := by
  unfold maxLen at hm
  go_enter Tryz.func120, Tryz.ntmps120
  go_wp2
  go_loopw [5, 8] (fun _ i wr => ∃ k : Nat, k ≤ vs.length ∧ i = .int .i64 k ∧ J k wr) (fun _ i _ => vs.length - (intOf i).toNat)
  case atStart => exact ⟨0, Nat.zero_le _, rfl, h0⟩
  case round =>
    obtain ⟨k, hk, rfl, hJ⟩ := hrel
    by_cases hlt : k < vs.length
    · have hv : vs[k]? = some vs[k] := List.getElem?_eq_getElem hlt
      obtain ⟨b, o, rfl, hc1, hc2⟩ := hcell k _ _ hv hJ
      have hcall := hg k _ _ hv hJ
      clear hcell hg hv
      generalize vs[k] = v at *
      go_wp2_with (go_at_call 119; refine hcall.mono ?_; clear hcall; rintro e w' (⟨rfl, hJ'⟩ | ⟨rfl, hJx⟩))
      · go_roundw
        case rel => exact ⟨k + 1, by omega, by go_num, hJ'⟩
        case measure => simp [intOf]; omega
      · go_ret
        exact .inr ⟨k, hlt, rfl, hJx⟩
    · obtain rfl : k = vs.length := by omega
      go_wp2
      go_ret
      exact .inl ⟨rfl, hJ⟩
theorem con119 (J Jx : Nat → World → Prop) (c : Value) (p : Option Addr) (cap : Nat) (vs : List Vl) (hl : vs.length ≤ cap) (hm : cap ≤ maxLen)
    (hcell : ∀ k v w, vs[k]? = some v → J k w → CellsAt w p k v)
    (hg : ∀ k v w, vs[k]? = some v → J k w → Calls Tryz.prog 119 #[.agg #[.int .u8 v.1, .int .i64 v.2], c] w fun e w' => (e = .returned (.bool false) ∧ J (k + 1) w') ∨ (e = .returned (.bool true) ∧ Jx k w'))
    (w : World) (h0 : J 0 w) :
    Calls Tryz.prog 56 #[.slice p vs.length cap, .func (.func 119) #[] #[c]] w fun e w' => (e = .returned (.bool false) ∧ J vs.length w') ∨ (∃ k : Nat, k < vs.length ∧ e = .returned (.bool true) ∧ Jx k w') := by
  have hcall := idx119 J Jx c p cap vs hl hm hcell hg w h0
  clear hcell hg
  go_enter Tryz.func56, Tryz.ntmps56
  go_wp2_with (go_at_call 120; refine hcall.mono ?_; clear hcall; rintro e w' (⟨rfl, hJ'⟩ | ⟨k, hk, rfl, hJx⟩))
  · go_ret
    exact .inl ⟨rfl, hJ'⟩
  · go_ret
    exact .inr ⟨k, hk, by simp, hJx⟩

theorem idx60 (J Jx : Nat → World → Prop) (c : Value) (p : Option Addr) (cap : Nat) (vs : List Vl) (hl : vs.length ≤ cap) (hm : cap ≤ maxLen)
    (hcell : ∀ k v w, vs[k]? = some v → J k w → CellsAt w p k v)
    (hg : ∀ k v w, vs[k]? = some v → J k w → Calls Tryz.prog 60 #[.agg #[.int .u8 v.1, .int .i64 v.2], c] w fun e w' => (e = .returned (.bool false) ∧ J (k + 1) w') ∨ (e = .returned (.bool true) ∧ Jx k w'))
    (w : World) (h0 : J 0 w) :
    Calls Tryz.prog 120 #[.slice p vs.length cap, .func (.func 60) #[] #[c]] w fun e w' => (e = .returned (.int .i64 (-1)) ∧ J vs.length w') ∨ (∃ k : Nat, k < vs.length ∧ e = .returned (.int .i64 k) ∧ Jx k w') := by
  unfold maxLen at hm
  go_enter Tryz.func120, Tryz.ntmps120
  go_wp2
  go_loopw [5, 8] (fun _ i wr => ∃ k : Nat, k ≤ vs.length ∧ i = .int .i64 k ∧ J k wr) (fun _ i _ => vs.length - (intOf i).toNat)
  case atStart => exact ⟨0, Nat.zero_le _, rfl, h0⟩
  case round =>
    obtain ⟨k, hk, rfl, hJ⟩ := hrel
    by_cases hlt : k < vs.length
    · have hv : vs[k]? = some vs[k] := List.getElem?_eq_getElem hlt
      obtain ⟨b, o, rfl, hc1, hc2⟩ := hcell k _ _ hv hJ
      have hcall := hg k _ _ hv hJ
      clear hcell hg hv
      generalize vs[k] = v at *
      go_wp2_with (go_at_call 60; refine hcall.mono ?_; clear hcall; rintro e w' (⟨rfl, hJ'⟩ | ⟨rfl, hJx⟩))
      · go_roundw
        case rel => exact ⟨k + 1, by omega, by go_num, hJ'⟩
        case measure => simp [intOf]; omega
      · go_ret
        exact .inr ⟨k, hlt, rfl, hJx⟩
    · obtain rfl : k = vs.length := by omega
      go_wp2
      go_ret
      exact .inl ⟨rfl, hJ⟩
theorem con60 (J Jx : Nat → World → Prop) (c : Value) (p : Option Addr) (cap : Nat) (vs : List Vl) (hl : vs.length ≤ cap) (hm : cap ≤ maxLen)
    (hcell : ∀ k v w, vs[k]? = some v → J k w → CellsAt w p k v)
    (hg : ∀ k v w, vs[k]? = some v → J k w → Calls Tryz.prog 60 #[.agg #[.int .u8 v.1, .int .i64 v.2], c] w fun e w' => (e = .returned (.bool false) ∧ J (k + 1) w') ∨ (e = .returned (.bool true) ∧ Jx k w'))
    (w : World) (h0 : J 0 w) :
    Calls Tryz.prog 56 #[.slice p vs.length cap, .func (.func 60) #[] #[c]] w fun e w' => (e = .returned (.bool false) ∧ J vs.length w') ∨ (∃ k : Nat, k < vs.length ∧ e = .returned (.bool true) ∧ Jx k w') := by
  have hcall := idx60 J Jx c p cap vs hl hm hcell hg w h0
  clear hcell hg
  go_enter Tryz.func56, Tryz.ntmps56
  go_wp2_with (go_at_call 120; refine hcall.mono ?_; clear hcall; rintro e w' (⟨rfl, hJ'⟩ | ⟨k, hk, rfl, hJx⟩))
  · go_ret
    exact .inl ⟨rfl, hJ'⟩
  · go_ret
    exact .inr ⟨k, hk, by simp, hJx⟩

/-- the closures that ask: 'is it no value?', with the heap in a box -/
theorem ask57 (b : Nat) (p : Option Addr) (n cap : Nat) (v : Vl) (w : World) (hn : n ≤ 9223372036854775807) (hb : w.cell? ⟨b, 0, none⟩ = some (.slice p n cap)) (hlt : b < w.heap.size) :
    Calls Tryz.prog 57 #[.agg #[.int .u8 v.1, .int .i64 v.2], .pointer (some ⟨b, 0, none⟩)] w fun e w' => e = .returned (.bool (!isV n v)) ∧ Below w.heap.size w w' := by
  have hcall := fun w => is_any v.1 v.2 n (by omega) w
  go_enter Tryz.func57, Tryz.ntmps57
  go_wp2_with (go_at_call 51; refine (hcall _).mono ?_; clear hcall; rintro e w' ⟨rfl, hb'⟩)
  go_ret
  exact ⟨rfl, ((Below.refl _ _).alloc (Nat.le_refl _) _).trans (hb'.mono (by simp))⟩

theorem not57 (B b : Nat) (p : Option Addr) (n cap : Nat) (s : Value) (vs : List Vl) (w : World) (hn : n ≤ 9223372036854775807) (hb : w.cell? ⟨b, 0, none⟩ = some (.slice p n cap)) (hlt : b < w.heap.size) (hB : B ≤ w.heap.size) (hv : ValsAt B w s vs) :
    Calls Tryz.prog 56 #[s, .func (.func 57) #[] #[.pointer (some ⟨b, 0, none⟩)]] w fun e w' => e = .returned (.bool (!vs.all (isV n))) ∧ Below w.heap.size w w' := by
  obtain ⟨q, c, rfl, h1, h2, h3⟩ := hv
  refine (con57 (fun k w1 => Below w.heap.size w w1 ∧ ∀ i v, i < k → vs[i]? = some v → isV n v = true) (fun k w1 => Below w.heap.size w w1 ∧ ∃ v, vs[k]? = some v ∧ isV n v = false) _ q c vs h1 h2 ?_ ?_ w ⟨Below.refl _ _, fun i v hi => absurd hi (Nat.not_lt_zero _)⟩).mono ?_
  · rintro k v w1 hk ⟨hb1, _⟩
    obtain ⟨b', o, g1, g2, g3, g4⟩ := h3 k v hk
    exact ⟨b', o, g1, (hb1.cell (p := ⟨b', o + k * 2, none⟩) (Nat.lt_of_lt_of_le g2 hB)).trans g3, (hb1.cell (p := ⟨b', o + k * 2 + 1, none⟩) (Nat.lt_of_lt_of_le g2 hB)).trans g4⟩
  · rintro k v w1 hk ⟨hb1, hall⟩
    refine (ask57 b p n cap v w1 hn ((hb1.cell (p := ⟨b, 0, none⟩) hlt).trans hb) (Nat.lt_of_lt_of_le hlt hb1.size)).mono ?_
    rintro e w2 ⟨rfl, hb2⟩
    have hb3 : Below w.heap.size w w2 := hb1.trans (hb2.mono hb1.size)
    cases hi : isV n v with
    | true =>
      refine .inl ⟨rfl, hb3, fun i u hi' hu => ?_⟩
      by_cases he : i = k
      · subst he; rw [hk] at hu; cases hu; exact hi
      · exact hall i u (by omega) hu
    | false => exact .inr ⟨rfl, hb3, v, hk, hi⟩
  · rintro e w' (⟨rfl, hb1, hall⟩ | ⟨k, hk, rfl, hb1, v, hv, hf⟩)
    · refine ⟨ret_bool ?_, hb1⟩
      have : vs.all (isV n) = true := List.all_eq_true.2 fun u hu => by
        obtain ⟨i, hi⟩ := List.getElem?_of_mem hu
        exact hall i u (List.getElem?_eq_some_iff.1 hi).1 hi
      rw [this]; rfl
    · refine ⟨ret_bool ?_, hb1⟩
      have : vs.all (isV n) = false := by
        rw [List.all_eq_false]
        exact ⟨v, List.mem_of_getElem? hv, by rw [hf]; simp⟩
      rw [this]; rfl

/-- the closures that ask: 'is it no value?', with the heap in a box -/
theorem ask119 (b : Nat) (p : Option Addr) (n cap : Nat) (v : Vl) (w : World) (hn : n ≤ 9223372036854775807) (hb : w.cell? ⟨b, 0, none⟩ = some (.slice p n cap)) (hlt : b < w.heap.size) :
    Calls Tryz.prog 119 #[.agg #[.int .u8 v.1, .int .i64 v.2], .pointer (some ⟨b, 0, none⟩)] w fun e w' => e = .returned (.bool (!isV n v)) ∧ Below w.heap.size w w' := by
  have hcall := fun w => is_any v.1 v.2 n (by omega) w
  go_enter Tryz.func119, Tryz.ntmps119
  go_wp2_with (go_at_call 51; refine (hcall _).mono ?_; clear hcall; rintro e w' ⟨rfl, hb'⟩)
  go_ret
  exact ⟨rfl, ((Below.refl _ _).alloc (Nat.le_refl _) _).trans (hb'.mono (by simp))⟩

theorem not119 (B b : Nat) (p : Option Addr) (n cap : Nat) (s : Value) (vs : List Vl) (w : World) (hn : n ≤ 9223372036854775807) (hb : w.cell? ⟨b, 0, none⟩ = some (.slice p n cap)) (hlt : b < w.heap.size) (hB : B ≤ w.heap.size) (hv : ValsAt B w s vs) :
    Calls Tryz.prog 56 #[s, .func (.func 119) #[] #[.pointer (some ⟨b, 0, none⟩)]] w fun e w' => e = .returned (.bool (!vs.all (isV n))) ∧ Below w.heap.size w w' := by
  obtain ⟨q, c, rfl, h1, h2, h3⟩ := hv
  refine (con119 (fun k w1 => Below w.heap.size w w1 ∧ ∀ i v, i < k → vs[i]? = some v → isV n v = true) (fun k w1 => Below w.heap.size w w1 ∧ ∃ v, vs[k]? = some v ∧ isV n v = false) _ q c vs h1 h2 ?_ ?_ w ⟨Below.refl _ _, fun i v hi => absurd hi (Nat.not_lt_zero _)⟩).mono ?_
  · rintro k v w1 hk ⟨hb1, _⟩
    obtain ⟨b', o, g1, g2, g3, g4⟩ := h3 k v hk
    exact ⟨b', o, g1, (hb1.cell (p := ⟨b', o + k * 2, none⟩) (Nat.lt_of_lt_of_le g2 hB)).trans g3, (hb1.cell (p := ⟨b', o + k * 2 + 1, none⟩) (Nat.lt_of_lt_of_le g2 hB)).trans g4⟩
  · rintro k v w1 hk ⟨hb1, hall⟩
    refine (ask119 b p n cap v w1 hn ((hb1.cell (p := ⟨b, 0, none⟩) hlt).trans hb) (Nat.lt_of_lt_of_le hlt hb1.size)).mono ?_
    rintro e w2 ⟨rfl, hb2⟩
    have hb3 : Below w.heap.size w w2 := hb1.trans (hb2.mono hb1.size)
    cases hi : isV n v with
    | true =>
      refine .inl ⟨rfl, hb3, fun i u hi' hu => ?_⟩
      by_cases he : i = k
      · subst he; rw [hk] at hu; cases hu; exact hi
      · exact hall i u (by omega) hu
    | false => exact .inr ⟨rfl, hb3, v, hk, hi⟩
  · rintro e w' (⟨rfl, hb1, hall⟩ | ⟨k, hk, rfl, hb1, v, hv, hf⟩)
    · refine ⟨ret_bool ?_, hb1⟩
      have : vs.all (isV n) = true := List.all_eq_true.2 fun u hu => by
        obtain ⟨i, hi⟩ := List.getElem?_of_mem hu
        exact hall i u (List.getElem?_eq_some_iff.1 hi).1 hi
      rw [this]; rfl
    · refine ⟨ret_bool ?_, hb1⟩
      have : vs.all (isV n) = false := by
        rw [List.all_eq_false]
        exact ⟨v, List.mem_of_getElem? hv, by rw [hf]; simp⟩
      rw [this]; rfl

end Go.Proofs.YtdolijagffcfgaaGreatDoor
