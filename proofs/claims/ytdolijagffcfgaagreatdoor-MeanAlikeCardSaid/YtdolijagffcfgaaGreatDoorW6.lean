/-
  The walk of small.
-/
import Derived.Test.YtdolijagffcfgaaGreatDoorW2
namespace Go.Proofs.YtdolijagffcfgaaGreatDoor
open Go Go.RowKit Go.Mn
set_option maxHeartbeats 2000000
set_option maxRecDepth 20000

def smallB (h : Hp) (v : List Vl) : Bool := decide (h.length ≤ 40) && (decide (v.length ≤ 10) && h.all fun x => decide (x.2.2.length ≤ 40))

theorem small_any (B : Nat) (s t : Value) (h : Hp) (v : List Vl) (w : World) (hs : HeapAt B w s h) (ht : ValsAt B w t v) :
    Calls Tryz.prog 5 #[s, t] w fun e w' => e = .returned (.bool (smallB h v)) ∧ w = w' := by
  obtain ⟨p, c, rfl, hl, hm, hc⟩ := hs
  obtain ⟨p2, c2, rfl, hl2, hm2, _⟩ := ht
  unfold maxLen at hm hm2
  by_cases h1 : h.length ≤ 40
  · by_cases h2 : v.length ≤ 10
    · go_enter Tryz.func5, Tryz.ntmps5
      go_wp2
      go_loop [5] (fun i => ∃ k : Nat, k ≤ h.length ∧ i = .int .i64 k ∧ ∀ j x, j < k → h[j]? = some x → x.2.2.length ≤ 40) (fun i => h.length - (intOf i).toNat)
      case atStart => exact ⟨0, Nat.zero_le _, rfl, fun j x hj => absurd hj (Nat.not_lt_zero _)⟩
      case round =>
        obtain ⟨k, hk, rfl, hall⟩ := hrel
        by_cases hlt : k < h.length
        · have hx : h[k]? = some h[k] := List.getElem?_eq_getElem hlt
          obtain ⟨q1, o1, sv, rfl, g1, e1, e2, e3, q, cc, rfl, l1, l2, _⟩ := hc k _ hx
          have Hx := Lib.hid hx
          have Hall := Lib.hid hall
          clear hc hx hall
          generalize h[k] = x at *
          unfold maxLen at l2
          by_cases h3 : x.2.2.length ≤ 40
          · go_wp2
            go_round
            case rel => exact ⟨k + 1, by omega, by go_num, fun j y hj hy => by
              by_cases he : j = k
              · subst he; have := Hx.out; rw [hy] at this; cases this; exact h3
              · exact Hall.out j y (by omega) hy⟩
            case measure => simp [intOf]; omega
          · have hf : smallB h v = false := by
              unfold smallB
              have : (h.all fun x => decide (x.2.2.length ≤ 40)) = false := by
                rw [List.all_eq_false]
                exact ⟨x, List.mem_of_getElem? Hx.out, by simpa using h3⟩
              rw [this, Bool.and_false, Bool.and_false]
            have Hf := Lib.hid hf
            clear hf
            go_wp2
            go_ret
            exact ⟨ret_bool Hf.out.symm, rfl⟩
        · obtain rfl : k = h.length := by omega
          have hf : smallB h v = true := by
            unfold smallB
            rw [decide_eq_true h1, decide_eq_true h2, Bool.true_and, Bool.true_and, List.all_eq_true]
            intro x hx
            obtain ⟨i, hi⟩ := List.getElem?_of_mem hx
            exact decide_eq_true (hall i x (List.getElem?_eq_some_iff.1 hi).1 hi)
          have Hf := Lib.hid hf
          clear hf hc hall
          go_wp2
          go_ret
          exact ⟨ret_bool Hf.out.symm, rfl⟩
    · have hf : smallB h v = false := by
        unfold smallB
        rw [decide_eq_false h2, Bool.false_and, Bool.and_false]
      rw [hf]
      clear hc hf
      go_enter Tryz.func5, Tryz.ntmps5
      go_wp2
      go_ret
      exact ⟨rfl, rfl⟩
  · have hf : smallB h v = false := by
      unfold smallB
      rw [decide_eq_false h1, Bool.false_and]
    rw [hf]
    clear hc hf
    go_enter Tryz.func5, Tryz.ntmps5
    go_wp2
    go_ret
    exact ⟨rfl, rfl⟩
end Go.Proofs.YtdolijagffcfgaaGreatDoor
