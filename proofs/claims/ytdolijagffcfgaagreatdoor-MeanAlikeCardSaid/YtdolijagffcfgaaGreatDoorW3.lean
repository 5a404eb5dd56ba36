/-
  The walks of closed and asked.
-/
import Derived.Test.YtdolijagffcfgaaGreatDoorW2
namespace Go.Proofs.YtdolijagffcfgaaGreatDoor
open Go Go.RowKit Go.Mn
set_option maxHeartbeats 2000000
set_option maxRecDepth 20000

/-- an object is as it must be, in a heap of so many -/
def okAll (n : Nat) (x : Ob) : Bool := okO x && x.2.2.all (isV n)

theorem closed_any (B : Nat) (s : Value) (h : Hp) (w : World) (hB : B ≤ w.heap.size) (hs : HeapAt B w s h) :
    Calls Tryz.prog 55 #[s] w fun e w' => e = .returned (.bool (closedH h)) ∧ Below w.heap.size w w' := by
  obtain ⟨p, cap, rfl, hl, hm, hc⟩ := hs
  unfold maxLen at hm
  by_cases hbig : 5000 < h.length
  · have hf : closedH h = false := by
      unfold closedH
      rw [decide_eq_false (by omega), Bool.false_and]
    rw [hf]
    clear hc hf
    go_enter Tryz.func55, Tryz.ntmps55
    go_wp2
    go_ret
    exact ⟨rfl, (Below.refl _ _).alloc (Nat.le_refl _) _⟩
  · have hle : h.length ≤ 5000 := by omega
    clear hbig
    go_enter Tryz.func55, Tryz.ntmps55
    go_wp2
    go_loopw [4, 5, 11] (fun _ _ i wr => ∃ k : Nat, k ≤ h.length ∧ i = .int .i64 k ∧ Below (w.heap.size + 1) (w.alloc (.cells #[.slice p h.length cap] 22)) wr ∧ ∀ j x, j < k → h[j]? = some x → okAll h.length x = true) (fun _ _ i _ => h.length - (intOf i).toNat)
    case atStart => exact ⟨0, Nat.zero_le _, rfl, Below.refl _ _, fun j x hj => absurd hj (Nat.not_lt_zero _)⟩
    case round =>
      obtain ⟨k, hk, rfl, hbl, hall⟩ := hrel
      by_cases hlt : k < h.length
      · have hx : h[k]? = some h[k] := List.getElem?_eq_getElem hlt
        obtain ⟨b, o, sv, rfl, g2, c0, c1, c2, hv⟩ := hc k _ hx
        have Hall := Lib.hid hall
        have Hx := Lib.hid hx
        clear hc hx hall
        generalize h[k] = x at *
        have hW : Below w.heap.size w wr := ((Below.refl _ w).alloc (Nat.le_refl _) _).trans (hbl.mono (by omega))
        have hsz := hW.size
        have d0 := (hW.cell (p := ⟨b, o + k * 3, none⟩) (by show b < _; omega)).trans c0
        have d1 := (hW.cell (p := ⟨b, o + k * 3 + 1, none⟩) (by show b < _; omega)).trans c1
        have d2 := (hW.cell (p := ⟨b, o + k * 3 + 2, none⟩) (by show b < _; omega)).trans c2
        have hbox : wr.cell? ⟨w.heap.size, 0, none⟩ = some (.slice (some ⟨b, o, none⟩) h.length cap) := (hbl.cell (p := ⟨w.heap.size, 0, none⟩) (by show w.heap.size < _; omega)).trans (cell_new1 _ _ _)
        have hwr : w.heap.size + 1 ≤ wr.heap.size := by have := hbl.size; simpa using this
        have hv' : ValsAt B wr sv x.2.2 := hv.below (hW.mono hB)
        have hcall : ∀ w1, Below wr.heap.size wr w1 → Calls Tryz.prog 56 #[sv, .func (.func 119) #[] #[.pointer (some ⟨w.heap.size, 0, none⟩)]] w1 fun e w2 => e = .returned (.bool (!x.2.2.all (isV h.length))) ∧ Below wr.heap.size wr w2 := by
          intro w1 h1
          refine (not119 B w.heap.size _ h.length cap sv x.2.2 w1 (by omega) ((h1.cell (p := ⟨w.heap.size, 0, none⟩) (by show w.heap.size < _; omega)).trans hbox) (by have := h1.size; omega) (by have := h1.size; omega) (hv'.below (h1.mono (by omega)))).mono ?_
          rintro e w2 ⟨rfl, h2⟩
          exact ⟨rfl, h1.trans (h2.mono h1.size)⟩
        obtain ⟨q, c3, rfl, hl3, hm3, _⟩ := hv
        have Hbl := Lib.hid hbl
        have HW := Lib.hid hW
        clear hv' c0 c1 c2 hbox hbl hW
        obtain ⟨kind, tag, vals⟩ := x
        dsimp only at *
        unfold maxLen at hm3
        -- what the object is
        have bad : okAll h.length (kind, tag, vals) = false → closedH h = false := fun hf => by
          cases hcl : closedH h with
          | false => rfl
          | true =>
            have := (closedH_iff.1 hcl).2 _ (List.mem_of_getElem? Hx.out)
            unfold okAll at hf
            rw [this.1, Bool.true_and, List.all_eq_false] at hf
            obtain ⟨u, hu, hn⟩ := hf
            exact absurd (this.2 u hu) hn
        have Bad := Lib.hid bad
        have good : okAll h.length (kind, tag, vals) = true → ∀ j x, j < k + 1 → h[j]? = some x → okAll h.length x = true := fun hf j y hj hy => by
          by_cases he : j = k
          · subst he; have := Hx.out; rw [hy] at this; cases this; exact hf
          · exact Hall.out j y (by omega) hy
        have Good := Lib.hid good
        clear bad good
        cases hvs : vals.all (isV h.length) with
        | true =>
          rw [hvs] at hcall
          have Hvs := Lib.hid hvs
          clear hvs
          go_wp2_with (first
            | (go_at_call 107; refine (within_any _ _ _ _).mono ?_; rintro e w' ⟨rfl, rfl⟩)
            | (go_at_call 56; refine (hcall _ ((Below.refl _ _).alloc (Nat.le_refl _) _)).mono ?_; rintro e w' ⟨rfl, hcw⟩))
          all_goals first
            | (go_roundw
               case rel => exact ⟨k + 1, by omega, by go_num, Hbl.out.trans (hcw.mono hwr), Good.out (by have := Hvs.out; unfold okAll okO; simp_all <;> omega)⟩
               case measure => simp [intOf]; omega)
            | (go_ret
               refine ⟨ret_bool (Bad.out ?_).symm, ?_⟩
               · unfold okAll okO
                 simp_all <;> omega
               · exact HW.out.alloc hsz _)
        | false =>
          rw [hvs] at hcall
          have hbad : closedH h = false := Bad.out (by unfold okAll; rw [hvs, Bool.and_false])
          have Hbad := Lib.hid hbad
          clear hbad hvs
          go_wp2_with (first
            | (go_at_call 107; refine (within_any _ _ _ _).mono ?_; rintro e w' ⟨rfl, rfl⟩)
            | (go_at_call 56; refine (hcall _ ((Below.refl _ _).alloc (Nat.le_refl _) _)).mono ?_; rintro e w' ⟨rfl, hcw⟩))
          all_goals
            go_ret
            refine ⟨ret_bool Hbad.out.symm, ?_⟩
            first
              | exact HW.out.trans (hcw.mono hsz)
              | exact HW.out.alloc hsz _
      · obtain rfl : k = h.length := by omega
        have hcl : closedH h = true := closedH_iff.2 ⟨hle, fun x hx => by
          obtain ⟨i, hi⟩ := List.getElem?_of_mem hx
          have := hall i x (List.getElem?_eq_some_iff.1 hi).1 hi
          unfold okAll at this
          rw [Bool.and_eq_true, List.all_eq_true] at this
          exact this⟩
        have hW : Below w.heap.size w wr := ((Below.refl _ w).alloc (Nat.le_refl _) _).trans (hbl.mono (by omega))
        have Hcl := Lib.hid hcl
        clear hc hall hcl
        go_wp2
        go_ret
        exact ⟨ret_bool Hcl.out.symm, hW⟩

theorem asked_any (B : Nat) (s t : Value) (h : Hp) (v : List Vl) (w : World) (hB : B ≤ w.heap.size) (hs : HeapAt B w s h) (hv : ValsAt B w t v) :
    Calls Tryz.prog 22 #[s, t] w fun e w' => e = .returned (.bool (asked h v)) ∧ Below w.heap.size w w' := by
  have hb0 : Below w.heap.size w (w.alloc (.cells #[s] 22)) := (Below.refl _ _).alloc (Nat.le_refl _) _
  have hcl := closed_any B s h (w.alloc (.cells #[s] 22)) (by simp; omega) (hs.below (hb0.mono hB))
  obtain ⟨p, cap, rfl, hl, hm, hc⟩ := hs
  have hnot : ∀ w1, Below (w.heap.size + 1) (w.alloc (.cells #[.slice p h.length cap] 22)) w1 → Calls Tryz.prog 56 #[t, .func (.func 57) #[] #[.pointer (some ⟨w.heap.size, 0, none⟩)]] w1 fun e w2 => e = .returned (.bool (!v.all (isV h.length))) ∧ Below w.heap.size w w2 := by
    intro w1 h1
    have h2 := h1.size
    simp at h2
    unfold maxLen at hm
    refine (not57 B w.heap.size p h.length cap t v w1 (by omega) ((h1.cell (p := ⟨w.heap.size, 0, none⟩) (by show w.heap.size < _; omega)).trans (cell_new1 _ _ _)) (by omega) (by omega) (hv.below ((hb0.trans (h1.mono (by omega))).mono hB))).mono ?_
    rintro e w2 ⟨rfl, h3⟩
    exact ⟨rfl, (hb0.trans (h1.mono (by omega))).trans (h3.mono (by omega))⟩
  clear hc
  have hask : ∀ a, closedH h = a → asked h v = (a && v.all (isV h.length)) := fun a ha => by unfold asked; rw [ha]
  cases hch : closedH h with
  | true =>
    rw [hask true hch, Bool.true_and]
    rw [hch] at hcl
    clear hask hch
    go_enter Tryz.func22, Tryz.ntmps22
    go_wp2_with (first
      | (go_at_call 55; refine hcl.mono ?_; clear hcl; rintro e w' ⟨rfl, h1⟩)
      | (go_at_call 56; refine (hnot _ (by simpa using h1)).mono ?_; clear hnot; rintro e w' ⟨rfl, h2⟩))
    go_ret
    exact ⟨ret_bool (by simp), h2⟩
  | false =>
    rw [hask false hch, Bool.false_and]
    rw [hch] at hcl
    clear hask hch
    go_enter Tryz.func22, Tryz.ntmps22
    go_wp2_with (go_at_call 55; refine hcl.mono ?_; clear hcl; rintro e w' ⟨rfl, h1⟩)
    go_ret
    exact ⟨rfl, hb0.trans (h1.mono (by simp))⟩
end Go.Proofs.YtdolijagffcfgaaGreatDoor
