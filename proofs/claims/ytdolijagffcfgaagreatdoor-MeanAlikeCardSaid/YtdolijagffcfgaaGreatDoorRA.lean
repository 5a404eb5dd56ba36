/-
  The walks of the reference: Closed, values, none, alike where nothing new is met; what its mover has in memory, and moved where nothing new is met. No condition but how the arguments lie.
-/
import Derived.Test.YtdolijagffcfgaaGreatDoorW3
import Derived.Test.YtdolijagffcfgaaGreatDoorReach
import Derived.OwnWalk
import Derived.Deep.QuietTactic
import Derived.BigQuiet
import Derived.Test.YtdolijagffcfgaaGreatDoorPlain
import Derived.Test.YtdolijagffcfgaaGreatDoorW4
import Derived.Laws.OwnMore
import Derived.BigRegion
namespace Go.Proofs.YtdolijagffcfgaaGreatDoor
open Go Go.RowKit Go.Mn
set_option maxHeartbeats 4000000
set_option maxRecDepth 20000

theorem closed_bad {h : Hp} {k : Nat} {x : Ob} (hx : h[k]? = some x) (hf : okAll h.length x = false) : closedH h = false := by
  cases hcl : closedH h with
  | false => rfl
  | true =>
    have := (closedH_iff.1 hcl).2 _ (List.mem_of_getElem? hx)
    unfold okAll at hf
    rw [this.1, Bool.true_and, List.all_eq_false] at hf
    obtain ⟨u, hu, hn⟩ := hf
    exact absurd (this.2 u hu) hn
theorem okAll_bad {n k : Nat} {x : Ob} {v : Vl} (hv : x.2.2[k]? = some v) (hf : isV n v = false) : okAll n x = false := by
  unfold okAll
  have : x.2.2.all (isV n) = false := by
    rw [List.all_eq_false]
    exact ⟨v, List.mem_of_getElem? hv, by rw [hf]; exact Bool.false_ne_true⟩
  rw [this, Bool.and_false]
theorem okAll_bad0 {n : Nat} {x : Ob} (hf : okO x = false) : okAll n x = false := by unfold okAll; rw [hf, Bool.false_and]
theorem okAll_good {n : Nat} {x : Ob} (h0 : okO x = true) (h : ∀ j v, j < x.2.2.length → x.2.2[j]? = some v → isV n v = true) : okAll n x = true := by
  unfold okAll
  rw [h0, Bool.true_and, List.all_eq_true]
  intro v hv
  obtain ⟨i, hi⟩ := List.getElem?_of_mem hv
  exact h i v (List.getElem?_eq_some_iff.1 hi).1 hi

theorem okO_three {kind tag : Int} {vals : List Vl} (h : okO (kind, tag, vals) = true) : (kind = 1 ∧ tag = 0 ∧ vals.length ≤ 200) ∨ (kind = 2 ∧ tag = 0 ∧ 1 ≤ vals.length ∧ vals.length ≤ 6) ∨ (kind = 3 ∧ (0 ≤ tag ∧ tag ≤ 5) ∧ vals.length = 1) := by
  unfold okO at h
  dsimp only at h
  split at h
  · simp at h; omega
  · split at h
    · simp at h; omega
    · split at h
      · simp at h; omega
      · cases h

theorem cell_new3 (w : World) (a b c : Value) (t : TypeId) : (w.alloc (.cells #[a, b, c] t)).cell? ⟨w.heap.size, 2, none⟩ = some c := by
  have h := World.alloc_heap_new w (.cells #[a, b, c] t)
  unfold World.cell?
  rw [h]
  rfl

theorem closed6_any (B : Nat) (s : Value) (h : Hp) (w : World) (hB : B ≤ w.heap.size) (hs : HeapAt B w s h) :
    Calls Tryz.prog 53 #[s] w fun e w' => e = .returned (.bool (closedH h)) ∧ Below w.heap.size w w' := by
  obtain ⟨p, cap, rfl, hl, hm, hc⟩ := hs
  unfold maxLen at hm
  by_cases hbig : 5000 < h.length
  · have hf : closedH h = false := by
      unfold closedH
      rw [decide_eq_false (by omega), Bool.false_and]
    rw [hf]
    clear hc hf
    go_enter Tryz.func53, Tryz.ntmps53
    go_wp2
    go_ret
    exact ⟨rfl, Below.refl _ _⟩
  · have hle : h.length ≤ 5000 := by omega
    clear hbig
    go_enter Tryz.func53, Tryz.ntmps53
    go_wp2
    go_loopw [3, 4, 5, 6, 7, 8] (fun i _ _ _ _ _ wr => ∃ k : Nat, k ≤ h.length ∧ i = .int .i64 k ∧ Below w.heap.size w wr ∧ ∀ j x, j < k → h[j]? = some x → okAll h.length x = true) (fun i _ _ _ _ _ _ => h.length - (intOf i).toNat)
    case atStart => exact ⟨0, Nat.zero_le _, rfl, Below.refl _ _, fun j x hj => absurd hj (Nat.not_lt_zero _)⟩
    case round =>
      obtain ⟨k, hk, rfl, hW, hall⟩ := hrel
      by_cases hlt : k < h.length
      · have hx : h[k]? = some h[k] := List.getElem?_eq_getElem hlt
        obtain ⟨b, o, sv, rfl, g2, c0, c1, c2, hv⟩ := hc k _ hx
        have Hall := Lib.hid hall
        have Hx := Lib.hid hx
        clear hc hx hall
        generalize h[k] = x at *
        have hsz := hW.size
        have d0 := (hW.cell (p := ⟨b, o + k * 3, none⟩) (by show b < _; omega)).trans c0
        have d1 := (hW.cell (p := ⟨b, o + k * 3 + 1, none⟩) (by show b < _; omega)).trans c1
        have d2 := (hW.cell (p := ⟨b, o + k * 3 + 2, none⟩) (by show b < _; omega)).trans c2
        obtain ⟨q, c3, rfl, hl3, hm3, hvc⟩ := hv
        have HW := Lib.hid hW
        have Hvc := Lib.hid hvc
        clear hvc c0 c1 c2 hW
        obtain ⟨kind, tag, vals⟩ := x
        dsimp only at *
        unfold maxLen at hm3
        cases hok : okO (kind, tag, vals) with
        | false =>
          have hbad : closedH h = false := closed_bad Hx.out (okAll_bad0 hok)
          have Hbad := Lib.hid hbad
          have Hok := Lib.hid hok
          clear hbad hok
          go_wp2_with (go_at_call 118; refine (within6_any _ _ _ _).mono ?_; rintro e w' ⟨rfl, rfl⟩)
          all_goals first
            | (go_ret
               exact ⟨ret_bool Hbad.out.symm, HW.out.alloc hsz _⟩)
            | (exfalso
               have := Hok.out
               unfold okO at this
               simp_all <;> omega)
        | true =>
          have hthree : (kind = 1 ∧ tag = 0 ∧ vals.length ≤ 200) ∨ (kind = 2 ∧ tag = 0 ∧ 1 ≤ vals.length ∧ vals.length ≤ 6) ∨ (kind = 3 ∧ (0 ≤ tag ∧ tag ≤ 5) ∧ vals.length = 1) := okO_three hok
          have Hok := Lib.hid hok
          clear hok
          rcases hthree with ⟨rfl, rfl, hn⟩ | ⟨rfl, rfl, hn⟩ | ⟨rfl, ht, hn⟩
          all_goals
            go_wp2_with (go_at_call 118; refine (within6_any _ _ _ _).mono ?_; rintro e w' ⟨rfl, rfl⟩)
            all_goals first
              | (go_ret
                 exfalso
                 simp_all <;> omega)
              | (try (have hd : decide ((vals.length : Int) ≤ 200) = true := (by simp; omega)
                      rw [hd])
                 skip
                 go_loopw [7, 8] (fun i _ w2 => ∃ m : Nat, m ≤ vals.length ∧ i = .int .i64 m ∧ Below w.heap.size w w2 ∧ w2.cell? ⟨wr.heap.size, 2, none⟩ = some (.slice q vals.length c3) ∧ wr.heap.size + 1 ≤ w2.heap.size ∧ ∀ j v, j < m → vals[j]? = some v → isV h.length v = true) (fun i _ _ => vals.length - (intOf i).toNat)
                 case atStart => exact ⟨0, Nat.zero_le _, rfl, HW.out.alloc hsz _, (cell_new3 _ _ _ _ _).trans (by first | rfl | rw [hn]), by simp, fun j x hj => absurd hj (Nat.not_lt_zero _)⟩
                 case round =>
                   obtain ⟨m, hm4, rfl, hW2, hbox, hsz2, hallv⟩ := hrel
                   have hsz3 := hW2.size
                   by_cases hlt2 : m < vals.length
                   · have hy : vals[m]? = some vals[m] := List.getElem?_eq_getElem hlt2
                     obtain ⟨b2, o2, rfl, g3, e1, e2⟩ := Hvc.out m _ hy
                     have Hy := Lib.hid hy
                     have Hallv := Lib.hid hallv
                     clear hy hallv
                     generalize vals[m] = y at *
                     have d3 := (hW2.cell (p := ⟨b2, o2 + m * 2, none⟩) (by show b2 < _; omega)).trans e1
                     have d4 := (hW2.cell (p := ⟨b2, o2 + m * 2 + 1, none⟩) (by show b2 < _; omega)).trans e2
                     have HW2 := Lib.hid hW2
                     clear e1 e2 hW2
                     cases hyv : isV h.length y with
                     | true =>
                       have Hyv := Lib.hid hyv
                       go_wp2_with (go_at_call 54; refine (value6_any _ _ _ (by omega) _).mono ?_; rintro e w' ⟨rfl, hcw⟩; rw [hyv])
                       all_goals
                         go_roundw
                         case rel => exact ⟨m + 1, by omega, by go_num, HW2.out.trans (hcw.mono hsz3), by refine (hcw.cell ?_).trans hbox; dsimp only; omega, by have := hcw.size; omega, fun j v hj hv => by
                           by_cases he : j = m
                           · subst he; have := Hy.out; rw [hv] at this; cases this; exact Hyv.out
                           · exact Hallv.out j v (by omega) hv⟩
                         case measure => simp [intOf]; omega
                     | false =>
                       have hbad : closedH h = false := closed_bad Hx.out (okAll_bad Hy.out hyv)
                       have Hbad := Lib.hid hbad
                       clear hbad
                       go_wp2_with (go_at_call 54; refine (value6_any _ _ _ (by omega) _).mono ?_; rintro e w' ⟨rfl, hcw⟩; rw [hyv])
                       all_goals
                         go_ret
                         exact ⟨ret_bool Hbad.out.symm, HW2.out.trans (hcw.mono hsz3)⟩
                   · obtain rfl : m = vals.length := by omega
                     have hgood := okAll_good (x := (_, _, vals)) Hok.out hallv
                     have Hgood := Lib.hid hgood
                     clear hgood hallv
                     go_wp2
                     go_roundw
                     case rel => exact ⟨k + 1, by omega, by go_num, hW2, fun j y hj hy => by
                       by_cases he : j = k
                       · subst he; have := Hx.out; rw [hy] at this; cases this; exact Hgood.out
                       · exact Hall.out j y (by omega) hy⟩
                     case measure => simp [intOf]; omega)
      · obtain rfl : k = h.length := by omega
        have hcl : closedH h = true := closedH_iff.2 ⟨hle, fun x hx => by
          obtain ⟨i, hi⟩ := List.getElem?_of_mem hx
          have := hall i x (List.getElem?_eq_some_iff.1 hi).1 hi
          unfold okAll at this
          rw [Bool.and_eq_true, List.all_eq_true] at this
          exact this⟩
        have Hcl := Lib.hid hcl
        clear hc hall hcl
        go_wp2
        go_ret
        exact ⟨ret_bool Hcl.out.symm, hW⟩
end Go.Proofs.YtdolijagffcfgaaGreatDoor

namespace Go.Proofs.YtdolijagffcfgaaGreatDoor
open Go Go.RowKit Go.Mn
set_option maxHeartbeats 4000000
set_option maxRecDepth 20000

theorem asked_bad {h : Hp} {v : List Vl} {k : Nat} {x : Vl} (hx : v[k]? = some x) (hf : isV h.length x = false) : asked h v = false := by
  unfold asked
  have : v.all (isV h.length) = false := by
    rw [List.all_eq_false]
    exact ⟨x, List.mem_of_getElem? hx, by rw [hf]; exact Bool.false_ne_true⟩
  rw [this, Bool.and_false]

theorem values6_any (B : Nat) (s t : Value) (h : Hp) (v : List Vl) (w : World) (hB : B ≤ w.heap.size) (hs : HeapAt B w s h) (ht : ValsAt B w t v) :
    Calls Tryz.prog 19 #[s, t] w fun e w' => e = .returned (.bool (asked h v)) ∧ Below w.heap.size w w' := by
  have hcl := closed6_any B s h w hB hs
  obtain ⟨p, cap, rfl, hl, hm, hc⟩ := hs
  obtain ⟨q, cap2, rfl, hl2, hm2, hvc⟩ := ht
  unfold maxLen at hm hm2
  clear hc
  cases hch : closedH h with
  | false =>
    have hask : asked h v = false := by unfold asked; rw [hch, Bool.false_and]
    rw [hask]
    rw [hch] at hcl
    clear hask hch
    go_enter Tryz.func19, Tryz.ntmps19
    go_wp2_with (go_at_call 53; refine hcl.mono ?_; clear hcl; rintro e w' ⟨rfl, h1⟩)
    go_ret
    exact ⟨rfl, h1⟩
  | true =>
    have hle : h.length ≤ 5000 := (closedH_iff.1 hch).1
    have Hch := Lib.hid hch
    rw [hch] at hcl
    clear hch
    go_enter Tryz.func19, Tryz.ntmps19
    go_wp2_with (go_at_call 53; refine hcl.mono ?_; clear hcl; rintro e w' ⟨rfl, h1⟩)
    have hsz1 := h1.size
    go_loopw [5, 6] (fun i _ wr => ∃ k : Nat, k ≤ v.length ∧ i = .int .i64 k ∧ Below w.heap.size w wr ∧ ∀ j x, j < k → v[j]? = some x → isV h.length x = true) (fun i _ _ => v.length - (intOf i).toNat)
    case atStart => exact ⟨0, Nat.zero_le _, rfl, h1, fun j x hj => absurd hj (Nat.not_lt_zero _)⟩
    case round =>
      obtain ⟨m, hm4, rfl, hW2, hallv⟩ := hrel
      have hsz3 := hW2.size
      by_cases hlt2 : m < v.length
      · have hy : v[m]? = some v[m] := List.getElem?_eq_getElem hlt2
        obtain ⟨b2, o2, rfl, g3, e1, e2⟩ := hvc m _ hy
        have Hy := Lib.hid hy
        have Hallv := Lib.hid hallv
        clear hy hallv hvc
        generalize v[m] = y at *
        have d3 := (hW2.cell (p := ⟨b2, o2 + m * 2, none⟩) (by show b2 < _; omega)).trans e1
        have d4 := (hW2.cell (p := ⟨b2, o2 + m * 2 + 1, none⟩) (by show b2 < _; omega)).trans e2
        have HW2 := Lib.hid hW2
        clear e1 e2 hW2
        cases hyv : isV h.length y with
        | true =>
          have Hyv := Lib.hid hyv
          go_wp2_with (go_at_call 54; refine (value6_any _ _ _ (by omega) _).mono ?_; rintro e w' ⟨rfl, hcw⟩; rw [hyv])
          all_goals
            go_roundw
            case rel => exact ⟨m + 1, by omega, by go_num, HW2.out.trans (hcw.mono hsz3), fun j x hj hx => by
              by_cases he : j = m
              · subst he; have := Hy.out; rw [hx] at this; cases this; exact Hyv.out
              · exact Hallv.out j x (by omega) hx⟩
            case measure => simp [intOf]; omega
        | false =>
          have hbad : asked h v = false := asked_bad Hy.out hyv
          have Hbad := Lib.hid hbad
          clear hbad
          go_wp2_with (go_at_call 54; refine (value6_any _ _ _ (by omega) _).mono ?_; rintro e w' ⟨rfl, hcw⟩; rw [hyv])
          all_goals
            go_ret
            exact ⟨ret_bool Hbad.out.symm, HW2.out.trans (hcw.mono hsz3)⟩
      · obtain rfl : m = v.length := by omega
        have hgood : asked h v = true := by
          unfold asked
          rw [Hch.out, Bool.true_and, List.all_eq_true]
          intro x hx
          obtain ⟨i, hi⟩ := List.getElem?_of_mem hx
          exact hallv i x (List.getElem?_eq_some_iff.1 hi).1 hi
        have Hgood := Lib.hid hgood
        clear hgood hallv hvc
        go_wp2
        go_ret
        exact ⟨ret_bool Hgood.out.symm, hW2⟩
end Go.Proofs.YtdolijagffcfgaaGreatDoor

namespace Go.Proofs.YtdolijagffcfgaaGreatDoor
open Go Go.RowKit Go.Mn
set_option maxHeartbeats 4000000
set_option maxRecDepth 20000

/-- block b is a row of ints, whole -/
def IntRow (w : World) (b : Nat) (l : List Int) : Prop := ∃ c, w.heap[b]? = some (.cells c 3 (0, 0)) ∧ c.toList = l.map (Value.int .i64)

theorem IntRow.cell {w : World} {b : Nat} {l : List Int} (h : IntRow w b l) {i : Nat} {x : Int} (hx : l[i]? = some x) : w.cell? ⟨b, i, none⟩ = some (.int .i64 x) := by
  obtain ⟨c, h1, h2⟩ := h
  unfold World.cell?
  simp only [h1, Option.isSome_none]
  have : c.toList[i]? = some (.int .i64 x) := by rw [h2, List.getElem?_map, hx]; rfl
  simpa using this
theorem IntRow.free {w : World} {b : Nat} {l : List Int} (h : IntRow w b l) (i : Nat) : w.frozen? ⟨b, i, none⟩ = false := by
  obtain ⟨c, h1, h2⟩ := h
  unfold World.frozen?
  simp [h1]
theorem IntRow.lt {w : World} {b : Nat} {l : List Int} (h : IntRow w b l) : b < w.heap.size := by
  obtain ⟨c, h1, _⟩ := h
  exact (Array.getElem?_eq_some_iff.1 h1).1
theorem IntRow.kept {w w' : World} {b : Nat} {l : List Int} (h : IntRow w b l) (hb : w'.heap[b]? = w.heap[b]?) : IntRow w' b l := by
  obtain ⟨c, h1, h2⟩ := h
  exact ⟨c, hb.trans h1, h2⟩
theorem IntRow.set {w : World} {b : Nat} {l : List Int} (h : IntRow w b l) {i : Nat} (_hi : i < l.length) (x : Int) : IntRow (w.setCell ⟨b, i, none⟩ (.int .i64 x)) b (l.set i x) := by
  obtain ⟨c, h1, h2⟩ := h
  have hlt := (Array.getElem?_eq_some_iff.1 h1).1
  refine ⟨c.set! i (.int .i64 x), ?_, ?_⟩
  · have hb : w.heap[b] = .cells c 3 (0, 0) := by rw [Array.getElem?_eq_getElem hlt] at h1; exact Option.some.inj h1
    unfold World.setCell
    simp [hlt, Array.getElem_modify, hb]
  · simp only [Array.set!_eq_setIfInBounds, Array.toList_setIfInBounds, h2, List.map_set]

theorem IntRow.of_own {w : World} {base g n : Nat} {l : List Int} (h : w.ownsRow base 3 1 (.slice (some ⟨g, 0, none⟩) n n) n (l.map (Value.int .i64))) : IntRow w g l := by
  obtain ⟨_, h⟩ := h
  rcases h with ⟨h1, _⟩ | ⟨g', cap, cur, hv, _, hg, _, _, hs, ht⟩
  · cases h1
  · simp only [Value.slice.injEq, Option.some.injEq, Addr.mk.injEq, and_true, true_and] at hv
    obtain ⟨rfl, rfl⟩ := hv
    refine ⟨cur, hg, ?_⟩
    rw [← ht, List.take_of_length_le]
    simpa using Nat.le_of_eq hs

theorem none_any (n : Nat) (hn : n ≤ 5000) (w : World) :
    Calls Tryz.prog 20 #[.int .i64 (n : Int)] w fun e w' => e = .returned (.slice (some ⟨w.heap.size, 0, none⟩) n n) ∧ IntRow w' w.heap.size (List.replicate n (-1)) ∧ Below w.heap.size w w' := by
  obtain ⟨i0, hi, hz0, hz1, hz2⟩ := info_parts info3
  go_enter Tryz.func20, Tryz.ntmps20
  go_wp2_with (at_make; refine wpList_make_full _ rfl _ _ 50 rfl w.heap.size 3 i0 (.int .i64 0) 1 Tryz.underlying50 hi hz0 hz1 .i64 .i64 _ _ n rfl rfl rfl rfl (by rw [hz2]; omega) (by unfold maxLen; omega) (Nat.le_refl _) ?_; intro w0 hown0 hgrow0)
  have hrow0 : IntRow w0 w.heap.size (List.replicate n 0) := IntRow.of_own (base := w.heap.size) (n := n) (by
    rw [List.map_replicate, ← toList_madeCells_one]
    rw [Nat.mul_one] at hown0
    exact hown0)
  have hb0 : Below w.heap.size w w0 := (Below.refl _ w).grown hgrow0 (Nat.le_refl _) (fun k e => by cases e)
  clear hown0 hgrow0
  go_loopw [4] (fun i wr => ∃ k : Nat, k ≤ n ∧ i = .int .i64 k ∧ Below w.heap.size w wr ∧ IntRow wr w.heap.size (List.replicate k (-1) ++ List.replicate (n - k) 0)) (fun i _ => n - (intOf i).toNat)
  case atStart => exact ⟨0, Nat.zero_le _, rfl, hb0, by simpa using hrow0⟩
  case round =>
    obtain ⟨k, hk, rfl, hW, hrow⟩ := hrel
    by_cases hlt : k < n
    · have hx : (List.replicate k (-1) ++ List.replicate (n - k) (0 : Int))[k]? = some 0 := by
        rw [List.getElem?_append_right (by simp)]
        simp [List.getElem?_replicate]
        omega
      have d0 := hrow.cell hx
      have f0 := hrow.free k
      have hrow' := hrow.set (i := k) (by simp; omega) (-1)
      have hnext : (List.replicate k (-1) ++ List.replicate (n - k) (0 : Int)).set k (-1) = List.replicate (k + 1) (-1) ++ List.replicate (n - (k + 1)) 0 := by
        rw [List.set_append_right _ _ (by simp)]
        simp only [List.length_replicate, Nat.sub_self]
        obtain ⟨m, hm⟩ : ∃ m, n - k = m + 1 := ⟨n - k - 1, by omega⟩
        have hm2 : n - (k + 1) = m := by omega
        rw [hm, hm2, List.replicate_succ, List.set_cons_zero, List.replicate_succ' (n := k), List.append_assoc]
        rfl
      rw [hnext] at hrow'
      have Hrow := Lib.hid hrow'
      have HW := Lib.hid hW
      clear hrow hnext hx hrow' hW hrow0 hb0
      go_wp2
      go_roundw
      case rel => exact ⟨k + 1, by omega, by go_num, HW.out.setCell (Nat.le_refl _) _, Hrow.out⟩
      case measure => simp [intOf]; omega
    · obtain rfl : k = n := by omega
      have hfin : IntRow wr w.heap.size (List.replicate k (-1)) := by simpa using hrow
      have Hfin := Lib.hid hfin
      clear hfin hrow
      go_wp2
      go_ret
      exact ⟨rfl, Hfin.out, hW⟩
end Go.Proofs.YtdolijagffcfgaaGreatDoor

namespace Go.Proofs.YtdolijagffcfgaaGreatDoor
open Go Go.RowKit Go.Mn
set_option maxHeartbeats 4000000
set_option maxRecDepth 20000

/-- the matcher: its two heaps and its two rows of partners -/
structure MSt (w : World) (B bm bt bf : Nat) (hs gs : Value) (h g : Hp) (o p : List Nat) : Prop where
  hH : HeapAt B w hs h
  hG : HeapAt B w gs g
  m : ∃ t, w.heap[bm]? = some (.cells #[hs, gs, .slice (some ⟨bt, 0, none⟩) h.length h.length, .slice (some ⟨bf, 0, none⟩) g.length g.length] t (0, 0))
  to : IntRow w bt (toRow h.length o p)
  fr : IntRow w bf (toRow g.length p o)
  len : o.length = p.length
  on : o.Nodup
  pn : p.Nodup
  ol : ∀ i ∈ o, i < h.length
  pl : ∀ j ∈ p, j < g.length
  am : B ≤ bm
  at' : B ≤ bt
  af : B ≤ bf
  n1 : bm ≠ bt
  n2 : bm ≠ bf
  n3 : bt ≠ bf

theorem MSt.below {w w' : World} {B bm bt bf : Nat} {hs gs : Value} {h g : Hp} {o p : List Nat} (s : MSt w B bm bt bf hs gs h g o p) (hb : Below w.heap.size w w') (hB : B ≤ w.heap.size) : MSt w' B bm bt bf hs gs h g o p := by
  obtain ⟨t, ht⟩ := s.m
  have lm := (Array.getElem?_eq_some_iff.1 ht).1
  exact ⟨s.hH.below (hb.mono hB), s.hG.below (hb.mono hB), ⟨t, (hb.block _ lm).trans ht⟩, s.to.kept (hb.block _ s.to.lt), s.fr.kept (hb.block _ s.fr.lt), s.len, s.on, s.pn, s.ol, s.pl, s.am, s.at', s.af, s.n1, s.n2, s.n3⟩

theorem alike6_kind (bm : Nat) (k n k' n' : Int) (W : World) (hne : k ≠ k') :
    Calls Tryz.prog 21 #[.pointer (some ⟨bm, 0, none⟩), .agg #[.int .u8 k, .int .i64 n], .agg #[.int .u8 k', .int .i64 n']] W fun e W' => e = .returned (.bool false) ∧ Below W.heap.size W W' := by
  have hq : (k != k') = true := by simpa using hne
  go_enter Tryz.func21, Tryz.ntmps21
  go_wp2
  all_goals first
    | (go_ret
       exact ⟨rfl, ((Below.refl _ W).alloc (Nat.le_refl _) _).alloc (by simp) _⟩)
    | (exfalso; simp_all)

theorem alike6_flat (bm : Nat) (k n n' : Int) (W : World) (h4 : k ≠ 4) :
    Calls Tryz.prog 21 #[.pointer (some ⟨bm, 0, none⟩), .agg #[.int .u8 k, .int .i64 n], .agg #[.int .u8 k, .int .i64 n']] W fun e W' => e = .returned (.bool (decide (n = n'))) ∧ Below W.heap.size W W' := by
  have hq : (k != 4) = true := by simpa using h4
  go_enter Tryz.func21, Tryz.ntmps21
  go_wp2
  all_goals first
    | (go_ret
       exact ⟨ret_bool (by by_cases h : n = n' <;> simp [h]), ((Below.refl _ W).alloc (Nat.le_refl _) _).alloc (by simp) _⟩)
    | (exfalso; simp_all)
theorem alike6_met {B bm bt bf : Nat} {hs gs : Value} {h g : Hp} {o p : List Nat} {W : World} (s : MSt W B bm bt bf hs gs h g o p) (i j : Nat) (hi : i < h.length) (hj : j < g.length) (hmet : i ∈ o ∨ j ∈ p) :
    Calls Tryz.prog 21 #[.pointer (some ⟨bm, 0, none⟩), .agg #[.int .u8 4, .int .i64 (i : Int)], .agg #[.int .u8 4, .int .i64 (j : Int)]] W fun e W' => e = .returned (.bool (decide (i ∈ o ∧ j ∈ p ∧ o.idxOf i = p.idxOf j))) ∧ Below W.heap.size W W' := by
  obtain ⟨x, hx⟩ : ∃ x, (toRow h.length o p)[i]? = some x := ⟨_, toRow_get hi⟩
  obtain ⟨y, hy⟩ : ∃ y, (toRow g.length p o)[j]? = some y := ⟨_, toRow_get hj⟩
  have hx0 := toRow_neg hi hx
  have hy0 := toRow_neg hj hy
  have hpart := partner s.len s.on s.pn hi hj hx hy
  have cx := s.to.cell hx
  have cy := s.fr.cell hy
  obtain ⟨t, hm⟩ := s.m
  have lm := (Array.getElem?_eq_some_iff.1 hm).1
  have lt := s.to.lt
  have lf := s.fr.lt
  have m2 : W.cell? ⟨bm, 2, none⟩ = some (.slice (some ⟨bt, 0, none⟩) h.length h.length) := by unfold World.cell?; simp [hm]
  have m3 : W.cell? ⟨bm, 3, none⟩ = some (.slice (some ⟨bf, 0, none⟩) g.length g.length) := by unfold World.cell?; simp [hm]
  have Hpart := Lib.hid hpart
  clear hpart hm s hx hy
  have done : ∀ b : Bool, (b = true ↔ (x = (j : Int) ∧ y = (i : Int))) → b = decide (i ∈ o ∧ j ∈ p ∧ o.idxOf i = p.idxOf j) := fun b hb => by
    have := hb.trans Hpart.out
    by_cases hd : i ∈ o ∧ j ∈ p ∧ o.idxOf i = p.idxOf j
    · rw [decide_eq_true hd]; exact this.2 hd
    · rw [decide_eq_false hd]
      cases b with
      | true => exact absurd (this.1 rfl) hd
      | false => rfl
  have Done := Lib.hid done
  clear done Hpart
  by_cases hxj : x = (j : Int)
  · have hio : 0 ≤ x := by omega
    have hge : decide (0 ≤ x) = true := decide_eq_true hio
    have heq : decide (x = (j : Int)) = true := decide_eq_true hxj
    clear hx0 hy0 hmet
    go_enter Tryz.func21, Tryz.ntmps21
    go_wp2
    go_quiet (fail)
    go_wp2
    go_quiet (fail)
    go_wp2
    go_ret
    refine ⟨ret_bool (Done.out _ (by simp [hxj])), ?_⟩
    exact below_drewN (below_drewN (((Below.refl _ W).alloc (Nat.le_refl _) _).alloc (by simp) _) _) _
  · have hne : decide (x = (j : Int)) = false := decide_eq_false hxj
    by_cases hio : 0 ≤ x
    · have hge : decide (0 ≤ x) = true := decide_eq_true hio
      clear hx0 hy0 hmet
      go_enter Tryz.func21, Tryz.ntmps21
      go_wp2
      go_quiet (fail)
      go_wp2
      go_quiet (fail)
      go_wp2
      go_ret
      refine ⟨ret_bool (Done.out _ (by simp [hxj])), ?_⟩
      exact below_drewN (below_drewN (((Below.refl _ W).alloc (Nat.le_refl _) _).alloc (by simp) _) _) _
    · have hge : decide (0 ≤ x) = false := decide_eq_false hio
      have hyj : 0 ≤ y := hy0.2 (hmet.resolve_left (fun h => hio (hx0.2 h)))
      have hgy : decide (0 ≤ y) = true := decide_eq_true hyj
      clear hx0 hy0 hmet
      go_enter Tryz.func21, Tryz.ntmps21
      go_wp2
      go_quiet (fail)
      go_wp2
      go_quiet (fail)
      go_wp2
      go_ret
      refine ⟨ret_bool (Done.out _ (by simp [hxj])), ?_⟩
      exact below_drewN (below_drewN (((Below.refl _ W).alloc (Nat.le_refl _) _).alloc (by simp) _) _) _
end Go.Proofs.YtdolijagffcfgaaGreatDoor

namespace Go.Proofs.YtdolijagffcfgaaGreatDoor
open Go Go.RowKit Go.Mn

/-- the new place of each object, or -1 -/
def newRow (n : Nat) (o : List Nat) : List Int := toRow n o (List.range o.length)
theorem newRow_len (n : Nat) (o : List Nat) : (newRow n o).length = n := toRow_len _ _ _
theorem newRow_old {n : Nat} {o : List Nat} {i : Nat} (hi : i < n) (hm : i ∈ o) : (newRow n o)[i]? = some ((o.idxOf i : Nat) : Int) := by
  unfold newRow
  rw [toRow_get hi, if_pos hm, List.getElem?_range (idx_lt hm)]
  rfl
theorem newRow_none {n : Nat} {o : List Nat} {i : Nat} (hi : i < n) (hm : i ∉ o) : (newRow n o)[i]? = some (-1) := by
  unfold newRow
  rw [toRow_get hi, if_neg hm]
theorem newRow_push {n : Nat} {o : List Nat} {i : Nat} (hm : i ∉ o) : (newRow n o).set i ((o.length : Nat) : Int) = newRow n (o ++ [i]) := by
  unfold newRow
  rw [toRow_set (by simp) hm, List.length_append, List.length_singleton, List.range_succ]
theorem newRow_nil (n : Nat) : newRow n [] = List.replicate n (-1) := toRow_nil n

theorem drop_glue {o1 o2 : List Nat} {a : Nat} (hp : o1 <+: o2) (ha : a ≤ o1.length) : o1.drop a ++ o2.drop o1.length = o2.drop a := by
  obtain ⟨t, rfl⟩ := hp
  rw [List.drop_left, List.drop_append_of_le_length ha]

theorem objs_step {o1 o2 : List Nat} {a : Nat} (hp : o1 <+: o2) (ha : a ≤ o1.length) (A : Hp) (g : Nat → Ob) : A ++ (o1.drop a).map g ++ (o2.drop o1.length).map g = A ++ (o2.drop a).map g := by
  rw [List.append_assoc, ← List.map_append, drop_glue hp ha]
theorem objs_len {o1 o2 : List Nat} {os : Hp} (hl : os.length = o1.length) (x : Ob) (g : Nat → Ob) {i : Nat} (hp2 : (o1 ++ [i]) <+: o2) : (os ++ [x] ++ (o2.drop (o1.length + 1)).map g).length = o2.length := by
  have := hp2.length_le
  simp at this ⊢
  omega
theorem objs_set {o o2 : List Nat} {os : Hp} {i : Nat} (hp2 : (o ++ [i]) <+: o2) (g : Nat → Ob) (x : Ob) : (os ++ [x] ++ (o2.drop (o.length + 1)).map g).set os.length (g i) = os ++ (o2.drop o.length).map g := by
  obtain ⟨t, rfl⟩ := hp2
  rw [List.append_assoc os, List.set_append_right _ _ (Nat.le_refl _), Nat.sub_self]
  simp

theorem row_keep {w w' : World} {base size n : Nat} {e : TypeId} {v : Value} {xs : List Value} (h : w.ownsRow base e size v n xs) (hk : ∀ k, v.ownBlock = some k → w'.heap[k]? = w.heap[k]?) : w'.ownsRow base e size v n xs := by
  refine ⟨h.1, ?_⟩
  rcases h.2 with h0 | ⟨g, cap, cur, rfl, h1, hg, h2⟩
  · exact .inl h0
  · exact .inr ⟨g, cap, cur, rfl, h1, (hk g rfl).trans hg, h2⟩
theorem row_lt {w : World} {base size n : Nat} {e : TypeId} {v : Value} {xs : List Value} (h : w.ownsRow base e size v n xs) : ∀ k, v.ownBlock = some k → base ≤ k ∧ k < w.heap.size := h.lt
/-- rows of two types are two rows -/
theorem row_apart {w : World} {b1 s1 n1 b2 s2 n2 : Nat} {e1 e2 : TypeId} {v1 v2 : Value} {x1 x2 : List Value} (h1 : w.ownsRow b1 e1 s1 v1 n1 x1) (h2 : w.ownsRow b2 e2 s2 v2 n2 x2) (he : e1 ≠ e2) {k : Nat} (hk : v1.ownBlock = some k) : v2.ownBlock ≠ some k := by
  intro hk2
  rcases h1.2 with ⟨rfl, _⟩ | ⟨g, cap, cur, rfl, _, hg1, _⟩
  · simp [Value.ownBlock] at hk
  · rcases h2.2 with ⟨rfl, _⟩ | ⟨g', cap', cur', rfl, _, hg2, _⟩
    · simp [Value.ownBlock] at hk2
    · have e1' : g = k := by simpa [Value.ownBlock] using hk
      have e2' : g' = k := by simpa [Value.ownBlock] using hk2
      subst e1'
      subst e2'
      rw [hg1] at hg2
      cases hg2
      exact he rfl

theorem row_written {w : World} {base size n : Nat} {e : TypeId} {v : Value} {xs : List Value} (h : w.ownsRow base e size v n xs) (hn : 0 < n) : ∃ g c, v = .slice (some ⟨g, 0, none⟩) n c := by
  rcases h.2 with ⟨_, h0⟩ | ⟨g, cap, cur, rfl, _⟩
  · omega
  · exact ⟨g, cap, rfl⟩
theorem block_cell {w : World} {b : Nat} {cs : Array Value} {t : TypeId} {fr : Nat × Nat} (hb : w.heap[b]? = some (.cells cs t fr)) (j : Nat) : w.cell? ⟨b, j, none⟩ = cs[j]? := by
  unfold World.cell?
  simp [hb]
theorem block_free {w : World} {b : Nat} {cs : Array Value} {t : TypeId} (hb : w.heap[b]? = some (.cells cs t (0, 0))) (j : Nat) : w.frozen? ⟨b, j, none⟩ = false := by
  unfold World.frozen?
  simp [hb]

/-- objects in a row that the call has made; X: blocks in which none of their values lie -/
def OwnX (w : World) (N : Nat) (X : Nat → Prop) (v : Value) (os : Hp) : Prop :=
  ∃ l : List (Int × Int × Value), l.length = os.length ∧ w.ownsRow N 35 3 v os.length (flatO l) ∧ ∀ (i : Nat) (x : Ob), os[i]? = some x → ∃ u : Int × Int × Value, l[i]? = some u ∧ u.1 = x.1 ∧ u.2.1 = x.2.1 ∧ w.ownsRow N 49 2 u.2.2 x.2.2.length (flat x.2.2) ∧ ∀ r, u.2.2.ownBlock = some r → ¬ X r

theorem OwnX.own {w : World} {N : Nat} {X : Nat → Prop} {v : Value} {os : Hp} (h : OwnX w N X v os) : HeapOwn w N v os := by
  obtain ⟨l, hl, hr, hv⟩ := h
  exact ⟨l, hl, hr, fun i x hx => let ⟨u, h1, h2, h3, h4, _⟩ := hv i x hx; ⟨u, h1, h2, h3, h4⟩⟩
theorem OwnX.nil (w : World) (N : Nat) (X : Nat → Prop) : OwnX w N X (.slice none 0 0) [] := ⟨[], rfl, World.ownsRow_nil _ _ _ _, fun i x hx => by simp at hx⟩
theorem OwnX.keep {w w' : World} {N : Nat} {X : Nat → Prop} {v : Value} {os : Hp} (h : OwnX w N X v os) (hk : ∀ k, N ≤ k → k < w.heap.size → w'.heap[k]? = w.heap[k]?) : OwnX w' N X v os := by
  obtain ⟨l, hl, hr, hv⟩ := h
  refine ⟨l, hl, row_keep hr (fun k e => hk k (row_lt hr k e).1 (row_lt hr k e).2), fun i x hx => ?_⟩
  obtain ⟨u, h1, h2, h3, h4, h5⟩ := hv i x hx
  exact ⟨u, h1, h2, h3, row_keep h4 (fun k e => hk k (row_lt h4 k e).1 (row_lt h4 k e).2), h5⟩
theorem OwnX.other {w : World} {N : Nat} {X X' : Nat → Prop} {v : Value} {os : Hp} (h : OwnX w N X v os) (hX : ∀ r, r < w.heap.size → X' r → X r) : OwnX w N X' v os := by
  obtain ⟨l, hl, hr, hv⟩ := h
  refine ⟨l, hl, hr, fun i x hx => ?_⟩
  obtain ⟨u, h1, h2, h3, h4, h5⟩ := hv i x hx
  exact ⟨u, h1, h2, h3, h4, fun r e hx' => h5 r e (hX r (row_lt h4 r e).2 hx')⟩
/-- a row of values of the caller's own has grown -/
theorem OwnX.grown {w w' : World} {N base n : Nat} {X X' : Nat → Prop} {v u : Value} {xs : List Value} {os : Hp} (h : OwnX w N X v os) (hu : w.ownsRow base 49 2 u n xs) (hX : ∀ r, u.ownBlock = some r → X r) (hg : w.grownBy w' u.ownBlock) (hX' : ∀ r, r < w.heap.size → X' r → X r) : OwnX w' N X' v os := by
  obtain ⟨l, hl, hr, hv⟩ := h
  refine ⟨l, hl, row_keep hr (fun k e => hg.block k (row_lt hr k e).2 fun e2 => row_apart hr hu (by decide) e e2.symm), fun i x hx => ?_⟩
  obtain ⟨z, h1, h2, h3, h4, h5⟩ := hv i x hx
  exact ⟨z, h1, h2, h3, row_keep h4 (fun k e => hg.block k (row_lt h4 k e).2 fun e2 => h5 k e (hX k e2.symm)), fun r e hx' => h5 r e (hX' r (row_lt h4 r e).2 hx')⟩

/-- what a call of moved leaves alone: all but the mover, its row of places and the row of the objects -/
structure Mq (bm bt : Nat) (v v' : Value) (W W' : World) : Prop where
  os : W'.os = W.os
  tape : W'.tape = W.tape
  output : W'.output = W.output
  size : W.heap.size ≤ W'.heap.size
  keep : ∀ k, k < W.heap.size → k ≠ bm → k ≠ bt → v.ownBlock ≠ some k → W'.heap[k]? = W.heap[k]?
  row : ∀ r, v'.ownBlock = some r → v.ownBlock = some r ∨ W.heap.size ≤ r

theorem Mq.of {bm bt : Nat} {v : Value} {W W' : World} (h : Below W.heap.size W W') : Mq bm bt v v W W' := ⟨h.os, h.tape, h.output, h.size, fun k hk _ _ _ => h.block k hk, fun _ e => .inl e⟩
theorem Mq.refl (bm bt : Nat) (v : Value) (W : World) : Mq bm bt v v W W := Mq.of (Below.refl _ _)
theorem Mq.trans {bm bt : Nat} {v v' v'' : Value} {A B C : World} (h : Mq bm bt v v' A B) (k : Mq bm bt v' v'' B C) : Mq bm bt v v'' A C := by
  refine ⟨k.os.trans h.os, k.tape.trans h.tape, k.output.trans h.output, Nat.le_trans h.size k.size, fun i hi h1 h2 h3 => ?_, fun r e => ?_⟩
  · refine (k.keep i (Nat.lt_of_lt_of_le hi h.size) h1 h2 fun e => ?_).trans (h.keep i hi h1 h2 h3)
    rcases h.row i e with h4 | h4
    · exact h3 h4
    · omega
  · rcases k.row r e with h4 | h4
    · exact h.row r h4
    · exact .inr (Nat.le_trans h.size h4)
theorem Mq.set {bm bt : Nat} {v v' : Value} {A W : World} (h : Mq bm bt v v' A W) {q : Addr} (hq : q.block = bm ∨ q.block = bt) (u : Value) : Mq bm bt v v' A (W.setCell q u) :=
  ⟨h.os, h.tape, h.output, by rw [World.size_setCell]; exact h.size, fun k hk h1 h2 h3 => (Below.heap_setCell W q u k (by omega)).trans (h.keep k hk h1 h2 h3), h.row⟩
/-- one cell of the row itself -/
theorem Mq.setRow {bm bt : Nat} {v v' : Value} {A W : World} (h : Mq bm bt v v' A W) {q : Addr} (hq : v'.ownBlock = some q.block) (u : Value) : Mq bm bt v v' A (W.setCell q u) :=
  ⟨h.os, h.tape, h.output, by rw [World.size_setCell]; exact h.size, fun k hk h1 h2 h3 => (Below.heap_setCell W q u k (fun e => by
    subst e
    rcases h.row _ hq with h4 | h4
    · exact h3 h4
    · omega)).trans (h.keep k hk h1 h2 h3), h.row⟩
/-- an append to the row -/
theorem Mq.grown {bm bt : Nat} {v v' : Value} {W W' : World} (hg : W.grownBy W' v.ownBlock) (hr : ∀ r, v'.ownBlock = some r → v.ownBlock = some r ∨ W.heap.size ≤ r) : Mq bm bt v v' W W' :=
  ⟨hg.os, hg.tape, hg.output, hg.size, fun k hk _ _ h3 => hg.block k hk (fun e => h3 e.symm), hr⟩
theorem Mq.below {B bm bt : Nat} {v v' : Value} {W W' : World} (h : Mq bm bt v v' W W') (h1 : B ≤ bm) (h2 : B ≤ bt) (h3 : ∀ r, v.ownBlock = some r → B ≤ r) (h4 : B ≤ W.heap.size) : Below B W W' :=
  ⟨h.os, h.tape, h.output, h.size, fun k hk => h.keep k (by omega) (by omega) (by omega) fun e => by have := h3 k e; omega⟩
theorem Mq.then_ {bm bt : Nat} {v v' : Value} {A W W' : World} (h : Mq bm bt v v' A W) (hb : Below A.heap.size W W') : Mq bm bt v v' A W' :=
  ⟨hb.os.trans h.os, hb.tape.trans h.tape, hb.output.trans h.output, Nat.le_trans h.size hb.size, fun k hk h1 h2 h3 => (hb.block k hk).trans (h.keep k hk h1 h2 h3), h.row⟩
theorem Mq.cell {bm bt : Nat} {v v' : Value} {W W' : World} (h : Mq bm bt v v' W W') {q : Addr} (h0 : q.block < W.heap.size) (h1 : q.block ≠ bm) (h2 : q.block ≠ bt) (h3 : v.ownBlock ≠ some q.block) : W'.cell? q = W.cell? q := World.cell?_of_block (w := W) (h.keep q.block h0 h1 h2 h3)

/-- the mover: its heap, what it has made (in the order o, rows at N or above), and where each object went -/
structure MvSt (w : World) (B N bm bt : Nat) (X : Nat → Prop) (hs : Value) (h : Hp) (o : List Nat) (os : Hp) (ov : Value) : Prop where
  hH : HeapAt B w hs h
  m : ∃ t, w.heap[bm]? = some (.cells #[hs, ov, .slice (some ⟨bt, 0, none⟩) h.length h.length] t (0, 0))
  own : OwnX w N X ov os
  to : IntRow w bt (newRow h.length o)
  on : Mn.Good h.length o
  bB : B ≤ bm ∧ B ≤ bt
  ne : bm ≠ bt
  lt : bm < N ∧ bt < N

section
variable {w : World} {B N bm bt : Nat} {X : Nat → Prop} {hs ov : Value} {h : Hp} {o : List Nat} {os : Hp}
theorem MvSt.bm_lt (s : MvSt w B N bm bt X hs h o os ov) : bm < w.heap.size := by
  obtain ⟨t, ht⟩ := s.m
  exact (Array.getElem?_eq_some_iff.1 ht).1
theorem MvSt.ov_ge (s : MvSt w B N bm bt X hs h o os ov) : ∀ r, ov.ownBlock = some r → N ≤ r ∧ r < w.heap.size := by
  obtain ⟨l, hl, hr, hv⟩ := s.own
  exact row_lt hr
theorem MvSt.form (s : MvSt w B N bm bt X hs h o os ov) : ∃ p c, ov = .slice p os.length c := by
  obtain ⟨l, hl, hr, hv⟩ := s.own
  exact row_slice hr
theorem MvSt.below {w' : World} (s : MvSt w B N bm bt X hs h o os ov) (hb : Below w.heap.size w w') (hB : B ≤ w.heap.size) : MvSt w' B N bm bt X hs h o os ov := by
  obtain ⟨t, ht⟩ := s.m
  exact ⟨s.hH.below (hb.mono hB), ⟨t, (hb.block _ (Array.getElem?_eq_some_iff.1 ht).1).trans ht⟩, s.own.keep (fun k _ hk => hb.block k hk), s.to.kept (hb.block _ s.to.lt), s.on, s.bB, s.ne, s.lt⟩
theorem MvSt.other {X' : Nat → Prop} (s : MvSt w B N bm bt X hs h o os ov) (hX : ∀ r, r < w.heap.size → X' r → X r) : MvSt w B N bm bt X' hs h o os ov :=
  ⟨s.hH, s.m, s.own.other hX, s.to, s.on, s.bB, s.ne, s.lt⟩
/-- a new object has its place -/
theorem MvSt.put (s : MvSt w B N bm bt X hs h o os ov) {i : Nat} (hi : i < h.length) (hm : i ∉ o) : MvSt (w.setCell ⟨bt, i, none⟩ (.int .i64 ((o.length : Nat) : Int))) B N bm bt X hs h (o ++ [i]) os ov := by
  obtain ⟨t, ht⟩ := s.m
  have hb : ∀ k, k ≠ bt → (w.setCell ⟨bt, i, none⟩ (.int .i64 ((o.length : Nat) : Int))).heap[k]? = w.heap[k]? := fun k hk => Below.heap_setCell w ⟨bt, i, none⟩ _ k hk
  refine ⟨s.hH.below ((Below.refl B w).setCell (p := ⟨bt, i, none⟩) s.bB.2 _), ⟨t, (hb bm s.ne).trans ht⟩, s.own.keep (fun k hk _ => hb k (by have := s.lt.2; omega)), ?_, s.on.snoc hi hm, s.bB, s.ne, s.lt⟩
  rw [← newRow_push hm]
  exact s.to.set (by rw [newRow_len]; exact hi) _
/-- one object more, without values yet: the row has grown, and lies in the mover -/
theorem MvSt.push {w3 : World} (s : MvSt w B N bm bt X hs h o os ov) (hB : B ≤ w.heap.size) {k t : Int} {v3 : Value} {tmp : Obj} {l : List (Int × Int × Value)} (hl : l.length = os.length) (hr : w.ownsRow N 35 3 ov os.length (flatO l))
    (hv : ∀ (i : Nat) (x : Ob), os[i]? = some x → ∃ u : Int × Int × Value, l[i]? = some u ∧ u.1 = x.1 ∧ u.2.1 = x.2.1 ∧ w.ownsRow N 49 2 u.2.2 x.2.2.length (flat x.2.2) ∧ ∀ r, u.2.2.ownBlock = some r → ¬ X r)
    (hg : (w.alloc tmp).grownBy w3 ov.ownBlock) (hown : w3.ownsRow N 35 3 v3 (os.length + 1) (flatO l ++ [.int .u8 k, .int .i64 t, .slice none 0 0])) :
    MvSt (w3.setCell ⟨bm, 1, none⟩ v3) B N bm bt X hs h o (os ++ [(k, t, [])]) v3 := by
  obtain ⟨ty, ht⟩ := s.m
  have hge := s.ov_ge
  have hsz : w.heap.size < (w.alloc tmp).heap.size := by simp
  have hb3 : ∀ k, k < w.heap.size → k < N → w3.heap[k]? = w.heap[k]? := fun k hk hkN => by
    refine (hg.block k (by omega) fun e => ?_).trans (Below.heap_alloc w tmp k hk)
    have := (hge k e.symm).1
    omega
  have hbb : Below B w w3 := ((Below.refl B w).alloc hB _).grown hg (by omega) fun k e => by
    have := (hge k e).1
    have := s.bB.1
    have := s.lt.1
    omega
  have hm3 : w3.heap[bm]? = some (.cells #[hs, ov, .slice (some ⟨bt, 0, none⟩) h.length h.length] ty (0, 0)) := (hb3 bm (Array.getElem?_eq_some_iff.1 ht).1 s.lt.1).trans ht
  have hfar : ∀ q, q ≠ bm → (w3.setCell ⟨bm, 1, none⟩ v3).heap[q]? = w3.heap[q]? := fun q hq => Below.heap_setCell w3 ⟨bm, 1, none⟩ _ q hq
  refine ⟨s.hH.below (hbb.setCell (p := ⟨bm, 1, none⟩) s.bB.1 _), ⟨ty, ?_⟩, ?_, ?_, s.on, s.bB, s.ne, s.lt⟩
  · exact heap_setCell_same w3 bm 1 _ _ _ hm3
  · have hmN := s.lt.1
    refine ⟨l ++ [(k, t, .slice none 0 0)], by simp [hl], ?_, fun i x hx => ?_⟩
    · rw [flatO_snoc, List.length_append]
      exact row_keep hown fun q e => hfar q (by have := (row_lt hown q e).1; omega)
    · by_cases hi : i < os.length
      · rw [List.getElem?_append_left hi] at hx
        obtain ⟨u, h1, h2, h3, h4, h5⟩ := hv i x hx
        refine ⟨u, by rw [List.getElem?_append_left (by omega)]; exact h1, h2, h3, ?_, h5⟩
        have h6 := row_other (h4.alloc tmp) (hr.alloc tmp) (by decide) hg
        exact row_keep h6 fun q e => hfar q (by have := (row_lt h6 q e).1; omega)
      · have hi' := (List.getElem?_eq_some_iff.1 hx).1
        simp at hi'
        obtain rfl : i = os.length := by omega
        rw [List.getElem?_append_right (Nat.le_refl _)] at hx
        simp at hx
        subst hx
        exact ⟨(k, t, .slice none 0 0), by rw [List.getElem?_append_right (by omega), hl]; simp, rfl, rfl, World.ownsRow_nil _ _ _ _, fun r e => by simp [Value.ownBlock] at e⟩
  · exact (s.to.kept (hb3 bt s.to.lt s.lt.2)).kept (hfar bt s.ne.symm)
/-- a row of values of the caller's own has grown -/
theorem MvSt.grown {w' : World} {base n : Nat} {X' : Nat → Prop} {u : Value} {xs : List Value} (s : MvSt w B N bm bt X hs h o os ov) (hB : B ≤ w.heap.size) (hu : w.ownsRow base 49 2 u n xs) (hN : N ≤ base) (hX : ∀ r, u.ownBlock = some r → X r) (hg : w.grownBy w' u.ownBlock) (hX' : ∀ r, r < w.heap.size → X' r → X r) : MvSt w' B N bm bt X' hs h o os ov := by
  obtain ⟨t, ht⟩ := s.m
  have := s.lt
  have hbB := s.bB
  have hne : ∀ q, q < N → some q ≠ u.ownBlock := fun q hq e => by have := (row_lt hu q e.symm).1; omega
  exact ⟨s.hH.below ((Below.refl B w).grown hg hB fun k e => by have := (row_lt hu k e).1; omega), ⟨t, (hg.block bm (Array.getElem?_eq_some_iff.1 ht).1 (hne _ (by omega))).trans ht⟩, s.own.grown hu hX hg hX', s.to.kept (hg.block bt s.to.lt (hne _ (by omega))), s.on, s.bB, s.ne, s.lt⟩
/-- a block that is in X, of the caller's own, has turned -/
theorem MvSt.away {w' : World} {q : Nat} {c : Array Value} {fz : Nat × Nat} (s : MvSt w B N bm bt X hs h o os ov) (hq : w.heap[q]? = some (.cells c 49 fz)) (hX : X q) (hN : N ≤ q) (hb : Below B w w') (hk : ∀ k, k ≠ q → w'.heap[k]? = w.heap[k]?) : MvSt w' B N bm bt X hs h o os ov := by
  obtain ⟨t, ht⟩ := s.m
  have := s.lt
  refine ⟨s.hH.below hb, ⟨t, (hk bm (by omega)).trans ht⟩, ?_, s.to.kept (hk bt (by omega)), s.on, s.bB, s.ne, s.lt⟩
  obtain ⟨l, hl, hr, hv⟩ := s.own
  refine ⟨l, hl, row_keep hr (fun k e => hk k fun e2 => ?_), fun i x hx => ?_⟩
  · subst e2
    rcases hr.2 with ⟨rfl, _⟩ | ⟨g, cap, cur, rfl, _, hg, _⟩
    · simp [Value.ownBlock] at e
    · have : g = k := by simpa [Value.ownBlock] using e
      subst this
      rw [hg] at hq
      cases hq
  · obtain ⟨u, h1, h2, h3, h4, h5⟩ := hv i x hx
    exact ⟨u, h1, h2, h3, row_keep h4 (fun k e => hk k fun e2 => h5 k e (by subst e2; exact hX)), h5⟩
end

theorem flatO_set (l : List (Int × Int × Value)) : ∀ (i : Nat) (a b : Int) (c d : Value), l[i]? = some (a, b, c) → (flatO l).set (i * 3 + 2) d = flatO (l.set i (a, b, d)) := by
  unfold flatO
  induction l with
  | nil => intro i a b c d h; simp at h
  | cons x l ih =>
    intro i a b c d h
    cases i with
    | zero =>
      simp at h
      subst h
      rfl
    | succ i =>
      have := ih i a b c d (by simpa using h)
      rw [List.flatMap_cons, List.set_cons_succ, List.flatMap_cons, ← this]
      rw [show (i + 1) * 3 + 2 = (i * 3 + 2) + 1 + 1 + 1 from by omega]
      rfl

/-- the values of an object that is made are laid -/
theorem MvSt.vals {w : World} {B N bm bt g c m : Nat} {X : Nat → Prop} {hs : Value} {h : Hp} {o : List Nat} {os : Hp} (s : MvSt w B N bm bt X hs h o os (.slice (some ⟨g, 0, none⟩) m c)) {n : Nat} {k t : Int} {vs : List Vl} (hn : os[n]? = some (k, t, [])) {sv : Value} (hsv : w.ownsRow N 49 2 sv vs.length (flat vs)) (hX : ∀ r, sv.ownBlock = some r → ¬ X r) :
    MvSt (w.setCell ⟨g, n * 3 + 2, none⟩ sv) B N bm bt X hs h o (os.set n (k, t, vs)) (.slice (some ⟨g, 0, none⟩) m c) := by
  obtain ⟨p', c', hform⟩ := s.form
  obtain ⟨rfl, rfl⟩ : m = os.length ∧ c = c' := by
    injection hform with h1 h2 h3
    exact ⟨h2, h3⟩
  obtain ⟨ty, ht⟩ := s.m
  have hgN : N ≤ g := (s.ov_ge g rfl).1
  have hb : ∀ q, q ≠ g → (w.setCell ⟨g, n * 3 + 2, none⟩ sv).heap[q]? = w.heap[q]? := fun q hq => Below.heap_setCell w ⟨g, n * 3 + 2, none⟩ _ q hq
  have := s.lt
  have hbB := s.bB
  refine ⟨s.hH.below ((Below.refl B w).setCell (p := ⟨g, n * 3 + 2, none⟩) (by show B ≤ g; omega) _), ⟨ty, (hb bm (by omega)).trans ht⟩, ?_, s.to.kept (hb bt (by omega)), s.on, s.bB, s.ne, s.lt⟩
  obtain ⟨l, hl, hr, hv⟩ := s.own
  obtain ⟨u, hu, e1, e2, e3, _⟩ := hv n _ hn
  obtain ⟨ua, ub, uc⟩ := u
  dsimp only at e1 e2
  subst e1
  subst e2
  have hst := (hr.stored (n * 3 + 2) sv).1
  rw [flatO_set l n ua ub uc sv hu] at hst
  have keep49 : ∀ {z : Value} {zn : Nat} {zx : List Value}, w.ownsRow N 49 2 z zn zx → (w.setCell ⟨g, n * 3 + 2, none⟩ sv).ownsRow N 49 2 z zn zx := fun {z zn zx} hz => row_keep hz fun q hq => hb q fun e => by
    subst e
    exact row_apart hz hr (by decide) hq rfl
  refine ⟨l.set n (ua, ub, sv), by simp [hl], by rw [List.length_set]; exact hst, fun i x hx => ?_⟩
  by_cases hi : n = i
  · subst hi
    have hlt := (List.getElem?_eq_some_iff.1 hn).1
    rw [List.getElem?_set_self hlt] at hx
    cases hx
    exact ⟨(ua, ub, sv), by rw [List.getElem?_set_self (by omega)], rfl, rfl, keep49 hsv, hX⟩
  · rw [List.getElem?_set_ne hi] at hx
    obtain ⟨u, h1, h2, h3, h4, h5⟩ := hv i x hx
    exact ⟨u, by rw [List.getElem?_set_ne hi]; exact h1, h2, h3, keep49 h4, h5⟩
end Go.Proofs.YtdolijagffcfgaaGreatDoor

namespace Go.Proofs.YtdolijagffcfgaaGreatDoor
open Go Go.RowKit Go.Mn
set_option maxHeartbeats 4000000
set_option maxRecDepth 20000

theorem moved_flat (bm : Nat) (k n : Int) (W : World) (h4 : k ≠ 4) :
    Calls Tryz.prog 25 #[.pointer (some ⟨bm, 0, none⟩), .agg #[.int .u8 k, .int .i64 n]] W fun e W' => e = .returned (.agg #[.int .u8 k, .int .i64 n]) ∧ Below W.heap.size W W' := by
  have hq : (k != 4) = true := by simpa using h4
  go_enter Tryz.func25, Tryz.ntmps25
  go_wp2
  case _ =>
    try simp only [Exit.inBlock, Exit.then]
    refine bodyPost_ret (v := .agg #[.int .u8 k, .int .i64 n]) (by simp [results, Tryz.results25, go_sem]) rfl ⟨rfl, ?_⟩
    exact (((Below.refl _ W).alloc (Nat.le_refl _) _).alloc (by simp) _)
  all_goals (exfalso; simp_all)

theorem moved_old {B N bm bt : Nat} {X : Nat → Prop} {hs ov : Value} {h : Hp} {o : List Nat} {os : Hp} {W : World} (s : MvSt W B N bm bt X hs h o os ov) (i : Nat) (hi : i < h.length) (hm : i ∈ o) :
    Calls Tryz.prog 25 #[.pointer (some ⟨bm, 0, none⟩), .agg #[.int .u8 4, .int .i64 (i : Int)]] W fun e W' => e = .returned (.agg #[.int .u8 4, .int .i64 ((o.idxOf i : Nat) : Int)]) ∧ Below W.heap.size W W' := by
  have hx := newRow_old hi hm
  have cx := s.to.cell hx
  obtain ⟨t, hmm⟩ := s.m
  have lm := s.bm_lt
  have lt := s.to.lt
  have m2 : W.cell? ⟨bm, 2, none⟩ = some (.slice (some ⟨bt, 0, none⟩) h.length h.length) := by unfold World.cell?; simp [hmm]
  clear hmm s hx hm
  generalize o.idxOf i = j at *
  have gx : decide ((j : Int) < 0) = false := decide_eq_false (by omega)
  go_enter Tryz.func25, Tryz.ntmps25
  go_wp2
  go_quiet (fail)
  go_wp2
  go_region
  go_wp2
  try simp only [Exit.inBlock, Exit.then]
  refine bodyPost_ret (v := .agg #[.int .u8 4, .int .i64 (j : Int)]) (by simp [results, Tryz.results25, go_sem]) rfl ⟨rfl, ?_⟩
  exact ((below_drewN (((Below.refl _ W).alloc (Nat.le_refl _) _).alloc (by simp) _) _).setCell (p := ⟨W.heap.size + 1, 0, none⟩) (Nat.le_succ _) _).setCell (p := ⟨W.heap.size + 1, 1, none⟩) (Nat.le_succ _) _
end Go.Proofs.YtdolijagffcfgaaGreatDoor
