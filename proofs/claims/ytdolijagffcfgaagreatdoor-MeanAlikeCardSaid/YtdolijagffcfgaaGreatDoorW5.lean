/-
  The walks of the tests of equality of heaps: slices.EqualFunc with its closure, and SameHeap.
-/
import Derived.Test.YtdolijagffcfgaaGreatDoorW4
namespace Go.Proofs.YtdolijagffcfgaaGreatDoor
open Go Go.RowKit Go.Mn
set_option maxHeartbeats 2000000
set_option maxRecDepth 20000

theorem sameObj_any (B : Nat) (s t : Value) (x y : Ob) (w : World) (hB : B ≤ w.heap.size) (hs : ValsAt B w s x.2.2) (ht : ValsAt B w t y.2.2) :
    Calls Tryz.prog 18 #[.agg #[.int .u8 x.1, .int .i64 x.2.1, s], .agg #[.int .u8 y.1, .int .i64 y.2.1, t]] w fun e w' => e = .returned (.bool (decide (x = y))) ∧ Below w.heap.size w w' := by
  obtain ⟨xk, xt, xs⟩ := x
  obtain ⟨yk, yt, ys⟩ := y
  dsimp only at *
  have hcall : ∀ w1, Below w.heap.size w w1 → Calls Tryz.prog 16 #[s, t] w1 fun e w2 => e = .returned (.bool (decide (xs = ys))) ∧ Below w.heap.size w w2 := fun w1 h1 =>
    (equal_any B s t xs ys w1 (Nat.le_trans hB h1.size) (hs.below (h1.mono hB)) (ht.below (h1.mono hB))).mono fun e w2 ⟨he, h2⟩ => ⟨he, h1.trans (h2.mono h1.size)⟩
  have hb2 : Below w.heap.size w ((w.alloc (.cells #[.int .u8 xk, .int .i64 xt, s] 35)).alloc (.cells #[.int .u8 yk, .int .i64 yt, t] 35)) := ((Below.refl _ _).alloc (Nat.le_refl _) _).alloc (by simp) _
  by_cases hk : xk = yk
  · by_cases ht' : xt = yt
    · have hd : decide ((xk, xt, xs) = (yk, yt, ys)) = decide (xs = ys) := by simp [hk, ht']
      rw [hd]
      subst hk
      subst ht'
      clear hd
      go_enter Tryz.func18, Tryz.ntmps18
      go_wp2_with (go_at_call 16; refine (hcall _ hb2).mono ?_; clear hcall; rintro e w' ⟨rfl, h2⟩)
      go_ret
      exact ⟨rfl, h2⟩
    · have hd : decide ((xk, xt, xs) = (yk, yt, ys)) = false := by simp [ht']
      rw [hd]
      subst hk
      have hbt : (xt == yt) = false := by simpa using ht'
      clear hd ht' hcall
      go_enter Tryz.func18, Tryz.ntmps18
      go_wp2
      go_ret
      exact ⟨rfl, hb2⟩
  · have hd : decide ((xk, xt, xs) = (yk, yt, ys)) = false := by simp [hk]
    rw [hd]
    have hbk : (xk == yk) = false := by simpa using hk
    clear hd hk hcall
    go_enter Tryz.func18, Tryz.ntmps18
    go_wp2
    go_ret
    exact ⟨rfl, hb2⟩

theorem take_nextO {a b : Hp} {k : Nat} {x : Ob} (h : a.take k = b.take k) (ha : a[k]? = some x) (hb : b[k]? = some x) : a.take (k + 1) = b.take (k + 1) := by
  rw [List.take_add_one, List.take_add_one, h, ha, hb]

theorem equalFunc_any (B : Nat) (s t : Value) (a b : Hp) (w : World) (hB : B ≤ w.heap.size) (ha : HeapAt B w s a) (hb : HeapAt B w t b) :
    Calls Tryz.prog 17 #[s, t, .func (.func 18) #[] #[]] w fun e w' => e = .returned (.bool (decide (a = b))) ∧ Below w.heap.size w w' := by
  obtain ⟨p, c, rfl, hl, hm, hc⟩ := ha
  obtain ⟨p2, c2, rfl, hl2, hm2, hc2⟩ := hb
  unfold maxLen at hm hm2
  by_cases hlen : a.length = b.length
  · have hne : ((a.length : Int) != (b.length : Int)) = false := by rw [hlen]; simp
    have Hlen := Lib.hid hlen
    clear hlen
    go_enter Tryz.func17, Tryz.ntmps17
    go_wp2
    go_loopw [7, 8, 9, 17] (fun _ _ _ i wr => ∃ k : Nat, k ≤ a.length ∧ i = .int .i64 k ∧ Below w.heap.size w wr ∧ a.take k = b.take k) (fun _ _ _ i _ => a.length - (intOf i).toNat)
    case atStart => exact ⟨0, Nat.zero_le _, rfl, Below.refl _ _, rfl⟩
    case round =>
      obtain ⟨k, hk, rfl, hW, htk⟩ := hrel
      by_cases hlt : k < a.length
      · have hltb : k < b.length := by rw [← Hlen.out]; exact hlt
        have hx : a[k]? = some a[k] := List.getElem?_eq_getElem hlt
        have hy : b[k]? = some b[k] := List.getElem?_eq_getElem hltb
        obtain ⟨q1, o1, sv, rfl, g1, e1, e2, e3, hsv⟩ := hc k _ hx
        obtain ⟨q2, o2, tv, rfl, g2, f1, f2, f3, htv⟩ := hc2 k _ hy
        have Hx := Lib.hid hx
        have Hy := Lib.hid hy
        have Htk := Lib.hid htk
        clear hc hc2 hx hy htk
        generalize a[k] = x at *
        generalize b[k] = y at *
        have hsz := hW.size
        have hq1 : q1 < wr.heap.size := by omega
        have hq2 : q2 < wr.heap.size := by omega
        have d1 := (hW.cell (p := ⟨q1, o1 + k * 3, none⟩) (by show q1 < _; omega)).trans e1
        have d2 := (hW.cell (p := ⟨q1, o1 + k * 3 + 1, none⟩) (by show q1 < _; omega)).trans e2
        have d3 := (hW.cell (p := ⟨q1, o1 + k * 3 + 2, none⟩) (by show q1 < _; omega)).trans e3
        have d4 := (hW.cell (p := ⟨q2, o2 + k * 3, none⟩) (by show q2 < _; omega)).trans f1
        have d5 := (hW.cell (p := ⟨q2, o2 + k * 3 + 1, none⟩) (by show q2 < _; omega)).trans f2
        have d6 := (hW.cell (p := ⟨q2, o2 + k * 3 + 2, none⟩) (by show q2 < _; omega)).trans f3
        have hcall : ∀ w1, Below wr.heap.size wr w1 → Calls Tryz.prog 18 #[.agg #[.int .u8 x.1, .int .i64 x.2.1, sv], .agg #[.int .u8 y.1, .int .i64 y.2.1, tv]] w1 fun e w2 => e = .returned (.bool (decide (x = y))) ∧ Below wr.heap.size wr w2 := by
          intro w1 h1
          have hW1 : Below w.heap.size w w1 := hW.trans (h1.mono hsz)
          exact (sameObj_any B sv tv x y w1 (Nat.le_trans hB hW1.size) (hsv.below (hW1.mono hB)) (htv.below (hW1.mono hB))).mono fun e w2 ⟨he, h2⟩ => ⟨he, h1.trans (h2.mono h1.size)⟩
        obtain ⟨qs, cs, rfl, _, _, _⟩ := hsv
        obtain ⟨qt, ct, rfl, _, _, _⟩ := htv
        clear e1 e2 e3 f1 f2 f3
        cases hxy : decide (x = y) with
        | true =>
          rw [hxy] at hcall
          have hxe : x = y := of_decide_eq_true hxy
          have Hxe := Lib.hid hxe
          clear hxe hxy
          go_wp2_with (go_at_call 18; refine (hcall _ (((Below.refl _ _).alloc (Nat.le_refl _) _).alloc (by simp) _)).mono ?_; clear hcall; rintro e w' ⟨rfl, hcw⟩)
          go_roundw
          case rel => exact ⟨k + 1, by omega, by go_num, hW.trans (hcw.mono hsz), take_nextO Htk.out Hx.out (by rw [Hxe.out]; exact Hy.out)⟩
          case measure => simp [intOf]; omega
        | false =>
          rw [hxy] at hcall
          have hne' : a ≠ b := fun e => by
            have h1 := Hx.out
            have h2 := Hy.out
            rw [e, h2] at h1
            cases h1
            simp at hxy
          have Hne := Lib.hid hne'
          clear hne' hxy
          go_wp2_with (go_at_call 18; refine (hcall _ (((Below.refl _ _).alloc (Nat.le_refl _) _).alloc (by simp) _)).mono ?_; clear hcall; rintro e w' ⟨rfl, hcw⟩)
          go_ret
          exact ⟨ret_bool (by simp [Hne.out]), hW.trans (hcw.mono hsz)⟩
      · obtain rfl : k = a.length := by omega
        have he : a = b := by
          rw [List.take_length] at htk
          rw [htk, Hlen.out, List.take_length]
        have He := Lib.hid he
        clear htk he hc hc2
        go_wp2
        go_ret
        exact ⟨ret_bool (by simp [He.out]), hW⟩
  · have hne : ((a.length : Int) != (b.length : Int)) = true := by simp; omega
    have hn : a ≠ b := fun e => hlen (by rw [e])
    have Hn := Lib.hid hn
    clear hlen hc hc2 hn
    go_enter Tryz.func17, Tryz.ntmps17
    go_wp2
    go_ret
    exact ⟨ret_bool (by simp [Hn.out]), Below.refl _ _⟩

/-- the contract of SameValues, met behind some draws -/
theorem sameValues_quiet {B : Nat} {s t : Value} {a b : List Vl} {w : World} (hB : B ≤ w.heap.size) (ha : ValsAt B w s a) (hb : ValsAt B w t b) {r : Bool} (hr : decide (a = b) = r) (n : Nat) :
    Calls Tryz.prog 12 #[s, t] (w.drewN n) fun e w' => e = .returned (.bool r) ∧ ∃ m, w' = w.drewN m := by
  have hW : Below w.heap.size w (w.drewN n) := below_drewN (Below.refl _ _) n
  refine Calls.quiet_of ((sameValues_any B s t a b (w.drewN n) hB (ha.below (hW.mono hB)) (hb.below (hW.mono hB))).mono ?_)
  rintro e w' ⟨rfl, h⟩
  exact ⟨by rw [hr], h⟩

theorem sameHeap_any (B : Nat) (s t : Value) (a b : Hp) (w : World) (hB : B ≤ w.heap.size) (ha : HeapAt B w s a) (hb : HeapAt B w t b) :
    Calls Tryz.prog 11 #[s, t] w fun e w' => e = .returned (.bool (decide (a = b))) ∧ Below w.heap.size w w' := by
  obtain ⟨p, c, rfl, hl, hm, hc⟩ := ha
  obtain ⟨p2, c2, rfl, hl2, hm2, hc2⟩ := hb
  unfold maxLen at hm hm2
  by_cases hlen : a.length = b.length
  · have hne : ((a.length : Int) != (b.length : Int)) = false := by rw [hlen]; simp
    have Hlen := Lib.hid hlen
    clear hlen
    go_enter Tryz.func11, Tryz.ntmps11
    go_wp2
    go_loopw [5] (fun i wr => ∃ k : Nat, k ≤ a.length ∧ i = .int .i64 k ∧ Below w.heap.size w wr ∧ a.take k = b.take k) (fun i _ => a.length - (intOf i).toNat)
    case atStart => exact ⟨0, Nat.zero_le _, rfl, Below.refl _ _, rfl⟩
    case round =>
      obtain ⟨k, hk, rfl, hW, htk⟩ := hrel
      by_cases hlt : k < a.length
      · have hltb : k < b.length := by rw [← Hlen.out]; exact hlt
        have hx : a[k]? = some a[k] := List.getElem?_eq_getElem hlt
        have hy : b[k]? = some b[k] := List.getElem?_eq_getElem hltb
        obtain ⟨q1, o1, sv, rfl, g1, e1, e2, e3, hsv⟩ := hc k _ hx
        obtain ⟨q2, o2, tv, rfl, g2, f1, f2, f3, htv⟩ := hc2 k _ hy
        have Hx := Lib.hid hx
        have Hy := Lib.hid hy
        have Htk := Lib.hid htk
        clear hc hc2 hx hy htk
        generalize a[k] = x at *
        generalize b[k] = y at *
        have hsz := hW.size
        have d1 := (hW.cell (p := ⟨q1, o1 + k * 3, none⟩) (by show q1 < _; omega)).trans e1
        have d2 := (hW.cell (p := ⟨q1, o1 + k * 3 + 1, none⟩) (by show q1 < _; omega)).trans e2
        have d3 := (hW.cell (p := ⟨q1, o1 + k * 3 + 2, none⟩) (by show q1 < _; omega)).trans e3
        have d4 := (hW.cell (p := ⟨q2, o2 + k * 3, none⟩) (by show q2 < _; omega)).trans f1
        have d5 := (hW.cell (p := ⟨q2, o2 + k * 3 + 1, none⟩) (by show q2 < _; omega)).trans f2
        have d6 := (hW.cell (p := ⟨q2, o2 + k * 3 + 2, none⟩) (by show q2 < _; omega)).trans f3
        have hcall : ∀ r, decide (x.2.2 = y.2.2) = r → ∀ n, Calls Tryz.prog 12 #[sv, tv] (wr.drewN n) fun e w' => e = .returned (.bool r) ∧ ∃ m, w' = wr.drewN m := fun r hr n =>
          sameValues_quiet (Nat.le_trans hB hsz) (hsv.below (hW.mono hB)) (htv.below (hW.mono hB)) hr n
        clear e1 e2 e3 f1 f2 f3 hsv htv
        obtain ⟨xk, xt, xs⟩ := x
        obtain ⟨yk, yt, ys⟩ := y
        dsimp only at *
        have bad : (xk, xt, xs) ≠ (yk, yt, ys) → a ≠ b := fun hn e => by
          have h1 := Hx.out
          have h2 := Hy.out
          rw [e, h2] at h1
          exact hn (Option.some.inj h1).symm
        by_cases hk1 : xk = yk
        · by_cases hk2 : xt = yt
          · cases hxy : decide (xs = ys) with
            | true =>
              have hcall' := hcall true hxy
              have hxe : (xk, xt, xs) = (yk, yt, ys) := by rw [hk1, hk2, of_decide_eq_true hxy]
              have Hxe := Lib.hid hxe
              subst hk1
              subst hk2
              clear hxe hxy hcall bad
              go_wp2
              go_quiet ((go_at_call 12; exact hcall' _))
              go_wp2
              go_roundw
              case rel => exact ⟨k + 1, by omega, by go_num, below_drewN hW _, take_nextO Htk.out Hx.out (by rw [Hxe.out]; exact Hy.out)⟩
              case measure => simp [intOf]; omega
            | false =>
              have hcall' := hcall false hxy
              have Hne := Lib.hid (bad (fun e => by simp at e; simp [e.2.2] at hxy))
              subst hk1
              subst hk2
              clear hxy hcall bad
              go_wp2
              go_quiet ((go_at_call 12; exact hcall' _))
              go_wp2
              go_ret
              exact ⟨ret_bool (by simp [Hne.out]), below_drewN hW _⟩
          · have Hne := Lib.hid (bad (fun e => by simp at e; exact hk2 e.2.1))
            subst hk1
            have hb2 : (xt != yt) = true := by simpa using hk2
            clear hk2 hcall bad
            go_wp2
            go_quiet (fail)
            go_wp2
            go_ret
            exact ⟨ret_bool (by simp [Hne.out]), below_drewN hW _⟩
        · have Hne := Lib.hid (bad (fun e => by simp at e; exact hk1 e.1))
          have hb1 : (xk != yk) = true := by simpa using hk1
          clear hk1 hcall bad
          go_wp2
          go_quiet (fail)
          go_wp2
          go_ret
          exact ⟨ret_bool (by simp [Hne.out]), below_drewN hW _⟩
      · obtain rfl : k = a.length := by omega
        have he : a = b := by
          rw [List.take_length] at htk
          rw [htk, Hlen.out, List.take_length]
        have He := Lib.hid he
        clear htk he hc hc2
        go_wp2
        go_ret
        exact ⟨ret_bool (by simp [He.out]), hW⟩
  · have hne : ((a.length : Int) != (b.length : Int)) = true := by simp; omega
    have hn : a ≠ b := fun e => hlen (by rw [e])
    have Hn := Lib.hid hn
    clear hlen hc hc2 hn
    go_enter Tryz.func11, Tryz.ntmps11
    go_wp2
    go_ret
    exact ⟨ret_bool (by simp [Hn.out]), Below.refl _ _⟩
end Go.Proofs.YtdolijagffcfgaaGreatDoor
