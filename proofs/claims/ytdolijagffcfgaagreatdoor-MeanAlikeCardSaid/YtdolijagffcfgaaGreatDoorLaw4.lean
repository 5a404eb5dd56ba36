/-
  The walk of the law MeanReached: true for every two heaps and lists, where the law's own test answers true.
-/
import Derived.Test.YtdolijagffcfgaaGreatDoorAlk
import Derived.Test.YtdolijagffcfgaaGreatDoorW6
namespace Go.Proofs.YtdolijagffcfgaaGreatDoor
open Go Go.RowKit Go.Mn
set_option maxHeartbeats 4000000
set_option maxRecDepth 100000

/-- the law's own test answers true, wherever the memory of the start still stands -/
def AliveAt (w : World) : Prop := ∀ w1, Below w.heap.size w w1 → Calls Tryz.prog 6 #[] w1 fun e w2 => e = .returned (.bool true) ∧ Below w1.heap.size w1 w2

theorem alike_self (h : Hp) (v : List Vl) : alikeB h v h v = true := by unfold alikeB; simp
theorem alike_sym (h g : Hp) (v u : List Vl) : alikeB g u h v = alikeB h v g u := by
  unfold alikeB
  exact decide_eq_decide.2 ⟨fun ⟨a, b⟩ => ⟨a.symm, b.symm⟩, fun ⟨a, b⟩ => ⟨a.symm, b.symm⟩⟩
theorem alike_there {h : Hp} {v : List Vl} (ha : asked h v = true) : alikeB h v (rHeap h v) (rVals h v) = true := by
  unfold alikeB
  obtain ⟨a, b⟩ := reached_again ha
  exact decide_eq_true ⟨a.symm, b.symm⟩
theorem small_lens {h : Hp} {v : List Vl} (hs : smallB h v = true) : h.length ≤ 40 ∧ v.length ≤ 10 := by
  unfold smallB at hs
  simp only [Bool.and_eq_true, decide_eq_true_eq] at hs
  exact ⟨hs.1, hs.2.1⟩

/-- how an argument lies -/
structure Args (w : World) (s t : Value) (h : Hp) (v : List Vl) : Prop where
  h : HeapAt w.heap.size w s h
  v : ValsAt w.heap.size w t v
theorem Args.next {w w1 : World} {s t : Value} {h : Hp} {v : List Vl} (a : Args w s t h v) (hb : Below w.heap.size w w1) : Args w1 s t h v := ⟨(a.h.below hb).mono hb.size, (a.v.below hb).mono hb.size⟩

theorem small4 {w : World} {s t : Value} {h : Hp} {v : List Vl} (a : Args w s t h v) {r : Bool} (hr : smallB h v = r) : Calls Tryz.prog 5 #[s, t] w fun e w' => e = .returned (.bool r) ∧ w = w' :=
  (small_any _ s t h v w a.h a.v).mono fun e w' ⟨he, hw⟩ => ⟨by rw [he, hr], hw⟩
theorem reached4 {w : World} {s t : Value} {h : Hp} {v : List Vl} (a : Args w s t h v) (hv : v.length ≤ 5000) (ha : asked h v = true) : Calls Tryz.prog 9 #[s, t] w fun e w' => ∃ p n c q m d, e = .returned (.tuple #[.slice p n c, .slice q m d, .int .i64 0]) ∧ Args w' (.slice p n c) (.slice q m d) (rHeap h v) (rVals h v) ∧ Below w.heap.size w w' := by
  refine (reached_ok _ s t h v w (Nat.le_refl _) a.h a.v hv ha).mono ?_
  rintro e w' ⟨x, y, rfl, hx, hy, hb⟩
  obtain ⟨p, c, rfl, hh⟩ := hx
  obtain ⟨q, d, rfl, hk⟩ := hy
  exact ⟨p, _, c, q, _, d, rfl, ⟨⟨p, c, rfl, hh⟩, ⟨q, d, rfl, hk⟩⟩, hb⟩
theorem reached4no {w : World} {s t : Value} {h : Hp} {v : List Vl} (a : Args w s t h v) (ha : asked h v = false) : Calls Tryz.prog 9 #[s, t] w fun e w' => e = .returned (.tuple #[.slice none 0 0, .slice none 0 0, .int .i64 1]) ∧ Below w.heap.size w w' :=
  reached_no _ s t h v w (Nat.le_refl _) a.h a.v ha
theorem alike4 {w : World} {s t s' t' : Value} {h g : Hp} {v u : List Vl} (a : Args w s t h v) (b : Args w s' t' g u) (hv : v.length ≤ 5000) (hu : u.length ≤ 5000) (h1 : asked h v = true) (h2 : asked g u = true) {r : Bool} (hr : alikeB h v g u = r) :
    Calls Tryz.prog 7 #[s, t, s', t'] w fun e w' => e = .returned (.tuple #[.bool r, .int .i64 0]) ∧ Below w.heap.size w w' :=
  (alike_yes _ s t s' t' h g v u w (Nat.le_refl _) a.h a.v b.h b.v hv hu h1 h2).mono fun e w' ⟨he, hb⟩ => ⟨by rw [he, hr], hb⟩
theorem rVals_length (h : Hp) (v : List Vl) : (rVals h v).length = v.length := by unfold rVals; rw [List.length_map]

theorem law4 (s t s' t' : Value) (h g : Hp) (v u : List Vl) (w : World) (a : Args w s t h v) (b : Args w s' t' g u) (hal : AliveAt w) :
    Calls Tryz.prog 4 #[s, t, s', t'] w fun e w' => e = .returned (.bool true) ∧ Below w.heap.size w w' := by
  have a0 := a
  have b0 := b
  obtain ⟨⟨p1, n1, rfl, _⟩, ⟨p2, n2, rfl, _⟩⟩ := a
  obtain ⟨⟨p3, n3, rfl, _⟩, ⟨p4, n4, rfl, _⟩⟩ := b
  cases hs1 : smallB h v with
  | false =>
    have c1 := small4 a0 hs1
    have c6 := hal w (Below.refl _ _)
    go_enter Tryz.func4, Tryz.ntmps4
    go_wp2_with fail
    refine c1.mono ?_
    rintro e w1 ⟨rfl, rfl⟩
    go_wp2_with fail
    refine c6.mono ?_
    rintro e w1 ⟨rfl, hb⟩
    go_wp2
    go_ret
    exact ⟨rfl, hb⟩
  | true =>
    have c1 := small4 a0 hs1
    obtain ⟨_, hv10⟩ := small_lens hs1
    cases hs2 : smallB g u with
    | false =>
      have c2 := small4 b0 hs2
      have c6 := hal w (Below.refl _ _)
      go_enter Tryz.func4, Tryz.ntmps4
      go_wp2_with fail
      refine c1.mono ?_
      rintro e w1 ⟨rfl, rfl⟩
      go_wp2_with fail
      refine c2.mono ?_
      rintro e w1 ⟨rfl, rfl⟩
      go_wp2_with fail
      refine c6.mono ?_
      rintro e w1 ⟨rfl, hb⟩
      go_wp2
      go_ret
      exact ⟨rfl, hb⟩
    | true =>
      have c2 := small4 b0 hs2
      obtain ⟨_, hu10⟩ := small_lens hs2
      cases ha1 : asked h v with
      | false =>
        have c3 := reached4no a0 ha1
        go_enter Tryz.func4, Tryz.ntmps4
        go_wp2_with fail
        refine c1.mono ?_
        rintro e w1 ⟨rfl, rfl⟩
        go_wp2_with fail
        refine c2.mono ?_
        rintro e w1 ⟨rfl, rfl⟩
        go_wp2_with fail
        refine c3.mono ?_
        rintro e w1 ⟨rfl, hb1⟩
        go_wp2_with fail
        refine (hal w1 hb1).mono ?_
        rintro e w2 ⟨rfl, hb2⟩
        go_wp2
        go_ret
        exact ⟨rfl, hb1.trans (hb2.mono hb1.size)⟩
      | true =>
        go_enter Tryz.func4, Tryz.ntmps4
        go_wp2_with fail
        refine c1.mono ?_
        rintro e w1 ⟨rfl, rfl⟩
        go_wp2_with fail
        refine c2.mono ?_
        rintro e w1 ⟨rfl, rfl⟩
        go_wp2_with fail
        refine (reached4 a0 (by omega) ha1).mono ?_
        rintro e w1 ⟨p5, n5, c5, p6, n6, c6, rfl, ax, hb1⟩
        have a1 := a0.next hb1
        have b1 := b0.next hb1
        go_wp2_with fail
        refine (alike4 a1 a1 (by omega) (by omega) ha1 ha1 (alike_self h v)).mono ?_
        rintro e w2 ⟨rfl, hb2⟩
        have a2 := a1.next hb2
        have b2 := b1.next hb2
        have ax2 := ax.next hb2
        have hbb2 : Below w.heap.size w w2 := hb1.trans (hb2.mono hb1.size)
        go_wp2_with fail
        refine (alike4 a2 ax2 (by omega) (by rw [rVals_length]; omega) ha1 (rHeap_closed ha1) (alike_there ha1)).mono ?_
        rintro e w3 ⟨rfl, hb3⟩
        have a3 := a2.next hb3
        have b3 := b2.next hb3
        have ax3 := ax2.next hb3
        have hbb3 : Below w.heap.size w w3 := hbb2.trans (hb3.mono hbb2.size)
        go_wp2_with fail
        refine (alike4 ax3 a3 (by rw [rVals_length]; omega) (by omega) (rHeap_closed ha1) ha1 ((alike_sym h (rHeap h v) v (rVals h v)).trans (alike_there ha1))).mono ?_
        rintro e w4 ⟨rfl, hb4⟩
        have a4 := a3.next hb4
        have b4 := b3.next hb4
        have ax4 := ax3.next hb4
        have hbb4 : Below w.heap.size w w4 := hbb3.trans (hb4.mono hbb3.size)
        clear a3 b3 ax3 a2 b2 ax2 a1 b1 ax hb1 hb2 hb3 hb4 hbb2 hbb3 c1 c2
        go_wp2_with fail
        cases ha2 : asked g u with
        | false =>
          refine (reached4no b4 ha2).mono ?_
          rintro e w5 ⟨rfl, hb5⟩
          have hbb5 : Below w.heap.size w w5 := hbb4.trans (hb5.mono hbb4.size)
          go_wp2_with fail
          refine (hal w5 hbb5).mono ?_
          rintro e w6 ⟨rfl, hb6⟩
          go_wp2
          go_ret
          exact ⟨rfl, hbb5.trans (hb6.mono hbb5.size)⟩
        | true =>
          refine (reached4 b4 (by omega) ha2).mono ?_
          rintro e w5 ⟨p7, n7, c7, p8, n8, c8, rfl, by_, hb5⟩
          have hbb5 : Below w.heap.size w w5 := hbb4.trans (hb5.mono hbb4.size)
          have a5 := a4.next hb5
          have b5 := b4.next hb5
          have ax5 := ax4.next hb5
          go_wp2_with fail
          refine (alike4 a5 b5 (by omega) (by omega) ha1 ha2 rfl).mono ?_
          rintro e w6 ⟨rfl, hb6⟩
          have hbb6 : Below w.heap.size w w6 := hbb5.trans (hb6.mono hbb5.size)
          have a6 := a5.next hb6
          have b6 := b5.next hb6
          have ax6 := ax5.next hb6
          have by6 := by_.next hb6
          go_wp2_with fail
          refine (alike4 b6 a6 (by omega) (by omega) ha2 ha1 (alike_sym h g v u)).mono ?_
          rintro e w7 ⟨rfl, hb7⟩
          have hbb7 : Below w.heap.size w w7 := hbb6.trans (hb7.mono hbb6.size)
          have ax7 := ax6.next hb7
          have by7 := by6.next hb7
          go_wp2_with fail
          refine (hal w7 hbb7).mono ?_
          rintro e w8 ⟨rfl, hb8⟩
          have hbb8 : Below w.heap.size w w8 := hbb7.trans (hb8.mono hbb7.size)
          have ax8 := ax7.next hb8
          have by8 := by7.next hb8
          clear a5 b5 a6 b6 ax5 ax6 ax7 by_ by6 by7 hb5 hb6 hb7 hb8 hbb4 hbb5 hbb6 hbb7 a4 b4 ax4
          have k11 := sameHeap_any w8.heap.size _ _ _ _ w8 (Nat.le_refl _) ax8.h by8.h
          have k12 : ∀ w9, Below w8.heap.size w8 w9 → Calls Tryz.prog 12 #[.slice p6 n6 c6, .slice p8 n8 c8] w9 fun e w' => e = .returned (.bool (decide (rVals h v = rVals g u))) ∧ Below w9.heap.size w9 w' := fun w9 hb => by
            refine (sameValues_any w9.heap.size _ _ _ _ w9 (Nat.le_refl _) (ax8.next hb).v (by8.next hb).v).mono ?_
            rintro e w' ⟨rfl, n, rfl⟩
            exact ⟨rfl, below_drewN (Below.refl _ _) n⟩
          have hd : alikeB h v g u = (decide (rHeap h v = rHeap g u) && decide (rVals h v = rVals g u)) := by
            unfold alikeB
            rw [Bool.decide_and]
          generalize alikeB h v g u = al at *
          generalize decide (rHeap h v = rHeap g u) = dh at *
          generalize decide (rVals h v = rVals g u) = dv at *
          clear ax8 by8 hal a0 b0
          subst hd
          cases dh with
          | false =>
            rw [Bool.false_and]
            go_wp2_with fail
            refine k11.mono ?_
            rintro e w9 ⟨rfl, hb9⟩
            go_wp2
            go_ret
            exact ⟨by simp, hbb8.trans (hb9.mono hbb8.size)⟩
          | true =>
            rw [Bool.true_and]
            go_wp2_with fail
            refine k11.mono ?_
            rintro e w9 ⟨rfl, hb9⟩
            go_wp2_with fail
            refine (k12 w9 hb9).mono ?_
            rintro e w10 ⟨rfl, hb10⟩
            go_wp2
            go_ret
            exact ⟨by simp, hbb8.trans ((hb9.trans (hb10.mono hb9.size)).mono hbb8.size)⟩
end Go.Proofs.YtdolijagffcfgaaGreatDoor
