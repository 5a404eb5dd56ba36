/-
  The walk of Alike: it answers whether what is reached from both is the same.
-/
import Derived.Test.YtdolijagffcfgaaGreatDoorReach
import Derived.Test.YtdolijagffcfgaaGreatDoorW5
namespace Go.Proofs.YtdolijagffcfgaaGreatDoor
open Go Go.RowKit Go.Mn
set_option maxHeartbeats 4000000
set_option maxRecDepth 100000

/-- what two heaps and lists say together -/
def alikeB (h : Hp) (v : List Vl) (g : Hp) (u : List Vl) : Bool := decide (rHeap h v = rHeap g u ∧ rVals h v = rVals g u)

theorem reached_ok (B : Nat) (s t : Value) (h : Hp) (v : List Vl) (w : World) (hB : B ≤ w.heap.size) (hs : HeapAt B w s h) (ht : ValsAt B w t v) (hv : v.length ≤ 5000) (hask : asked h v = true) :
    Calls Tryz.prog 9 #[s, t] w fun e w' => ∃ x y, e = .returned (.tuple #[x, y, .int .i64 0]) ∧ HeapAt w'.heap.size w' x (rHeap h v) ∧ ValsAt w'.heap.size w' y (rVals h v) ∧ Below w.heap.size w w' :=
  callsIn_wide.1 (reached_yes B s t h v w hB hs ht hv hask)

theorem alike_yes (B : Nat) (s t s' t' : Value) (h g : Hp) (v u : List Vl) (w : World) (hB : B ≤ w.heap.size) (hs : HeapAt B w s h) (ht : ValsAt B w t v) (hs' : HeapAt B w s' g) (ht' : ValsAt B w t' u) (hv : v.length ≤ 5000) (hu : u.length ≤ 5000)
    (h1 : asked h v = true) (h2 : asked g u = true) :
    Calls Tryz.prog 7 #[s, t, s', t'] w fun e w' => e = .returned (.tuple #[.bool (alikeB h v g u), .int .i64 0]) ∧ Below w.heap.size w w' := by
  have c1 := reached_ok B s t h v w hB hs ht hv h1
  have c2 : ∀ w1, Below w.heap.size w w1 → Calls Tryz.prog 9 #[s', t'] w1 fun e w' => ∃ x y, e = .returned (.tuple #[x, y, .int .i64 0]) ∧ HeapAt w'.heap.size w' x (rHeap g u) ∧ ValsAt w'.heap.size w' y (rVals g u) ∧ Below w1.heap.size w1 w' := fun w1 hb =>
    reached_ok B s' t' g u w1 (Nat.le_trans hB hb.size) (hs'.below (hb.mono hB)) (ht'.below (hb.mono hB)) hu h2
  have c3 : ∀ (w1 : World) (a b : Value), Below w.heap.size w w1 → ValsAt w1.heap.size w1 a (rVals h v) → ValsAt w1.heap.size w1 b (rVals g u) → Calls Tryz.prog 16 #[a, b] w1 fun e w' => e = .returned (.bool (decide (rVals h v = rVals g u))) ∧ Below w1.heap.size w1 w' := fun w1 a b _ ha hb =>
    equal_any w1.heap.size a b _ _ w1 (Nat.le_refl _) ha hb
  have c4 : ∀ (w1 : World) (a b : Value), HeapAt w1.heap.size w1 a (rHeap h v) → HeapAt w1.heap.size w1 b (rHeap g u) → Calls Tryz.prog 17 #[a, b, .func (.func 18) #[] #[]] w1 fun e w' => e = .returned (.bool (decide (rHeap h v = rHeap g u))) ∧ Below w1.heap.size w1 w' := fun w1 a b ha hb =>
    equalFunc_any w1.heap.size a b _ _ w1 (Nat.le_refl _) ha hb
  obtain ⟨p1, n1, rfl, _⟩ := hs
  obtain ⟨p2, n2, rfl, _⟩ := ht
  obtain ⟨p3, n3, rfl, _⟩ := hs'
  obtain ⟨p4, n4, rfl, _⟩ := ht'
  have hd : alikeB h v g u = (decide (rVals h v = rVals g u) && decide (rHeap h v = rHeap g u)) := by
    unfold alikeB
    rw [← Bool.decide_and]
    exact decide_eq_decide.2 ⟨fun ⟨a, b⟩ => ⟨b, a⟩, fun ⟨a, b⟩ => ⟨b, a⟩⟩
  rw [hd]
  clear hd
  generalize decide (rHeap h v = rHeap g u) = dh at *
  cases hdv : decide (rVals h v = rVals g u) with
  | true =>
    rw [hdv] at c3
    rw [Bool.true_and]
    clear hdv
    go_enter Tryz.func7, Tryz.ntmps7
    go_wp2_with fail
    refine c1.mono ?_
    rintro e w1 ⟨x, y, rfl, hx, hy, hb1⟩
    go_wp2_with fail
    refine (c2 w1 hb1).mono ?_
    rintro e w2 ⟨x2, y2, rfl, hx2, hy2, hb2⟩
    have hb12 : Below w.heap.size w w2 := hb1.trans (hb2.mono hb1.size)
    go_wp2_with fail
    refine (c3 w2 y y2 hb12 ((hy.below hb2).mono hb2.size) hy2).mono ?_
    rintro e w3 ⟨rfl, hb3⟩
    go_wp2_with fail
    refine (c4 w3 x x2 ((hx.below (hb2.trans (hb3.mono hb2.size))).mono (Nat.le_trans hb2.size hb3.size)) ((hx2.below hb3).mono hb3.size)).mono ?_
    rintro e w4 ⟨rfl, hb4⟩
    go_wp2
    go_ret2
    all_goals first | rfl | exact ⟨rfl, hb12.trans ((hb3.mono hb12.size).trans (hb4.mono (Nat.le_trans hb12.size hb3.size)))⟩
  | false =>
    rw [hdv] at c3
    rw [Bool.false_and]
    clear hdv c4
    go_enter Tryz.func7, Tryz.ntmps7
    go_wp2_with fail
    refine c1.mono ?_
    rintro e w1 ⟨x, y, rfl, hx, hy, hb1⟩
    go_wp2_with fail
    refine (c2 w1 hb1).mono ?_
    rintro e w2 ⟨x2, y2, rfl, hx2, hy2, hb2⟩
    have hb12 : Below w.heap.size w w2 := hb1.trans (hb2.mono hb1.size)
    go_wp2_with fail
    refine (c3 w2 y y2 hb12 ((hy.below hb2).mono hb2.size) hy2).mono ?_
    rintro e w3 ⟨rfl, hb3⟩
    go_wp2
    go_ret2
    all_goals first | rfl | exact ⟨rfl, hb12.trans (hb3.mono hb12.size)⟩
end Go.Proofs.YtdolijagffcfgaaGreatDoor
