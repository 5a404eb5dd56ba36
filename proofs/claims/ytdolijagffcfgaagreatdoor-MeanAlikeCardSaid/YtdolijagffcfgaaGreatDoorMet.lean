/-
  The walk of the iterator of met, and of met itself.
-/
import Derived.Laws.EntriesVeiled
import Derived.Test.YtdolijagffcfgaaGreatDoorVisit
namespace Go.Proofs.YtdolijagffcfgaaGreatDoor
open Go Go.RowKit Go.Mn
set_option maxHeartbeats 2000000
set_option maxRecDepth 100000

theorem met58 {h : Hp} {vs : List Vl} {n₁ bo ba bh bx l : Nat} {hs s : Value} {J : List Nat → World → Prop} (W : World) (hJ : OwnFrom W.heap.size J) (hh : HeapAt n₁ W hs h) (hvs : ValsAt n₁ W s vs) (hask : asked h vs = true)
    (hn : n₁ ≤ W.heap.size) (hbo : bo < W.heap.size) (hba : ba < W.heap.size) (hbh : W.heap[bh]? = some (.cells #[hs] 22)) (hbx : W.heap[bx]? = some (.cells #[s] 23)) (h1 : bh ≠ bo ∧ bh ≠ ba)
    (hY : ∀ (pre : List Nat) (x : Nat) (W1 : World), J pre W1 → (pre ++ [x]) <+: order h vs → YieldAt Fence.wide 0 Tryz.prog l #[.int .i64 (x : Int)] W1 fun e W' => e = .returned (.bool true) ∧ J (pre ++ [x]) W' ∧ Kq n₁ bo ba W1 W')
    (hj : J [] W) :
    Calls Tryz.prog 58 #[.func (.yield l) #[] #[], .pointer (some ⟨bh, 0, none⟩), .pointer (some ⟨bx, 0, none⟩)] W fun e W' => (∃ v, e = .returned v) ∧ J (order h vs) W' := by
  have hmm := @run_makeMap Tryz.prog
  have cx := cell_of_heap hbx
  have lx : bx < W.heap.size := (Array.getElem?_eq_some_iff.1 hbx).1
  have lx1 : bx < W.heap.size + 1 := by omega
  have lx2 : bx < W.heap.size + 1 + 1 := by omega
  have lx3 : bx < W.heap.size + 1 + 1 + 1 := by omega
  obtain ⟨q, cc, rfl, l1, l2, l3⟩ := hvs
  unfold maxLen at l2
  have hcl : Cl h := closed_cl (asked_iff.1 hask).1
  have hrefs : refs h.length vs := asked_refs hask
  obtain ⟨W4, hW4⟩ : ∃ W4, ((((W.alloc (.cells #[.func (.yield l) #[] #[]] 136)).alloc (.map #[] 0)).alloc (.cells #[.map (some (W.heap.size + 1))] 137)).alloc (.cells #[visF W.heap.size (W.heap.size + 1 + 1) bh (W.heap.size + 1 + 1 + 1)] 135)) = W4 := ⟨_, rfl⟩
  have hb4 : Below W.heap.size W W4 := by
    rw [← hW4]
    exact ((((Below.refl _ W).alloc (Nat.le_refl _) _).alloc (by simp) _).alloc (by simp; omega) _).alloc (by simp; omega) _
  have hj4 : J [] W4 := by rw [← hW4]; exact hJ.alloc _ (hJ.alloc _ (hJ.alloc _ (hJ.alloc _ hj)))
  have hbh' : bh < W.heap.size := (Array.getElem?_eq_some_iff.1 hbh).1
  have hi4 : It W n₁ hs l W.heap.size (W.heap.size + 1 + 1) (W.heap.size + 1) (W.heap.size + 1 + 1 + 1) bh [] W4 := by
    have e0 := World.alloc_heap_new W (.cells #[.func (.yield l) #[] #[]] 136)
    have e1 := World.alloc_heap_new (W.alloc (.cells #[.func (.yield l) #[] #[]] 136)) (.map #[] 0)
    have e2 := World.alloc_heap_new ((W.alloc (.cells #[.func (.yield l) #[] #[]] 136)).alloc (.map #[] 0)) (.cells #[.map (some (W.heap.size + 1))] 137)
    have e3 := World.alloc_heap_new (((W.alloc (.cells #[.func (.yield l) #[] #[]] 136)).alloc (.map #[] 0)).alloc (.cells #[.map (some (W.heap.size + 1))] 137)) (.cells #[visF W.heap.size (W.heap.size + 1 + 1) bh (W.heap.size + 1 + 1 + 1)] 135)
    simp only [World.size_alloc] at e1 e2 e3
    refine ⟨?_, ?_, ?_, (hb4.block _ hbh').trans hbh, hb4.mono hn, ⟨#[], 0, ?_, rfl⟩, Nat.le_trans hn hb4.size⟩
    · rw [← hW4]
      exact (Below.heap_alloc _ _ _ (by simp; omega)).trans ((Below.heap_alloc _ _ _ (by simp; omega)).trans ((Below.heap_alloc _ _ _ (by simp)).trans e0))
    · rw [← hW4]
      exact (Below.heap_alloc _ _ _ (by simp)).trans e2
    · rw [← hW4]
      exact e3
    · rw [← hW4]
      exact (Below.heap_alloc _ _ _ (by simp)).trans ((Below.heap_alloc _ _ _ (by simp)).trans e1)
  have geo : Geo W.heap.size n₁ W.heap.size (W.heap.size + 1 + 1) (W.heap.size + 1) (W.heap.size + 1 + 1 + 1) bh bo ba :=
    ⟨by omega, by omega, by omega, by omega, by omega, by omega, ⟨by omega, by omega⟩, ⟨by omega, by omega⟩, ⟨by omega, by omega⟩, h1, ⟨by omega, by omega⟩, hbo, hba⟩
  have hvis := visit_all (xs := order h vs) geo hJ hh hcl hY (h.length + 1)
  have cx4 := (hb4.cell (p := ⟨bx, 0, none⟩) lx).trans cx
  unfold visF at hW4
  clear hY
  go_enter Tryz.func58, Tryz.ntmps58
  go_wp2
  go_loopw [7, 12] (fun _ i wr => ∃ k : Nat, k ≤ vs.length ∧ i = .int .i64 k ∧ J (visits h (h.length + 1) [] (vs.take k)) wr ∧ It W n₁ hs l W.heap.size (W.heap.size + 1 + 1) (W.heap.size + 1) (W.heap.size + 1 + 1 + 1) bh (visits h (h.length + 1) [] (vs.take k)) wr) (fun _ i _ => vs.length - (intOf i).toNat)
  case atStart => exact ⟨0, Nat.zero_le _, rfl, by rw [List.take_zero]; exact hj4, by rw [List.take_zero]; exact hi4⟩
  case round =>
    obtain ⟨k, hk, rfl, hjk, hik⟩ := hrel
    by_cases hlt : k < vs.length
    · have hv : vs[k]? = some vs[k] := List.getElem?_eq_getElem hlt
      obtain ⟨b, o, rfl, g1, c1, c2⟩ := l3 k _ hv
      have d1 := (hik.bel.cell (p := ⟨b, o + k * 2, none⟩) g1).trans c1
      have d2 := (hik.bel.cell (p := ⟨b, o + k * 2 + 1, none⟩) g1).trans c2
      have dv := cell_of_heap hik.v
      have hlv : W.heap.size + 1 + 1 + 1 < wr.heap.size := (Array.getElem?_eq_some_iff.1 hik.v).1
      unfold visF at dv
      generalize hx : vs[k] = x at *
      have hr : refs h.length (vs.take k) := fun u hu => hrefs u (List.mem_of_mem_take hu)
      have hgk := visits_good hcl (h.length + 1) _ _ hr (Mn.Good.nil _)
      have hstep : visits h (h.length + 1) [] (vs.take (k + 1)) = visit h (h.length + 1) (visits h (h.length + 1) [] (vs.take k)) x := by
        rw [List.take_add_one, hv, visits_append]
        rfl
      have hpre : visit h (h.length + 1) (visits h (h.length + 1) [] (vs.take k)) x <+: order h vs := by
        rw [← hstep]
        have := visits_prefix h (h.length + 1) (vs.drop (k + 1)) (visits h (h.length + 1) [] (vs.take (k + 1)))
        rwa [← visits_append, List.take_append_drop] at this
      have hcall := hvis (visits h (h.length + 1) [] (vs.take k)) x (wr.alloc (.cells #[.int .u8 x.1, .int .i64 x.2] 49)) hgk (by omega) (fun h4 => hrefs x (List.mem_of_getElem? hv) h4) hpre (hJ.alloc _ hjk) (hik.alloc _)
      simp only [List.append_toArray, List.cons_append, List.nil_append] at hcall
      rw [← hstep] at hcall
      clear hvis hv c1 c2 l3 hstep hpre hgk hr hjk hik hx hW4 hb4 hj4 hi4 cx cx4 hbx hbh hj
      go_wp2_with (go_at_call 59; refine hcall.mono ?_; clear hcall; rintro e w' ⟨rfl, hj', hi'⟩)
      go_roundw
      case rel => exact ⟨k + 1, by omega, by go_num, hj', hi'⟩
      case measure => simp [intOf]; omega
    · obtain rfl : k = vs.length := by omega
      rw [List.take_length] at hjk
      have Hjk := Lib.hid hjk
      clear hvis l3 hik hjk hW4 hb4 hj4 hi4 cx cx4 hbx hbh hj
      go_wp2
      go_end0
      exact ⟨⟨_, rfl⟩, Hjk.out⟩
end Go.Proofs.YtdolijagffcfgaaGreatDoor
