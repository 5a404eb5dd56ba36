/-
  The walk of Reached: for every heap and every list of values.
-/
import Derived.RangeFuncNested
import Derived.RangeFuncBound
import Derived.RangeFuncCalls
import Derived.RangeFuncLeaves
import Derived.Shelf.Abstract
import Derived.Shelf.RegionOpen
import Derived.OwnWalkIn
import Derived.TacticsInMore
import Derived.LoopNIn
import Derived.LoopIn
import Derived.Maps.AppendAt
import Derived.Deep.RegionHeld3
import Derived.Deep.AppendLies
import Derived.WalkSpells
import Derived.StillTactics
import Derived.Laws.Pointers
import Derived.Test.YtdolijagffcfgaaGreatDoorMet
import Derived.Test.YtdolijagffcfgaaGreatDoorTurned
import Derived.Test.YtdolijagffcfgaaGreatDoorW3
namespace Go.Proofs.YtdolijagffcfgaaGreatDoor
open Go Go.RowKit Go.Mn Go.Shelf
set_option maxHeartbeats 4000000
set_option maxRecDepth 100000
attribute [local go_sem] Oper.semAt_some

theorem info3 : (Tryz.prog.info? 3).map (fun i => (i.zero, i.size, i.bytes)) = some (some (.int .i64 0), 1, 8) := by kernel_rfl
theorem info35 : (Tryz.prog.info? 35).map (fun i => (i.zero, i.size, i.bytes)) = some (some (.agg #[.int .u8 0, .int .i64 0, .slice none 0 0]), 3, 40) := by kernel_rfl

theorem met_any (p : Option Addr) (n c : Nat) (q : Option Addr) (m d : Nat) (w : World) :
    Calls Tryz.prog 23 #[.slice p n c, .slice q m d] w fun e w' => e = .returned (.func (.func 58) #[] #[.pointer (some ⟨w.heap.size, 0, none⟩), .pointer (some ⟨w.heap.size + 1, 0, none⟩)]) ∧ (w.alloc (.cells #[.slice p n c] 22)).alloc (.cells #[.slice q m d] 23) = w' := by
  go_enter Tryz.func23, Tryz.ntmps23
  go_wp2
  go_ret
  exact ⟨rfl, rfl⟩

/-- what the loop over what is met has in memory -/
structure Coll (N n0 : Nat) (w : World) (pre : List Nat) (W : World) : Prop where
  box : W.heap[N + 1]? = some (.cells #[.map (some N)] 62)
  at_ : MapAt W N (atD pre)
  row : ∃ v, Boxed W (N + 2) 50 v ∧ W.ownsRow N 3 1 v pre.length (pre.map fun i : Nat => Value.int .i64 (i : Int)) ∧ True
  bel : Below n0 w W

theorem Coll.own {N n0 S : Nat} {w : World} (hS : N + 5 ≤ S) (hn : n0 ≤ N) : OwnFrom S (Coll N n0 w) := by
  intro s A B row hs hg hr
  have hne : ∀ k, k < S → some k ≠ row := fun k hk e => by have := (hr k e.symm).1; omega
  refine ⟨(hg.block _ (Array.getElem?_eq_some_iff.1 hs.box).1 (hne _ (by omega))).trans hs.box, hs.at_.kept (hg.block _ hs.at_.lt (hne _ (by omega))), ?_, hs.bel.grown hg ?_ (fun k e => by have := (hr k e).1; omega)⟩
  · exact holdsRow_own N (N + 2) 50 3 1 (fun pre : List Nat => pre.length) (fun pre => pre.map fun i : Nat => Value.int .i64 (i : Int)) (fun _ _ => True) s A B row hs.row hg (fun r e => (hr r e).2)
  · have := (Array.getElem?_eq_some_iff.1 hs.box).1
    omega

theorem reached_no (B : Nat) (s t : Value) (h : Hp) (v : List Vl) (w : World) (hB : B ≤ w.heap.size) (hs : HeapAt B w s h) (ht : ValsAt B w t v) (hask : asked h v = false) :
    Calls Tryz.prog 9 #[s, t] w fun e w' => e = .returned (.tuple #[.slice none 0 0, .slice none 0 0, .int .i64 1]) ∧ Below w.heap.size w w' := by
  have hcall := asked_any B s t h v w hB hs ht
  rw [hask] at hcall
  obtain ⟨p, n, rfl, _⟩ := hs
  obtain ⟨q, m, rfl, _⟩ := ht
  go_enter Tryz.func9, Tryz.ntmps9
  go_wp2_with (go_at_call 22; refine hcall.mono ?_; clear hcall; rintro e w' ⟨rfl, hb⟩)
  go_ret3
  all_goals first | rfl | exact ⟨rfl, hb⟩ | exact hb

theorem reached_yes (B : Nat) (s t : Value) (h : Hp) (v : List Vl) (w : World) (hB : B ≤ w.heap.size) (hs : HeapAt B w s h) (ht : ValsAt B w t v) (hv : v.length ≤ 5000) (hask : asked h v = true) :
    CallsIn Fence.wide 6 Tryz.prog 9 #[s, t] w fun e w' => ∃ x y, e = .returned (.tuple #[x, y, .int .i64 0]) ∧ HeapAt w'.heap.size w' x (rHeap h v) ∧ ValsAt w'.heap.size w' y (rVals h v) ∧ Below w.heap.size w w' := by
  have hcall := asked_any B s t h v w hB hs ht
  rw [hask] at hcall
  have hs0 := hs
  have ht0 := ht
  obtain ⟨p, n, rfl, _⟩ := hs
  obtain ⟨q, m, rfl, _⟩ := ht
  have hmm := @run_makeMap Tryz.prog
  refine callsIn_of_wp_marks Tryz.func9 rfl trivial ?_ rfl
  simp only [Tryz.ntmps9, List.size_toArray, List.length_cons, List.length_nil, Nat.reduceAdd, Nat.reduceSub, Array.replicate_succ, Array.replicate_zero, List.push_toArray, List.append_toArray, List.nil_append, List.cons_append]
  gi_wp2_with fail
  refine ⟨trivial, ?_⟩
  refine (callsIn_wide.2 hcall).mono ?_
  clear hcall
  rintro e w1 ⟨rfl, hb1⟩
  gi_wp2_with fail
  refine ⟨trivial, ?_⟩
  refine (callsIn_wide.2 (met_any _ _ _ _ _ _ _)).mono ?_
  rintro e w2 ⟨rfl, rfl⟩
  gi_wp2_with fail
  -- the memory ahead of the loop
  obtain ⟨N, hN⟩ : ∃ N, w1.heap.size = N := ⟨_, rfl⟩
  obtain ⟨W5, hW5⟩ : ∃ W5, (((((w1.alloc (.map #[] 0)).alloc (.cells #[.map (some w1.heap.size)] 62)).alloc (.cells #[.slice none 0 0] 50)).alloc (.cells #[.slice p h.length n] 22)).alloc (.cells #[.slice q v.length m] 23)) = W5 := ⟨_, rfl⟩
  rw [hW5]
  have e1 := World.alloc_heap_new w1 (.map #[] 0)
  have e2 := World.alloc_heap_new (w1.alloc (.map #[] 0)) (.cells #[.map (some w1.heap.size)] 62)
  have e3 := World.alloc_heap_new ((w1.alloc (.map #[] 0)).alloc (.cells #[.map (some w1.heap.size)] 62)) (.cells #[.slice none 0 0] 50)
  have e4 := World.alloc_heap_new (((w1.alloc (.map #[] 0)).alloc (.cells #[.map (some w1.heap.size)] 62)).alloc (.cells #[.slice none 0 0] 50)) (.cells #[.slice p h.length n] 22)
  have e5 := World.alloc_heap_new ((((w1.alloc (.map #[] 0)).alloc (.cells #[.map (some w1.heap.size)] 62)).alloc (.cells #[.slice none 0 0] 50)).alloc (.cells #[.slice p h.length n] 22)) (.cells #[.slice q v.length m] 23)
  have hs5 : W5.heap.size = N + 5 := by rw [← hW5]; simp [hN]
  have hb5 : Below w1.heap.size w1 W5 := by
    rw [← hW5]
    exact (((((Below.refl _ w1).alloc (Nat.le_refl _) _).alloc (by simp) _).alloc (by simp; omega) _).alloc (by simp; omega) _).alloc (by simp; omega) _
  simp only [World.size_alloc] at e2 e3 e4 e5
  have f1 : W5.heap[N]? = some (.map #[] 0) := by
    rw [← hW5, ← hN]
    exact (Below.heap_alloc _ _ _ (by first | (simp; done) | (simp; omega))).trans ((Below.heap_alloc _ _ _ (by first | (simp; done) | (simp; omega))).trans ((Below.heap_alloc _ _ _ (by first | (simp; done) | (simp; omega))).trans ((Below.heap_alloc _ _ _ (by simp)).trans e1)))
  have f2 : W5.heap[N + 1]? = some (.cells #[.map (some N)] 62) := by
    rw [← hW5, ← hN]
    exact (Below.heap_alloc _ _ _ (by first | (simp; done) | (simp; omega))).trans ((Below.heap_alloc _ _ _ (by first | (simp; done) | (simp; omega))).trans ((Below.heap_alloc _ _ _ (by simp)).trans e2))
  have f3 : W5.heap[N + 2]? = some (.cells #[.slice none 0 0] 50) := by
    rw [← hW5, ← hN]
    exact (Below.heap_alloc _ _ _ (by first | (simp; done) | (simp; omega))).trans ((Below.heap_alloc _ _ _ (by simp)).trans e3)
  have f4 : W5.heap[N + 3]? = some (.cells #[.slice p h.length n] 22) := by
    rw [← hW5, ← hN]
    exact (Below.heap_alloc _ _ _ (by simp)).trans e4
  have f5 : W5.heap[N + 4]? = some (.cells #[.slice q v.length m] 23) := by
    rw [← hW5, ← hN]
    exact e5
  have hsz1 := hb1.size
  have hB5 : Below w.heap.size w W5 := hb1.trans (hb5.mono hsz1)
  have hC0 : Coll N w.heap.size w [] W5 := ⟨f2, ⟨#[], 0, f1, rfl⟩, ⟨_, f3, World.ownsRow_nil _ _ _ _, trivial⟩, hB5⟩
  have hs5' := (hs0.mono hB).below hB5
  have ht5' := (ht0.mono hB).below hB5
  rw [hN]
  clear e1 e2 e3 e4 e5 hW5 hmm hb5
  refine range_once rfl (by decide) (gf := 58) (lb := #[.pointer (some ⟨N + 3, 0, none⟩), .pointer (some ⟨N + 4, 0, none⟩)]) rfl trivial (enters_of Tryz.func58 (by kernel_rfl) rfl)
    (Kq w.heap.size (N + 2) N) (fun a b => a.trans b) ?kl (Coll N w.heap.size w) (Coll.own (by omega) (by omega)) (order h v) ?iter rfl hC0 ?a1 ?assign ?body ?done
  case assign =>
    intro l x W K hK
    gi_wp2
    exact hK
  case kl =>
    intro W l r r' hl hle
    exact Kq.grown (grownBy_putObj' W l _) (fun k e => by cases e; exact ⟨by omega, .inr (.inr ⟨_, hl, rfl⟩)⟩)
  case iter =>
    intro l J W hW hJ hY hj
    have hsz := hW.size
    exact callsIn_wide.2 (met58 (bo := N + 2) (ba := N) (bh := N + 3) (bx := N + 4) W hJ (hs5'.below (hW.mono (by omega))) (ht5'.below (hW.mono (by omega))) hask (by omega) (by omega) (by omega) ((hW.block _ (by omega)).trans f4) ((hW.block _ (by omega)).trans f5) ⟨by omega, by omega⟩
      (fun pre x W1 h1 h2 => YieldAt.any rfl (hY pre x W1 h1 h2)) hj)
  case body =>
    rintro l pre x W hC hpre
    have hgood := order_good hask
    have hle := hgood.le
    have hle5 := (closedH_iff.1 (asked_iff.1 hask).1).1
    have hplen := hpre.length_le
    simp at hplen
    have hxn : ¬ x ∈ pre := by
      have := hgood.nd.sublist hpre.sublist
      rw [List.nodup_append] at this
      exact fun hm => this.2.2 x hm x (by simp) rfl
    obtain ⟨ov, hov, hrow, _⟩ := hC.row
    obtain ⟨obj, hput, hmap, _⟩ := map_put (t := 62) (e := 3) Tryz.underlying62 hC.at_ (x : Int) (.int .i64 (pre.length : Int)) (look_at_none pre x hxn)
    rw [← atD_snoc] at hmap
    have hNlt := hC.at_.lt
    obtain ⟨W1, hW1⟩ : ∃ W1, W.putObj N obj = W1 := ⟨_, rfl⟩
    have hg1 : W.grownBy W1 (some N) := by rw [← hW1]; exact grownBy_putObj' W N obj
    have hov1 : Boxed W1 (N + 2) 50 ov := hov.kept hg1 (by simp)
    have hbx1 : Boxed W1 (N + 1) 62 (.map (some N)) := (show Boxed W (N + 1) 62 (.map (some N)) from hC.box).kept hg1 (by simp)
    have hrow1 : W1.ownsRow N 3 1 ov pre.length (pre.map fun i : Nat => Value.int .i64 (i : Int)) := by
      rw [← hW1]
      obtain ⟨es, clock, h1, _⟩ := hC.at_
      exact ownsRow_putObj hrow _ h1 rfl
    rw [hW1] at hput hmap
    have hbel1 : Below w.heap.size W W1 := (Below.refl _ W).grown hg1 (by have := hov.lt; omega) (fun k e => by cases e; omega)
    have hkq1 : Kq w.heap.size (N + 2) N W W1 := Kq.grown hg1 (fun k e => by cases e; exact ⟨by omega, .inr (.inl rfl)⟩)
    have hkf1 : KeepsFrom W5.heap.size W W1 := KeepsFrom.of_grownBy hg1 (fun j e => by cases e; omega)
    have hNW1 : N + 2 < W1.heap.size := hov1.lt
    have c7 := cell_of_heap hC.box
    have c8 := hov.cell
    have c81 := hov1.cell
    obtain ⟨op, oc, rfl⟩ := row_slice hrow
    obtain ⟨i0, hi, hz0, hz1, hz2⟩ := info_parts info3
    gi_wp2_with (gi_at_builtin; refine wpListIn_append_own _ rfl _ _ 50 rfl N 3 i0 (.int .i64 0) 1 8 Tryz.underlying50 hi hz0 hz1 hz2 rfl (by decide) _ _ _ rfl (hrow1.alloc _) ⟨W1.heap.size, 0, none⟩ 1 1 [.int .i64 (x : Int)] rfl rfl (cell_one_new _ _ _) (by simp [Value.oneCell']) (by unfold maxLen; omega) (by omega) (by simp; omega) ?_; intro v' w1 hown' hgrow _; obtain ⟨g', cap', rfl⟩ := ownsRow_succ hown'; obtain ⟨hv1, hv2, hr2, hk2, hb2⟩ := hov1.appended (by decide) hrow1 (by omega) (by omega) hown' hgrow; have hc1 := hv1.cell; have hf1 := hv1.frozen)
    have hkq2 : Kq w.heap.size (N + 2) N W1 (w1.setCell ⟨N + 2, 0, none⟩ (.slice (some ⟨g', 0, none⟩) (pre.length + 1) cap')) := by
      refine ((Kq.grown (World.grownBy_alloc W1 (.cells #[.int .i64 (x : Int)] 3) none) (fun k e => by cases e)).trans (Kq.grown hgrow (fun k e => ?_))).trans (Kq.grown (grownBy_setCell' w1 (N + 2) _) (fun k e => by cases e; exact ⟨by omega, .inl rfl⟩))
      obtain ⟨ob, h1, c, fz, rfl⟩ := row_wild (hrow1.alloc (.cells #[.int .i64 (x : Int)] 3)) k e
      have := row_ge hrow1 k e
      exact ⟨by omega, .inr (.inr ⟨_, h1, rfl⟩)⟩
    have hbx2 : Boxed (w1.setCell ⟨N + 2, 0, none⟩ (.slice (some ⟨g', 0, none⟩) (pre.length + 1) cap')) (N + 1) 62 (.map (some N)) :=
      ((hbx1.alloc (.cells #[.int .i64 (x : Int)] 3)).kept hgrow (hbx1.not_row (by decide) hrow1)).kept (grownBy_setCell' w1 (N + 2) _) (by simp)
    refine ⟨hkf1.trans (hk2.from _), hkq1.trans hkq2, hbx2, ?_, ⟨_, hv2, by simpa using hr2, trivial⟩, hC.bel.trans (hbel1.trans (hb2.mono (by omega)))⟩
    obtain ⟨es, clock, h1, h2⟩ := hmap
    exact ⟨es, clock, hk2.same _ _ h1 rfl, h2⟩
  case done =>
    rintro D W hD hC hDef
    obtain ⟨ov, hov, hrow, _⟩ := hC.row
    have c7 := cell_of_heap hC.box
    have c8 := hov.cell
    have hNlt := hC.at_.lt
    obtain ⟨op, oc, rfl⟩ := row_slice hrow
    have hgood := order_good hask
    have hcls := asked_iff.1 hask
    have hle := hgood.le
    have hle5 := (closedH_iff.1 hcls.1).1
    have hlo : (order h v).length ≤ 5000 := by omega
    have hsW : w.heap.size ≤ W.heap.size := hC.bel.size
    obtain ⟨i0, hi, hz0, hz1, hz2⟩ := info_parts info35
    obtain ⟨o, ho⟩ : ∃ o, order h v = o := ⟨_, rfl⟩
    have hsH : HeapAt w.heap.size W (.slice p h.length n) h := (hs0.mono hB).below hC.bel
    have htV : ValsAt w.heap.size W (.slice q v.length m) v := (ht0.mono hB).below hC.bel
    have hbox := hC.box
    have hat := hC.at_
    rw [ho] at hrow hat hlo hC
    gi_wp2_with fail
    gi_loopw [11, 13, 34] (fun out _ i wr => ∃ k : Nat, k ≤ o.length ∧ i = .int .i64 k ∧ HeapOwn wr W.heap.size out ((o.take k).map (obj h o)) ∧ Below W.heap.size W wr) (fun _ _ i _ => o.length - (intOf i).toNat)
    case atStart => exact ⟨0, Nat.zero_le _, rfl, HeapOwn.nil _ _, Below.refl _ _⟩
    case round =>
      obtain ⟨k, hk, rfl, hown, hW⟩ := hrel
      by_cases hlt : k < o.length
      · have hok : o[k]? = some o[k] := List.getElem?_eq_getElem hlt
        have hmo : o[k] ∈ o := List.getElem_mem hlt
        generalize hm : o[k] = m at *
        have hmh : m < h.length := hgood.lt m (by rw [ho]; exact hmo)
        have hxs : (o.map fun i : Nat => Value.int .i64 (i : Int))[k]? = some (.int .i64 (m : Int)) := by rw [List.getElem?_map, hok]; rfl
        obtain ⟨g, cg, hge, hgl, _, cg0⟩ := row_cell hrow hxs
        obtain ⟨rfl, rfl⟩ : op = some ⟨g, 0, none⟩ ∧ oc = cg := by
          injection hge with h1 h2 h3
          exact ⟨h1, h3⟩
        have hsz := hW.size
        have cg1 := (hW.cell (p := ⟨g, k, none⟩) hgl).trans cg0
        have hx : h[m]? = some h[m] := List.getElem?_eq_getElem hmh
        obtain ⟨ph, ch, hse, lh1, lh2, lh3⟩ := hsH
        obtain ⟨b, oo, sv, hpe, gb, D0, D1, D2, hsv⟩ := lh3 m _ hx
        obtain ⟨rfl, rfl⟩ : p = ph ∧ n = ch := by
          injection hse with h1 h2 h3
          exact ⟨h1, h3⟩
        subst hpe
        have hobj : obj h o m = ((h[m]).1, (h[m]).2.1, (h[m]).2.2.map (tr o)) := by unfold obj; rw [hx]; rfl
        have hkids : ∀ u ∈ (h[m]).2.2, u.1 = 4 → 0 ≤ u.2 ∧ u.2.toNat ∈ o := by
          intro u hu h4
          have huk : u ∈ kids h m := by unfold kids; rw [hx]; exact hu
          refine ⟨(isV_ref (kids_isV hcls.1 huk) h4).1, ?_⟩
          rw [← ho]
          exact order_kids hask (by rw [ho]; exact hmo) huk h4
        have hvl : (h[m]).2.2.length ≤ 5000 := okO_len ((closedH_iff.1 hcls.1).2 _ (List.mem_of_getElem? hx)).1
        generalize h[m] = x at *
        have d0 := (hW.cell (p := ⟨b, oo + m * 3, none⟩) (by show b < _; omega)).trans D0
        have d1 := (hW.cell (p := ⟨b, oo + m * 3 + 1, none⟩) (by show b < _; omega)).trans D1
        have d2 := (hW.cell (p := ⟨b, oo + m * 3 + 2, none⟩) (by show b < _; omega)).trans D2
        have hcall : ∀ w1, Below wr.heap.size wr w1 → Calls Tryz.prog 24 #[sv, .pointer (some ⟨N + 1, 0, none⟩)] w1 fun e w2 => ∃ qv cv, e = .returned (.slice qv x.2.2.length cv) ∧ w2.ownsRow W.heap.size 49 2 (.slice qv x.2.2.length cv) x.2.2.length (flat (x.2.2.map (tr o))) ∧ Below wr.heap.size wr w2 := by
          intro w1 h1
          have hW1 : Below W.heap.size W w1 := hW.trans (h1.mono hsz)
          refine (turned_any w.heap.size (N + 1) N sv x.2.2 o w1 (by have := hW1.size; omega) (hsv.below (hW1.mono hsW)) hvl ((hW1.block _ (Array.getElem?_eq_some_iff.1 hbox).1).trans hbox) (hat.kept (hW1.block _ hat.lt)) hkids).mono ?_
          rintro e w2 ⟨v', rfl, hr, hb⟩
          obtain ⟨qv, cv, hq⟩ := row_slice hr
          subst hq
          exact ⟨qv, cv, rfl, row_base hr hW1.size, h1.trans (hb.mono h1.size)⟩
        obtain ⟨q2, c4, rfl, _, _, _⟩ := hsv
        obtain ⟨l, hl, hr, hlv⟩ := hown
        have hk1 : (List.map (obj h o) (List.take k o)).length = k := by simp; omega
        rw [hk1] at hl hr
        have hstep : (o.take (k + 1)).map (obj h o) = (o.take k).map (obj h o) ++ [(x.1, x.2.1, x.2.2.map (tr o))] := by
          rw [List.take_add_one, hok, List.map_append, ← hobj]
          rfl
        have Hlv := Lib.hid hlv
        have Hstep := Lib.hid hstep
        have hmi0 : (0 : Int) ≤ (m : Int) := Int.natCast_nonneg _
        have hmi1 : (m : Int) < (h.length : Int) := by omega
        have hbwr : b < wr.heap.size := by omega
        clear hlv hstep lh3 hkids hobj hok hmo hm hxs hx hge hse hat hbox hrow hC htV hs0 ht0 hs5' ht5' f1 f2 f3 f4 f5 hov hDef cg0 hgood hcls hC0
        gi_wp2_with fail
        refine wpIn_wide.2 ?_
        go_region_held3 (fun w' => w'.cell? ⟨b, oo + m * 3, none⟩ = some (.int .u8 x.1) ∧ w'.cell? ⟨b, oo + m * 3 + 1, none⟩ = some (.int .i64 x.2.1) ∧ w'.cell? ⟨b, oo + m * 3 + 2, none⟩ = some (.slice q2 x.2.2.length c4))
          (first
            | exact ⟨(hbB.cell (p := ⟨b, oo + m * 3, none⟩) (by show b < _; omega)).trans D0, (hbB.cell (p := ⟨b, oo + m * 3 + 1, none⟩) (by show b < _; omega)).trans D1, (hbB.cell (p := ⟨b, oo + m * 3 + 2, none⟩) (by show b < _; omega)).trans D2⟩
            | exact ⟨(hbA.cell (p := ⟨b, oo + m * 3, none⟩) (by show b < _; omega)).trans D0, (hbA.cell (p := ⟨b, oo + m * 3 + 1, none⟩) (by show b < _; omega)).trans D1, (hbA.cell (p := ⟨b, oo + m * 3 + 2, none⟩) (by show b < _; omega)).trans D2⟩
            | go_keep)
          (first
            | (go_at_call 24; refine (hcall _ ((Below.refl _ _).drew)).mono ?_; rintro e w2 ⟨qv, cv, rfl, hvals, hb2⟩; have hbA : Below W.heap.size W w2 := hW.trans (hb2.mono hsz); have hr2 := row_below hr hb2 (Nat.le_refl _); have hs2 := hb2.size)
            | (refine step_append_lies _ (by rfl) _ _ _ (by rfl) W.heap.size 35 i0 _ 3 40 Tryz.underlying22 hi hz0 hz1 hz2 rfl (by omega) _ k (flatO l) (by rfl) (hr2.alloc _)
                ⟨w2.heap.size, 0, none⟩ 1 1 [.int .u8 x.1, .int .i64 x.2.1, .slice qv x.2.2.length cv] (by rfl) (by rfl) (cells_new w2 [.int .u8 x.1, .int .i64 x.2.1, .slice qv x.2.2.length cv] 35) (by simp [Value.oneCell'])
                (by omega) (by unfold maxLen; omega) (by omega) (by simp; omega) (w2.heap.size + 1) (by simp) ?_; intro gg cap w3 hown3 hgrow hat3 hlt3; have hbB : Below W.heap.size W w3 := (hbA.alloc (by omega) _).grown hgrow (by simp; omega) (row_ge hr2)))
        gi_wp2
        go_roundw
        case rel =>
          refine ⟨k + 1, by omega, by go_num, ?_, hbB⟩
          rw [Hstep.out]
          exact HeapOwn.snoc (x := (x.1, x.2.1, x.2.2.map (tr o))) (by rw [hk1]; exact hl) (by rw [hk1]; exact hr2) (fun i y hy => by
            obtain ⟨u, h1, h2, h3, h4⟩ := Hlv.out i y hy
            exact ⟨u, h1, h2, h3, row_below h4 hb2 (Nat.le_refl _)⟩) (by rw [List.length_map]; exact hvals) hgrow (by rw [hk1]; exact hown3)
        case measure => simp [intOf]; omega
      · obtain rfl : k = o.length := by omega
        rw [List.take_length] at hown
        have hsz := hW.size
        have hcall := turned_any w.heap.size (N + 1) N (.slice q v.length m) v o wr (by omega) (htV.below (hW.mono hsW)) hv ((hW.block _ (Array.getElem?_eq_some_iff.1 hbox).1).trans hbox) (hat.kept (hW.block _ hat.lt)) (fun u hu h4 => ⟨(asked_refs hask u hu h4).1, by rw [← ho]; exact order_mem hask hu h4⟩)
        have hD4 : ∀ w4, Below wr.heap.size wr w4 → w4.heap[D]? = some (.deferred (some [])) := fun w4 h4 => (h4.block _ (by have := (Array.getElem?_eq_some_iff.1 hDef).1; omega)).trans ((hW.block _ (Array.getElem?_eq_some_iff.1 hDef).1).trans hDef)
        have hDw : w.heap.size ≤ D := by omega
        have hfin : ∀ (w4 : World) (v' : Value), w4.ownsRow wr.heap.size 49 2 v' v.length (flat (v.map (tr o))) → Below wr.heap.size wr w4 →
            HeapAt (w4.putObj D (.deferred none)).heap.size (w4.putObj D (.deferred none)) u11 (rHeap h v) ∧ ValsAt (w4.putObj D (.deferred none)).heap.size (w4.putObj D (.deferred none)) v' (rVals h v) ∧ Below w.heap.size w (w4.putObj D (.deferred none)) := by
          intro w4 v' hr4 hb4
          refine ⟨?_, ?_, ?_⟩
          · have := ((hown.below hb4).putObj (.deferred none) (hD4 w4 hb4) rfl).at
            unfold rHeap
            rw [ho]
            exact this
          · unfold rVals
            rw [ho]
            exact owned_vals (by rw [List.length_map]; exact ownsRow_putObj hr4 _ (hD4 w4 hb4) rfl)
          · exact (hC.bel.trans (hW.mono hsW)).trans ((hb4.mono (by omega)).grown (grownBy_putObj' w4 D _) (by have := hb4.size; omega) (fun k e => by cases e; omega))
        have Hfin := Lib.hid hfin
        have HD4 := Lib.hid hD4
        clear hfin hD4 hown hsH htV hat hbox hrow hC hs0 ht0 hs5' ht5' f1 f2 f3 f4 f5 hov hgood hcls hC0 hDef hW
        gi_wp2_with fail
        refine ⟨trivial, ?_⟩
        refine (callsIn_wide.2 hcall).mono ?_
        clear hcall
        rintro e w4 ⟨v', rfl, hr4, hb4⟩
        gi_wp2
        refine ⟨by simp, .inl ⟨_, _, rfl, run_takeDeferred (HD4.out w4 hb4), ?_⟩⟩
        exact ⟨.tuple #[u11, v', .int .i64 0], by simp [results, Tryz.results9, go_sem], u11, v', rfl, Hfin.out w4 v' hr4 hb4⟩
end Go.Proofs.YtdolijagffcfgaaGreatDoor
