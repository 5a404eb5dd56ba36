/-
  The walk of the iterator of met: its closure visits what has not been seen, and yields it.
-/
import Derived.Test.YtdolijagffcfgaaGreatDoorIt
import Derived.Test.YtdolijagffcfgaaGreatDoorW2
import Derived.Shelf.Abstract
import Derived.OwnWalkIn
import Derived.TacticsInMore
import Derived.LoopNIn
import Derived.LoopIn
namespace Go.Proofs.YtdolijagffcfgaaGreatDoor
open Go Go.RowKit Go.Mn
set_option maxHeartbeats 2000000
set_option maxRecDepth 100000
attribute [local go_sem] Oper.semAt_some

/-- where the blocks lie -/
structure Geo (B n₁ by_ bs bm bv bh bo ba : Nat) : Prop where
  m : B ≤ bm
  n : n₁ ≤ bm
  ym : by_ ≠ bm
  sm : bs ≠ bm
  vm : bv ≠ bm
  hm : bh ≠ bm
  y : by_ ≠ bo ∧ by_ ≠ ba
  s : bs ≠ bo ∧ bs ≠ ba
  v : bv ≠ bo ∧ bv ≠ ba
  h : bh ≠ bo ∧ bh ≠ ba
  mm : bm ≠ bo ∧ bm ≠ ba
  ob : bo < B
  ab : ba < B

/-- what a visit does -/
def VisitSaid (h : Hp) (W₀ : World) (n₁ : Nat) (hs : Value) (l by_ bs bm bv bh : Nat) (xs : List Nat) (J : List Nat → World → Prop) (g : Nat) (args : Array Value) (r : Bool) (f : Nat) : Prop :=
  ∀ (o : List Nat) (v : Vl) (W : World), Mn.Good h.length o → h.length < o.length + f → (v.1 = 4 → 0 ≤ v.2 ∧ v.2.toNat < h.length) → visit h f o v <+: xs → J o W → It W₀ n₁ hs l by_ bs bm bv bh o W →
    Calls Tryz.prog g (#[.agg #[.int .u8 v.1, .int .i64 v.2]] ++ args) W fun e W' => e = .returned (.bool r) ∧ J (visit h f o v) W' ∧ It W₀ n₁ hs l by_ bs bm bv bh (visit h f o v) W'

section
variable {h : Hp} {W₀ : World} {n₁ : Nat} {hs : Value} {l by_ bs bm bv bh bo ba B : Nat} {xs : List Nat} {J : List Nat → World → Prop}

theorem visit60 (f : Nat) (hJ : OwnFrom B J)
    (ih : VisitSaid h W₀ n₁ hs l by_ bs bm bv bh xs J 59 #[.pointer (some ⟨bs, 0, none⟩), .pointer (some ⟨by_, 0, none⟩), .pointer (some ⟨bh, 0, none⟩), .pointer (some ⟨bv, 0, none⟩)] true f) :
    VisitSaid h W₀ n₁ hs l by_ bs bm bv bh xs J 60 #[.pointer (some ⟨bv, 0, none⟩)] false f := by
  intro o v W hg hf hv hp hj hi
  have hcall := ih o v (W.alloc (.cells #[.int .u8 v.1, .int .i64 v.2] 49)) hg hf hv hp (hJ.alloc _ hj) (hi.alloc _)
  simp only [List.append_toArray, List.cons_append, List.nil_append] at hcall ⊢
  have hc := cell_of_heap hi.v
  have hlt : bv < W.heap.size := (Array.getElem?_eq_some_iff.1 hi.v).1
  unfold visF at hc
  clear ih hp hi hj hv hg hf hJ
  go_enter Tryz.func60, Tryz.ntmps60
  go_wp2_with (go_at_call 59; refine hcall.mono ?_; clear hcall; rintro e w' ⟨rfl, hj', hi'⟩)
  go_ret
  exact ⟨by simp, hj', hi'⟩
theorem zero4 (w : World) : (zeroValue 4).run Tryz.prog w = .ok (.bool false) w := Tryz.zeroValue4 w

/-- nothing new is met -/
theorem visit59_old (f : Nat) (hJ : OwnFrom B J) (o : List Nat) (v : Vl) (W : World) (hold : ¬ (v.1 = 4 ∧ ¬ v.2.toNat ∈ o)) (hv : v.1 = 4 → 0 ≤ v.2 ∧ v.2.toNat < h.length) (hj : J o W) (hi : It W₀ n₁ hs l by_ bs bm bv bh o W) :
    Calls Tryz.prog 59 (#[.agg #[.int .u8 v.1, .int .i64 v.2]] ++ #[.pointer (some ⟨bs, 0, none⟩), .pointer (some ⟨by_, 0, none⟩), .pointer (some ⟨bh, 0, none⟩), .pointer (some ⟨bv, 0, none⟩)]) W fun e W' => e = .returned (.bool true) ∧ J (visit h f o v) W' ∧ It W₀ n₁ hs l by_ bs bm bv bh (visit h f o v) W' := by
  rw [visit_old h f o v hold]
  have hj' := hJ.alloc (.cells #[.int .u8 v.1, .int .i64 v.2] 49) hj
  have hi' := hi.alloc (.cells #[.int .u8 v.1, .int .i64 v.2] 49)
  simp only [List.append_toArray, List.cons_append, List.nil_append]
  by_cases h4 : v.1 = 4
  · have hin : v.2.toNat ∈ o := Classical.byContradiction fun hh => hold ⟨h4, hh⟩
    obtain ⟨k, n⟩ := v
    dsimp only at *
    subst h4
    obtain ⟨m, rfl⟩ := Int.eq_ofNat_of_zero_le (hv rfl).1
    rw [Int.toNat_natCast] at hin
    have hc := cell_of_heap hi.s
    have hlt : bs < W.heap.size := (Array.getElem?_eq_some_iff.1 hi.s).1
    have hlk := map_lookup (t := 137) (e := 4) Tryz.underlying137 hi'.m (m : Int) (zero4 _) (v := .bool true) (by rw [look_seen, if_pos hin]; rfl)
    clear hi hj hJ hold hv hin
    go_enter Tryz.func59, Tryz.ntmps59
    go_wp2
    go_ret
    exact ⟨rfl, hj', hi'⟩
  · have hb : (v.1 != 4) = true := by simpa using h4
    clear hi hj hJ hold hv h4
    go_enter Tryz.func59, Tryz.ntmps59
    go_wp2
    go_ret
    exact ⟨rfl, hj', hi'⟩

/-- what lies behind the yield of an object, as the walk wants it -/
theorem visit59_new (geo : Geo B n₁ by_ bs bm bv bh bo ba) (hJ : OwnFrom B J) (heap : HeapAt n₁ W₀ hs h) (hcl : Cl h)
    (hY : ∀ (pre : List Nat) (x : Nat) (W1 : World), J pre W1 → (pre ++ [x]) <+: xs → YieldAt Fence.wide 0 Tryz.prog l #[.int .i64 (x : Int)] W1 fun e W' => e = .returned (.bool true) ∧ J (pre ++ [x]) W' ∧ Kq n₁ bo ba W1 W') (f : Nat)
    (ih : VisitSaid h W₀ n₁ hs l by_ bs bm bv bh xs J 60 #[.pointer (some ⟨bv, 0, none⟩)] false f)
    (o : List Nat) (n : Nat) (W : World) (hg : Mn.Good h.length o) (hf : h.length < o.length + (f + 1)) (hn : n < h.length) (hno : ¬ n ∈ o) (hp : visits h f (o ++ [n]) (kids h n) <+: xs) (hj : J o W) (hi : It W₀ n₁ hs l by_ bs bm bv bh o W) (m : Nat) :
    CallsIn Fence.wide m Tryz.prog 59 #[.agg #[.int .u8 4, .int .i64 (n : Int)], .pointer (some ⟨bs, 0, none⟩), .pointer (some ⟨by_, 0, none⟩), .pointer (some ⟨bh, 0, none⟩), .pointer (some ⟨bv, 0, none⟩)] W fun e W' => e = .returned (.bool true) ∧ J (visits h f (o ++ [n]) (kids h n)) W' ∧ It W₀ n₁ hs l by_ bs bm bv bh (visits h f (o ++ [n]) (kids h n)) W' := by
  obtain ⟨W0, hW0⟩ : ∃ W0, W.alloc (.cells #[.int .u8 4, .int .i64 (n : Int)] 49) = W0 := ⟨_, rfl⟩
  have hj0 : J o W0 := by rw [← hW0]; exact hJ.alloc _ hj
  have hi0 : It W₀ n₁ hs l by_ bs bm bv bh o W0 := by rw [← hW0]; exact hi.alloc _
  have hbox0 : W0.heap[W.heap.size]? = some (.cells #[.int .u8 4, .int .i64 (n : Int)] 49) := by rw [← hW0]; exact World.alloc_heap_new W _
  have hlk := map_lookup (t := 137) (e := 4) Tryz.underlying137 hi0.m (n : Int) (zero4 _) (v := .bool false) (by rw [look_seen, if_neg hno]; rfl)
  obtain ⟨ob, hput, hmap, hob⟩ := map_put (t := 137) (e := 4) Tryz.underlying137 hi0.m (n : Int) (.bool true) (by rw [look_seen, if_neg hno])
  rw [← seenD_snoc] at hmap
  have hbm : bm < W.heap.size := hi.m.lt
  obtain ⟨W1, hW1⟩ : ∃ W1, W0.putObj bm ob = W1 := ⟨_, rfl⟩
  have hi1 : It W₀ n₁ hs l by_ bs bm bv bh (o ++ [n]) W1 := by rw [← hW1]; exact hi0.put hmap geo.n geo.ym geo.sm geo.vm geo.hm
  have hj1 : J o W1 := by
    rw [← hW1]
    obtain ⟨es, clock, h1, _⟩ := hi0.m
    exact hJ.putObj _ hj0 geo.m h1 rfl
  have hbox1 : W1.heap[W.heap.size]? = some (.cells #[.int .u8 4, .int .i64 (n : Int)] 49) := by rw [← hW1]; exact (World.putObj_heap_other (by omega)).trans hbox0
  rw [hW1] at hput
  -- where the object's values lie
  have hx : h[n]? = some h[n] := List.getElem?_eq_getElem hn
  have hk : kids h n = (h[n]).2.2 := by unfold kids; rw [hx]; rfl
  obtain ⟨p, cap, rfl, c1, c2, c3⟩ := heap
  obtain ⟨b, oo, sv, rfl, g1, -, -, g4, q, cc, rfl, l1, l2, l3⟩ := c3 n _ hx
  rw [← hk] at l1 l3 g4
  clear c3
  have hlen : h.length ≤ cap := c1
  unfold maxLen at c2
  -- the contract of the loop over its values
  have hcon : ∀ W2, J (o ++ [n]) W2 → It W₀ n₁ (.slice (some ⟨b, oo, none⟩) h.length cap) l by_ bs bm bv bh (o ++ [n]) W2 → Calls Tryz.prog 56 #[.slice q (kids h n).length cc, .func (.func 60) #[] #[.pointer (some ⟨bv, 0, none⟩)]] W2 fun e W' => e = .returned (.bool false) ∧ J (visits h f (o ++ [n]) (kids h n)) W' ∧ It W₀ n₁ (.slice (some ⟨b, oo, none⟩) h.length cap) l by_ bs bm bv bh (visits h f (o ++ [n]) (kids h n)) W' := by
    intro W2 hj2 hi2
    refine (con60 (fun k W' => J (visits h f (o ++ [n]) ((kids h n).take k)) W' ∧ It W₀ n₁ (.slice (some ⟨b, oo, none⟩) h.length cap) l by_ bs bm bv bh (visits h f (o ++ [n]) ((kids h n).take k)) W') (fun _ _ => False) _ q cc (kids h n) l1 l2 ?_ ?_ W2 ⟨by rw [List.take_zero]; exact hj2, by rw [List.take_zero]; exact hi2⟩).mono ?_
    · rintro k v W' hv ⟨_, hi'⟩
      obtain ⟨b', o', k1, k2, k3, k4⟩ := l3 k v hv
      exact ⟨b', o', k1, (hi'.bel.cell (p := ⟨b', o' + k * 2, none⟩) k2).trans k3, (hi'.bel.cell (p := ⟨b', o' + k * 2 + 1, none⟩) k2).trans k4⟩
    · rintro k v W' hv ⟨hj', hi'⟩
      have hgs := hg.snoc hn hno
      have hr : refs h.length ((kids h n).take k) := fun u hu => hcl n u (List.mem_of_mem_take hu)
      have hgk := visits_good hcl f _ _ hr hgs
      have hpk := visits_prefix h f ((kids h n).take k) (o ++ [n])
      have hstep : visits h f (o ++ [n]) ((kids h n).take (k + 1)) = visit h f (visits h f (o ++ [n]) ((kids h n).take k)) v := by
        rw [List.take_add_one, hv, visits_append]
        rfl
      have hpre : visit h f (visits h f (o ++ [n]) ((kids h n).take k)) v <+: xs := by
        rw [← hstep]
        refine List.IsPrefix.trans ?_ hp
        have := visits_prefix h f ((kids h n).drop (k + 1)) (visits h f (o ++ [n]) ((kids h n).take (k + 1)))
        rwa [← visits_append, List.take_append_drop] at this
      refine (ih _ v W' hgk (by have := hpk.length_le; simp at this; omega) (fun h4 => hcl n v (List.mem_of_getElem? hv) h4) hpre hj' hi').mono ?_
      rintro e W'' ⟨rfl, h1, h2⟩
      rw [hstep]
      exact .inl ⟨rfl, h1, h2⟩
    · rintro e W' (⟨rfl, h1, h2⟩ | ⟨_, _, _, hh⟩)
      · rw [List.take_length] at h1 h2
        exact ⟨rfl, h1, h2⟩
      · exact hh.elim
  -- the round
  have hy := (YieldAt.any (m' := m - 1) rfl (hY o n W1 hj1 ((visits_prefix h f _ _).trans hp))).mono (R' := fun e W2 => e = .returned (.bool true) ∧ W2.cell? ⟨bh, 0, none⟩ = some (.slice (some ⟨b, oo, none⟩) h.length cap) ∧ W2.cell? ⟨W.heap.size, 1, none⟩ = some (.int .i64 (n : Int)) ∧ W2.cell? ⟨b, oo + n * 3 + 2, none⟩ = some (.slice q (kids h n).length cc) ∧
      Calls Tryz.prog 56 #[.slice q (kids h n).length cc, .func (.func 60) #[] #[.pointer (some ⟨bv, 0, none⟩)]] W2 fun e W' => e = .returned (.bool false) ∧ J (visits h f (o ++ [n]) (kids h n)) W' ∧ It W₀ n₁ (.slice (some ⟨b, oo, none⟩) h.length cap) l by_ bs bm bv bh (visits h f (o ++ [n]) (kids h n)) W')
    (fun e W2 ⟨he, hj2, hk2⟩ => by
      have hi2 := hi1.kq hk2 geo.y geo.s geo.v geo.h geo.mm
      refine ⟨he, cell_of_heap hi2.b, ?_, (hi2.bel.cell (p := ⟨b, oo + n * 3 + 2, none⟩) g1).trans g4, hcon W2 hj2 hi2⟩
      have := hk2.keep _ _ hbox1 (.inr ⟨by have := geo.ob; have := geo.m; omega, by have := geo.ab; have := geo.m; omega, rfl⟩)
      unfold World.cell?
      rw [this]
      rfl)
  obtain ⟨fn, tmps, assign, body, hy, hR⟩ := hy
  have cs := cell_of_heap hi0.s
  have cs1 := cell_of_heap hi1.s
  have cy1 := cell_of_heap hi1.y
  have cb1 : W1.cell? ⟨W.heap.size, 1, none⟩ = some (.int .i64 (n : Int)) := by unfold World.cell?; rw [hbox1]; rfl
  have cb00 : W0.cell? ⟨W.heap.size, 0, none⟩ = some (.int .u8 4) := by unfold World.cell?; rw [hbox0]; rfl
  have cb01 : W0.cell? ⟨W.heap.size, 1, none⟩ = some (.int .i64 (n : Int)) := by unfold World.cell?; rw [hbox0]; rfl
  clear hcon hmap hi1 hi0 hi hj hj0 hj1 hbox0 hbox1 hY ih hob l3 hW1 hp hf hg hno hJ hcl g4 hx hk
  refine callsIn_of_wp Tryz.func59 rfl trivial ?_ rfl
  simp only [Tryz.ntmps59, List.size_toArray, List.length_cons, List.length_nil, Nat.reduceAdd, Nat.reduceSub, Array.replicate_succ, Array.replicate_zero, List.push_toArray, List.append_toArray, List.nil_append, List.cons_append]
  gi_wp2_with fail
  refine ⟨fun hh => (by cases hh), ?_⟩
  refine hR.mono ?_
  clear hR
  rintro e W2 ⟨rfl, b1, b2, b3, hc56⟩
  gi_wp2_with fail
  refine ⟨trivial, fun hh => (by cases hh), ?_⟩
  refine (callsIn_wide.2 hc56).mono ?_
  clear hc56
  rintro e W3 ⟨rfl, hj3, hi3⟩
  gi_wp2
  go_ret
  exact ⟨by simp, hj3, hi3⟩

theorem visit_all (geo : Geo B n₁ by_ bs bm bv bh bo ba) (hJ : OwnFrom B J) (heap : HeapAt n₁ W₀ hs h) (hcl : Cl h)
    (hY : ∀ (pre : List Nat) (x : Nat) (W1 : World), J pre W1 → (pre ++ [x]) <+: xs → YieldAt Fence.wide 0 Tryz.prog l #[.int .i64 (x : Int)] W1 fun e W' => e = .returned (.bool true) ∧ J (pre ++ [x]) W' ∧ Kq n₁ bo ba W1 W') :
    ∀ f, VisitSaid h W₀ n₁ hs l by_ bs bm bv bh xs J 59 #[.pointer (some ⟨bs, 0, none⟩), .pointer (some ⟨by_, 0, none⟩), .pointer (some ⟨bh, 0, none⟩), .pointer (some ⟨bv, 0, none⟩)] true f := by
  intro f
  induction f with
  | zero =>
    intro o v W hg hf hv hp hj hi
    refine visit59_old 0 hJ o v W (fun hnew => ?_) hv hj hi
    have := hg.le
    omega
  | succ f ih =>
    intro o v W hg hf hv hp hj hi
    by_cases hnew : v.1 = 4 ∧ ¬ v.2.toNat ∈ o
    · obtain ⟨k, n⟩ := v
      obtain ⟨h4, hno⟩ := hnew
      dsimp only at *
      subst h4
      obtain ⟨m, rfl⟩ := Int.eq_ofNat_of_zero_le (hv rfl).1
      have hvis : visit h (f + 1) o (4, (m : Int)) = visits h f (o ++ [m]) (kids h m) := by
        rw [visit_succ, if_pos ⟨rfl, hno⟩]
        simp
      rw [hvis] at hp ⊢
      rw [Int.toNat_natCast] at hno
      refine callsIn_wide.1 (visit59_new geo hJ heap hcl hY f (visit60 f hJ ih) o m W hg hf (by have := (hv rfl).2; simpa using this) hno hp hj hi 0)
    · exact visit59_old (f + 1) hJ o v W hnew hv hj hi
end
end Go.Proofs.YtdolijagffcfgaaGreatDoor
