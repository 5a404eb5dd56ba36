/-
  What the iterator of met has in memory, and what the loop over it may turn.
-/
import Derived.Test.YtdolijagffcfgaaGreatDoorMem
import Derived.Test.YtdolijagffcfgaaGreatDoorMaps
import Derived.Test.YtdolijagffcfgaaGreatDoorRange
namespace Go.Proofs.YtdolijagffcfgaaGreatDoor
open Go Go.RowKit Go.Mn

/-- blocks that the loop's body leaves alone, wherever they lie: no cells of numbers, no record of a loop -/
def tame : Obj → Bool
  | .cells _ t _ => decide (t ≠ 3)
  | .loop _ => false
  | _ => true

/-- what a round keeps: all below n₁, and whatever is tame but the box bo and the map ba -/
structure Kq (n₁ bo ba : Nat) (W W' : World) : Prop where
  os : W'.os = W.os
  tape : W'.tape = W.tape
  output : W'.output = W.output
  size : W.heap.size ≤ W'.heap.size
  keep : ∀ k ob, W.heap[k]? = some ob → (k < n₁ ∨ (k ≠ bo ∧ k ≠ ba ∧ tame ob = true)) → W'.heap[k]? = some ob

theorem Kq.refl (n₁ bo ba : Nat) (W : World) : Kq n₁ bo ba W W := ⟨rfl, rfl, rfl, Nat.le_refl _, fun _ _ h _ => h⟩
theorem Kq.trans {n₁ bo ba : Nat} {A B C : World} (h : Kq n₁ bo ba A B) (k : Kq n₁ bo ba B C) : Kq n₁ bo ba A C :=
  ⟨k.os.trans h.os, k.tape.trans h.tape, k.output.trans h.output, Nat.le_trans h.size k.size, fun i ob hi hc => k.keep i ob (h.keep i ob hi hc) hc⟩
/-- a step that turns one block at most -/
theorem Kq.grown {n₁ bo ba : Nat} {W W' : World} {row : Option Nat} (hg : W.grownBy W' row) (hr : ∀ r, row = some r → n₁ ≤ r ∧ (r = bo ∨ r = ba ∨ ∃ ob, W.heap[r]? = some ob ∧ tame ob = false)) : Kq n₁ bo ba W W' :=
  ⟨hg.os, hg.tape, hg.output, hg.size, fun k ob hk hc => by
    refine (hg.block k (Array.getElem?_eq_some_iff.1 hk).1 (fun e => ?_)).trans hk
    obtain ⟨h1, h2⟩ := hr k e.symm
    rcases hc with hc | ⟨c1, c2, c3⟩
    · omega
    · rcases h2 with h2 | h2 | ⟨ob', h3, h4⟩
      · exact c1 h2
      · exact c2 h2
      · rw [hk] at h3
        cases h3
        rw [c3] at h4
        cases h4⟩
theorem Kq.below {n₁ bo ba : Nat} {W W' : World} (h : Kq n₁ bo ba W W') : ∀ k, k < n₁ → k < W.heap.size → W'.heap[k]? = W.heap[k]? := fun k hk hs => by
  have he : W.heap[k]? = some W.heap[k] := Array.getElem?_eq_getElem hs
  rw [he]
  exact h.keep k _ he (.inl hk)
theorem Kq.belowB {n₁ bo ba : Nat} {W W' : World} (h : Kq n₁ bo ba W W') (hn : n₁ ≤ W.heap.size) : Below n₁ W W' :=
  ⟨h.os, h.tape, h.output, h.size, fun k hk => h.below k hk (by omega)⟩

/-- the iterator's closure 'visit' -/
def visF (by_ bs bh bv : Nat) : Value := .func (.func 59) #[] #[.pointer (some ⟨bs, 0, none⟩), .pointer (some ⟨by_, 0, none⟩), .pointer (some ⟨bh, 0, none⟩), .pointer (some ⟨bv, 0, none⟩)]

/-- what the iterator has in memory: the boxes of yield, seen, visit and the heap; the map of what was seen; below n₁ all is as it was in W₀ -/
structure It (W₀ : World) (n₁ : Nat) (hs : Value) (l by_ bs bm bv bh : Nat) (o : List Nat) (W : World) : Prop where
  y : W.heap[by_]? = some (.cells #[.func (.yield l) #[] #[]] 136)
  s : W.heap[bs]? = some (.cells #[.map (some bm)] 137)
  v : W.heap[bv]? = some (.cells #[visF by_ bs bh bv] 135)
  b : W.heap[bh]? = some (.cells #[hs] 22)
  bel : Below n₁ W₀ W
  m : MapAt W bm (seenD o)
  n : n₁ ≤ W.heap.size

theorem cell_of_heap {W : World} {b : Nat} {v : Value} {t : TypeId} (h : W.heap[b]? = some (.cells #[v] t)) : W.cell? ⟨b, 0, none⟩ = some v := by
  unfold World.cell?
  rw [h]
  rfl
section
variable {W₀ : World} {n₁ : Nat} {hs : Value} {l by_ bs bm bv bh : Nat} {o : List Nat} {W W' : World}
theorem It.alloc (i : It W₀ n₁ hs l by_ bs bm bv bh o W) (ob : Obj) : It W₀ n₁ hs l by_ bs bm bv bh o (W.alloc ob) := by
  have hk : ∀ {k : Nat} {x : Obj}, W.heap[k]? = some x → (W.alloc ob).heap[k]? = some x := fun hx => (Below.heap_alloc W ob _ (Array.getElem?_eq_some_iff.1 hx).1).trans hx
  exact ⟨hk i.y, hk i.s, hk i.v, hk i.b, i.bel.alloc i.n _, i.m.kept (Below.heap_alloc W ob _ i.m.lt), Nat.le_trans i.n (by simp)⟩
theorem It.kq {bo ba : Nat} (i : It W₀ n₁ hs l by_ bs bm bv bh o W) (hk : Kq n₁ bo ba W W') (hy : by_ ≠ bo ∧ by_ ≠ ba) (hs' : bs ≠ bo ∧ bs ≠ ba) (hv : bv ≠ bo ∧ bv ≠ ba) (hb : bh ≠ bo ∧ bh ≠ ba) (hm : bm ≠ bo ∧ bm ≠ ba) : It W₀ n₁ hs l by_ bs bm bv bh o W' := by
  refine ⟨hk.keep _ _ i.y (.inr ⟨hy.1, hy.2, rfl⟩), hk.keep _ _ i.s (.inr ⟨hs'.1, hs'.2, rfl⟩), hk.keep _ _ i.v (.inr ⟨hv.1, hv.2, rfl⟩), hk.keep _ _ i.b (.inr ⟨hb.1, hb.2, rfl⟩),
    i.bel.trans (hk.belowB i.n), ?_, Nat.le_trans i.n hk.size⟩
  obtain ⟨es, clock, h1, h2⟩ := i.m
  exact ⟨es, clock, hk.keep _ _ h1 (.inr ⟨hm.1, hm.2, rfl⟩), h2⟩
/-- the map is turned -/
theorem It.put (i : It W₀ n₁ hs l by_ bs bm bv bh o W) {ob : Obj} {o' : List Nat} (hm : MapAt (W.putObj bm ob) bm (seenD o')) (hn : n₁ ≤ bm) (hy : by_ ≠ bm) (hs' : bs ≠ bm) (hv : bv ≠ bm) (hb : bh ≠ bm) : It W₀ n₁ hs l by_ bs bm bv bh o' (W.putObj bm ob) := by
  refine ⟨(World.putObj_heap_other hy).trans i.y, (World.putObj_heap_other hs').trans i.s, (World.putObj_heap_other hv).trans i.v, (World.putObj_heap_other hb).trans i.b, i.bel.grown (grownBy_putObj' W bm ob) i.n (fun k e => by cases e; exact hn), hm, by rw [World.putObj_size]; exact i.n⟩
end

/-- no depth is asked -/
theorem RoundIn.any {F : Fence} (hd : F.depth = none) {m m' : Nat} {P : Program} {l : Nat} {f : FuncId} {tmps : Array Value} {assign body : Code} {w : World} {R : Ending → World → Prop}
    (h : RoundIn F m P l f tmps assign body w R) : RoundIn F m' P l f tmps assign body w R := ⟨h.1, fun c cs _ => h.2 c cs fun d hh => by rw [hd] at hh; cases hh⟩
theorem YieldAt.any {F : Fence} (hd : F.depth = none) {m m' : Nat} {P : Program} {l : Nat} {args : Array Value} {W : World} {R : Ending → World → Prop} (h : YieldAt F m P l args W R) : YieldAt F m' P l args W R := by
  obtain ⟨fn, tmps, assign, body, hy, hR⟩ := h
  exact ⟨fn, tmps, assign, body, hy, RoundIn.any hd hR⟩
end Go.Proofs.YtdolijagffcfgaaGreatDoor
