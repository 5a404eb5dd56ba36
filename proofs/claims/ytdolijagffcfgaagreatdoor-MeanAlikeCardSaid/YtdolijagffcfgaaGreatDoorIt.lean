/-
  How a map with int keys, the iterator of met and a range over it go in memory. No condition.
-/
import Derived.RangeFuncWrites
import Derived.KernelRfl
import Derived.Test.YtdolijagffcfgaaGreatDoorProg
import Derived.RangeFuncNested
import Derived.RangeFuncBound
import Derived.RangeFuncLeaves
import Derived.WalkKit
import Derived.Test.YtdolijagffcfgaaGreatDoorMem
namespace Go.Proofs.YtdolijagffcfgaaGreatDoor
open Go Go.RowKit

/-- what lies in a map, in the order in which it was put in -/
def MapAt (w : World) (b : Nat) (d : List (Int × Value)) : Prop :=
  ∃ es clock, w.heap[b]? = some (.map es clock) ∧ es.toList.map (fun e => (e.key, e.val)) = d.map fun p => (Value.int .i64 p.1, p.2)

def look (d : List (Int × Value)) (k : Int) : Option Value := (d.find? fun p => p.1 == k).map (·.2)

theorem find_in (k : Int) : ∀ (es : List MapEntry) (d : List (Int × Value)) (i : Nat), es.map (fun e => (e.key, e.val)) = d.map (fun p => (Value.int .i64 p.1, p.2)) →
    (∃ j v, look d k = some v ∧ Instr.findNow (.int .i64) (.int .i64 k) es i = some (some (j, v))) ∨ (look d k = none ∧ Instr.findNow (.int .i64) (.int .i64 k) es i = some none) := by
  intro es
  induction es with
  | nil =>
    intro d i h
    cases d with
    | nil => exact .inr ⟨rfl, rfl⟩
    | cons p d => simp at h
  | cons e es ih =>
    intro d i h
    cases d with
    | nil => simp at h
    | cons p d =>
      rw [List.map_cons, List.map_cons] at h
      obtain ⟨h1, h2⟩ := List.cons.inj h
      obtain ⟨hk, hv⟩ := Prod.mk.inj h1
      by_cases he : p.1 = k
      · refine .inl ⟨i, p.2, ?_, ?_⟩
        · unfold look
          simp [he]
        · simp only [Instr.findNow, hk, Instr.sameNow, if_true, hv]
          rw [show (k == p.1) = true from by simp [he]]
      · have hf : look (p :: d) k = look d k := by
          unfold look
          rw [List.find?_cons_of_neg (by simpa using he)]
        have hs : Instr.findNow (.int .i64) (.int .i64 k) (e :: es) i = Instr.findNow (.int .i64) (.int .i64 k) es (i + 1) := by
          simp only [Instr.findNow, hk, Instr.sameNow, if_true]
          rw [show (k == p.1) = false from by simp; exact fun e => he e.symm]
        rw [hf, hs]
        exact ih d (i + 1) h2

theorem check3 (b : Bool) (v : Value) (w : World) : (Instr.checkKey b 10000 3 v).run Tryz.prog w = .ok () w := by
  rw [show (10000 : Nat) = 9999 + 1 from rfl, Instr.checkKey, Sem.run_bind, Go.run_underlying Tryz.underlying3]
  rfl

theorem map_lookup {t e : TypeId} (ht : Tryz.prog.underlying t = some (.map 3 e)) {w : World} {b : Nat} {d : List (Int × Value)} (hm : MapAt w b d) (k : Int) {z v : Value} (hz : (zeroValue e).run Tryz.prog w = .ok z w) (hv : (look d k).getD z = v) :
    (Instr.lookup t (.map (some b)) (.int .i64 k) false).run Tryz.prog w = .ok v w := by
  obtain ⟨es, clock, hg, he⟩ := hm
  have hgo : (getObj b).run Tryz.prog w = .ok (.map es clock) w := by simp [getObj, Sem.run, hg]
  subst hv
  rcases find_in k es.toList d 0 he with ⟨j, v, h1, h2⟩ | ⟨h1, h2⟩
  · have hk : (Instr.findKey 3 (.int .i64 k) es.toList).run Tryz.prog w = .ok (some (j, v)) w := by
      simp only [Instr.findKey, Sem.run_bind, Go.run_underlying Tryz.underlying3, Result.andThen_ok, h2, Sem.run_pure]
    simp only [Instr.lookup, Sem.run_bind, Go.run_underlying ht, Result.andThen_ok, hgo, check3, hk, Sem.run_pure, h1, Option.getD_some, Bool.false_eq_true, if_false]
  · have hk : (Instr.findKey 3 (.int .i64 k) es.toList).run Tryz.prog w = .ok none w := by
      simp only [Instr.findKey, Sem.run_bind, Go.run_underlying Tryz.underlying3, Result.andThen_ok, h2, Sem.run_pure]
    simp only [Instr.lookup, Sem.run_bind, Go.run_underlying ht, Result.andThen_ok, hgo, check3, hk, Sem.run_pure, h1, Option.getD_none, Bool.false_eq_true, if_false, hz]

theorem map_put {t e : TypeId} (ht : Tryz.prog.underlying t = some (.map 3 e)) {w : World} {b : Nat} {d : List (Int × Value)} (hm : MapAt w b d) (k : Int) (v : Value) (hk : look d k = none) :
    ∃ o, (Instr.mapUpdate t (.map (some b)) (.int .i64 k) v).run Tryz.prog w = .ok () (w.putObj b o) ∧ MapAt (w.putObj b o) b (d ++ [(k, v)]) ∧ o.isCells = false := by
  obtain ⟨es, clock, hg, he⟩ := hm
  have hgo : (getObj b).run Tryz.prog w = .ok (.map es clock) w := by simp [getObj, Sem.run, hg]
  have hlt := (Array.getElem?_eq_some_iff.1 hg).1
  rcases find_in k es.toList d 0 he with ⟨j, u, h1, h2⟩ | ⟨h1, h2⟩
  · rw [hk] at h1; cases h1
  · have hf : (Instr.findKey 3 (.int .i64 k) es.toList).run Tryz.prog w = .ok none w := by
      simp only [Instr.findKey, Sem.run_bind, Go.run_underlying Tryz.underlying3, Result.andThen_ok, h2, Sem.run_pure]
    refine ⟨.map (es.push { key := .int .i64 k, val := v, born := clock }) (clock + 1), ?_, ?_, rfl⟩
    · simp only [Instr.mapUpdate, Sem.run_bind, Go.run_underlying ht, Result.andThen_ok, hgo, check3, hf]
      simp [setObj, Sem.run, World.putObj, hg]
    · refine ⟨_, _, World.putObj_heap_same hlt, ?_⟩
      simp [he]

theorem MapAt.kept {w w' : World} {b : Nat} {d : List (Int × Value)} (h : MapAt w b d) (hb : w'.heap[b]? = w.heap[b]?) : MapAt w' b d := by
  obtain ⟨es, clock, h1, h2⟩ := h
  exact ⟨es, clock, hb.trans h1, h2⟩
theorem MapAt.lt {w : World} {b : Nat} {d : List (Int × Value)} (h : MapAt w b d) : b < w.heap.size := by
  obtain ⟨es, clock, h1, h2⟩ := h
  exact (Array.getElem?_eq_some_iff.1 h1).1

/-- the set of objects that were seen -/
def seenD (o : List Nat) : List (Int × Value) := o.map fun i : Nat => ((i : Int), Value.bool true)
theorem look_seen (o : List Nat) (n : Nat) : look (seenD o) (n : Int) = if n ∈ o then some (.bool true) else none := by
  unfold look seenD
  induction o with
  | nil => rfl
  | cons a o ih =>
    rw [List.map_cons]
    by_cases h : a = n
    · subst h
      rw [List.find?_cons_of_pos (by simp)]
      simp
    · rw [List.find?_cons_of_neg (by simpa using fun e => h (Int.ofNat.inj e)), ih]
      have : (n ∈ a :: o) = (n ∈ o) := by
        rw [List.mem_cons]
        exact propext ⟨fun hh => hh.resolve_left (fun e => h e.symm), .inr⟩
      simp only [this]

/-- the place of each object in the order -/
def atD (o : List Nat) : List (Int × Value) := o.zipIdx.map fun p => ((p.1 : Int), Value.int .i64 (p.2 : Int))
theorem atD_snoc (o : List Nat) (i : Nat) : atD (o ++ [i]) = atD o ++ [((i : Int), Value.int .i64 (o.length : Int))] := by
  unfold atD
  rw [List.zipIdx_append, List.map_append]
  simp
theorem seenD_snoc (o : List Nat) (i : Nat) : seenD (o ++ [i]) = seenD o ++ [((i : Int), Value.bool true)] := by
  unfold seenD
  rw [List.map_append]
  rfl
theorem look_at_from (o : List Nat) (n : Nat) : ∀ k : Nat, look ((o.zipIdx k).map fun p => ((p.1 : Int), Value.int .i64 (p.2 : Int))) (n : Int) = if n ∈ o then some (.int .i64 ((k + o.idxOf n : Nat) : Int)) else none := by
  unfold look
  induction o with
  | nil => intro k; rfl
  | cons a o ih =>
    intro k
    rw [List.zipIdx_cons, List.map_cons]
    by_cases h : a = n
    · subst h
      rw [List.find?_cons_of_pos (by simp)]
      simp
    · rw [List.find?_cons_of_neg (by simpa using fun e => h (Int.ofNat.inj e)), ih]
      have : (n ∈ a :: o) = (n ∈ o) := by
        rw [List.mem_cons]
        exact propext ⟨fun hh => hh.resolve_left (fun e => h e.symm), .inr⟩
      simp only [this]
      have hi : (a :: o).idxOf n = o.idxOf n + 1 := by rw [List.idxOf_cons, show (a == n) = false from by simpa using h]; rfl
      rw [hi]
      split
      · congr 3; omega
      · rfl
theorem look_at (o : List Nat) (n : Nat) (h : n ∈ o) : look (atD o) (n : Int) = some (.int .i64 (o.idxOf n : Int)) := by
  have := look_at_from o n 0
  rw [if_pos h] at this
  unfold atD
  rw [this]
  simp
theorem look_at_none (o : List Nat) (n : Nat) (h : ¬ n ∈ o) : look (atD o) (n : Int) = none := by
  have := look_at_from o n 0
  rw [if_neg h] at this
  exact this
end Go.Proofs.YtdolijagffcfgaaGreatDoor

namespace Go.Proofs.YtdolijagffcfgaaGreatDoor
open Go Go.RowKit
section
variable {F : Fence} {n : Nat} {P : Program}

/-- how a round is left: always by its end -/
def goesOn (B : Nat) (Kp : World → World → Prop) (I : List Nat → World → Prop) (s : List Nat) (W : World) : Exit → Act → World → Prop
  | .normal, _, W' => KeepsFrom B W W' ∧ Kp W W' ∧ I s W'
  | _, _, _ => False

theorem range_once {g : Operand} {ps : Array Tmp} {assign body : Code} {Q : Exit → Act → World → Prop} {a : Act} {w : World}
    (hro : F.round = none) (h1 : 1 ≤ n) {gf : Nat} {lb : Array Value} (hg : a.eval g = .func (.func gf) #[] lb) (hFg : F.fn gf) (eg : ∀ args w, (callFunc gf args).run P w = .ok (.enter gf args) w)
    (Kp : World → World → Prop) (hKt : ∀ {A B C : World}, Kp A B → Kp B C → Kp A C) (hKl : ∀ (W : World) (l : Nat) (r r' : Loop), W.heap[l]? = some (.loop r) → w.heap.size ≤ l → Kp W (W.putObj l (.loop r')))
    (I : List Nat → World → Prop) (hI : OwnFrom w.heap.size I) (xs : List Nat)
    (hiter : ∀ (l : Nat) (J : List Nat → World → Prop) (W : World), Below w.heap.size w W → OwnFrom W.heap.size J →
      (∀ (pre : List Nat) (x : Nat) (W1 : World), J pre W1 → (pre ++ [x]) <+: xs → YieldAt F (n - 1 - 1) P l #[.int .i64 (x : Int)] W1 fun e W' => e = .returned (.bool true) ∧ J (pre ++ [x]) W' ∧ Kp W1 W') →
      J [] W → CallsIn F (n - 1) P gf (#[.func (.yield l) #[] #[]] ++ lb) W fun e W' => (∃ v, e = .returned v) ∧ J xs W')
    (hps : ps.size = 1) (h0 : I [] w) (a₁ : Nat → Act)
    (hassign : ∀ (l x : Nat) (W : World) (K : Act → World → Prop), K (a₁ x) W →
      assign.wpIn (F.inRound l) (n - 1 - 1) P (Exit.then K (fun _ _ _ => False)) { tmps := (ps.zip #[Value.int .i64 (x : Int)]).foldl (fun t (p, v) => t.setIfInBounds p v) a.tmps, defers := [] } W)
    (hbody : ∀ (l : Nat) (pre : List Nat) (x : Nat) (W : World), I pre W → (pre ++ [x]) <+: xs → body.wpIn (F.inRound l) (n - 1 - 1) P (goesOn w.heap.size Kp I (pre ++ [x]) W) (a₁ x) W)
    (hdone : ∀ (D : Nat) (W : World), w.heap.size ≤ D → I xs W → W.heap[D]? = some (.deferred (some [])) → Q .normal { a with defers := { target := .collected D, args := #[] } :: a.defers } W) :
    (Code.rangeFunc g ps assign body).wpIn F n P Q a w := by
  refine wpIn_rangeFunc ?_
  intro fn hfn
  rw [hro]
  -- the two blocks that the loop lays: what the rounds defer, and the loop's record
  let rc : LoopState → Option Code → Loop := fun st pe => { state := st, pending := pe, fn, tmps := a.tmps, params := ps, assign, body, defers := w.heap.size }
  have hrc : ∀ st pe, rc st pe = { state := st, pending := pe, fn, tmps := a.tmps, params := ps, assign, body, defers := w.heap.size } := fun _ _ => rfl
  obtain ⟨W1, hW1⟩ : ∃ W1, (w.alloc (.deferred (some []))).alloc (.loop (rc .ready none)) = W1 := ⟨_, rfl⟩
  have hL1 : W1.heap[w.heap.size + 1]? = some (.loop (rc .ready none)) := by
    have := World.alloc_heap_new (w.alloc (.deferred (some []))) (.loop (rc .ready none))
    rwa [World.size_alloc, hW1] at this
  have hD1 : W1.heap[w.heap.size]? = some (.deferred (some [])) := by
    rw [← hW1]
    exact (Below.heap_alloc _ _ _ (by simp)).trans (World.alloc_heap_new w _)
  have hs1 : W1.heap.size = w.heap.size + 2 := by rw [← hW1]; simp
  have hI1 : I [] W1 := by rw [← hW1]; exact hI.alloc _ (hI.alloc _ h0)
  have hb1 : Below w.heap.size w W1 := by rw [← hW1]; exact ((Below.refl _ w).alloc (Nat.le_refl _) _).alloc (by simp) _
  refine ⟨w.heap.size + 1, [{ target := .collected w.heap.size, args := #[] }], W1, { target := .fn (.func gf) lb, args := #[.func (.yield (w.heap.size + 1)) #[] #[]] }, W1, gf, #[.func (.yield (w.heap.size + 1)) #[] #[]] ++ lb, W1, ?_, ?_, ?_, ?_, fun _ => h1, ?_⟩
  · rw [← hW1]; exact run_enterLoop_outer _ _ _ _ _
  · simp only [resolve, hg]
    simp [go_sem]
  · intro f' hf'
    simp [Target.leads] at hf'
    subst hf'
    exact hFg
  · simp [invoke, go_sem, eg]
  · let J : List Nat → World → Prop := fun s W => I s W ∧ W.heap[w.heap.size + 1]? = some (.loop (rc .ready none)) ∧ W.heap[w.heap.size]? = some (.deferred (some []))
    have hJ : OwnFrom W1.heap.size J := by
      intro s A B row hs hg' hr
      have hne : ∀ k, k < w.heap.size + 2 → some k ≠ row := fun k hk e => by have := (hr k e.symm).1; omega
      refine ⟨hI s A B row hs.1 hg' (fun r e => ⟨by have := (hr r e).1; omega, (hr r e).2⟩), ?_, ?_⟩
      · exact (hg'.block _ (Array.getElem?_eq_some_iff.1 hs.2.1).1 (hne _ (by omega))).trans hs.2.1
      · exact (hg'.block _ (Array.getElem?_eq_some_iff.1 hs.2.2).1 (hne _ (by omega))).trans hs.2.2
    refine (hiter (w.heap.size + 1) J W1 hb1 hJ ?_ ⟨hI1, hL1, hD1⟩).mono ?_
    · rintro pre x W ⟨hi, hl, hd⟩ hpre
      have hlt : w.heap.size + 1 < W.heap.size := (Array.getElem?_eq_some_iff.1 hl).1
      have hy := run_yield (P := P) (args := #[Value.int .i64 (x : Int)]) hl (by rw [hrc]; exact hps.symm)
      rw [hrc] at hy
      refine ⟨fn, _, assign, body, hy, roundIn_of_wpIn hfn (hassign _ x W _ ⟨_, run_beginRound hl (by rw [hrc]), ?_⟩)⟩
      obtain ⟨W2, hW2⟩ : ∃ W2, W.putObj (w.heap.size + 1) (.loop { rc .ready none with state := .busy }) = W2 := ⟨_, rfl⟩
      have hl2 : W2.heap[w.heap.size + 1]? = some (.loop { rc .ready none with state := .busy }) := by rw [← hW2]; exact World.putObj_heap_same hlt
      have hd2 : W2.heap[w.heap.size]? = some (.deferred (some [])) := by rw [← hW2]; exact (World.putObj_heap_other (by omega)).trans hd
      have hk2 : Kp W W2 := by rw [← hW2]; exact hKl _ _ _ _ hl (by omega)
      have hi2 : I pre W2 := by rw [← hW2]; exact hI.putObj _ hi (by omega) hl rfl
      have hgoal := hbody (w.heap.size + 1) pre x W2 hi2 hpre
      rw [← hW2] at hgoal
      refine wpIn_mono hgoal ?_
      rw [hW2]
      rintro e a3 W3 hp
      cases e with
      | normal =>
        obtain ⟨hk3, hkp3, hi3⟩ := hp
        have hl3 := hk3.same _ _ (by omega) hl2 rfl
        have hd3 := hk3.same _ _ (Nat.le_refl _) hd2 rfl
        have hend := run_endRound (P := P) none hl3
        refine ⟨_, _, hend, rfl, ⟨hI.putObj _ hi3 (by omega) hl3 rfl, ?_, ?_⟩, hKt (hKt hk2 hkp3) (hKl _ _ _ _ hl3 (by omega))⟩
        · exact World.putObj_heap_same (Array.getElem?_eq_some_iff.1 hl3).1
        · exact (World.putObj_heap_other (by omega)).trans hd3
      | ret => exact hp.elim
      | exit id => exact hp.elim
      | goto t => exact hp.elim
      | panic ch => exact hp.elim
      | outgrown => exact hp.elim
    · rintro e W2 ⟨⟨v, rfl⟩, hi, hl, hd⟩
      refine ⟨none, _, run_endLoop (P := P) hl (by rw [hrc]; simp), ?_⟩
      exact hdone _ _ (Nat.le_refl _) (hI.putObj _ hi (by omega) hl rfl) ((World.putObj_heap_other (by omega)).trans hd)
end
end Go.Proofs.YtdolijagffcfgaaGreatDoor

namespace Go.Proofs.YtdolijagffcfgaaGreatDoor
open Go Go.RowKit Go.Mn

/-- blocks that the loop's body leaves alone, wherever they lie: no cells of numbers, no record of a loop -/
def tame : Obj → Bool
  | .cells _ t _ => decide (t ≠ 3)
  | .loop _ => false
  | _ => true

/-- what a round keeps: all below n₁, and whatever is tame but the box bo and the map ba -/
structure Kq (n₁ bo ba : Nat) (W W' : World) : Prop where
  os : W'.os = W.os
  tape : W'.tape = W.tape
  output : W'.output = W.output
  size : W.heap.size ≤ W'.heap.size
  keep : ∀ k ob, W.heap[k]? = some ob → (k < n₁ ∨ (k ≠ bo ∧ k ≠ ba ∧ tame ob = true)) → W'.heap[k]? = some ob

theorem Kq.refl (n₁ bo ba : Nat) (W : World) : Kq n₁ bo ba W W := ⟨rfl, rfl, rfl, Nat.le_refl _, fun _ _ h _ => h⟩
theorem Kq.trans {n₁ bo ba : Nat} {A B C : World} (h : Kq n₁ bo ba A B) (k : Kq n₁ bo ba B C) : Kq n₁ bo ba A C :=
  ⟨k.os.trans h.os, k.tape.trans h.tape, k.output.trans h.output, Nat.le_trans h.size k.size, fun i ob hi hc => k.keep i ob (h.keep i ob hi hc) hc⟩
/-- a step that turns one block at most -/
theorem Kq.grown {n₁ bo ba : Nat} {W W' : World} {row : Option Nat} (hg : W.grownBy W' row) (hr : ∀ r, row = some r → n₁ ≤ r ∧ (r = bo ∨ r = ba ∨ ∃ ob, W.heap[r]? = some ob ∧ tame ob = false)) : Kq n₁ bo ba W W' :=
  ⟨hg.os, hg.tape, hg.output, hg.size, fun k ob hk hc => by
    refine (hg.block k (Array.getElem?_eq_some_iff.1 hk).1 (fun e => ?_)).trans hk
    obtain ⟨h1, h2⟩ := hr k e.symm
    rcases hc with hc | ⟨c1, c2, c3⟩
    · omega
    · rcases h2 with h2 | h2 | ⟨ob', h3, h4⟩
      · exact c1 h2
      · exact c2 h2
      · rw [hk] at h3
        cases h3
        rw [c3] at h4
        cases h4⟩
theorem Kq.below {n₁ bo ba : Nat} {W W' : World} (h : Kq n₁ bo ba W W') : ∀ k, k < n₁ → k < W.heap.size → W'.heap[k]? = W.heap[k]? := fun k hk hs => by
  have he : W.heap[k]? = some W.heap[k] := Array.getElem?_eq_getElem hs
  rw [he]
  exact h.keep k _ he (.inl hk)
theorem Kq.belowB {n₁ bo ba : Nat} {W W' : World} (h : Kq n₁ bo ba W W') (hn : n₁ ≤ W.heap.size) : Below n₁ W W' :=
  ⟨h.os, h.tape, h.output, h.size, fun k hk => h.below k hk (by omega)⟩

/-- the iterator's closure 'visit' -/
def visF (by_ bs bh bv : Nat) : Value := .func (.func 59) #[] #[.pointer (some ⟨bs, 0, none⟩), .pointer (some ⟨by_, 0, none⟩), .pointer (some ⟨bh, 0, none⟩), .pointer (some ⟨bv, 0, none⟩)]

/-- what the iterator has in memory: the boxes of yield, seen, visit and the heap; the map of what was seen; below n₁ all is as it was in W₀ -/
structure It (W₀ : World) (n₁ : Nat) (hs : Value) (l by_ bs bm bv bh : Nat) (o : List Nat) (W : World) : Prop where
  y : W.heap[by_]? = some (.cells #[.func (.yield l) #[] #[]] 136)
  s : W.heap[bs]? = some (.cells #[.map (some bm)] 137)
  v : W.heap[bv]? = some (.cells #[visF by_ bs bh bv] 135)
  b : W.heap[bh]? = some (.cells #[hs] 22)
  bel : Below n₁ W₀ W
  m : MapAt W bm (seenD o)
  n : n₁ ≤ W.heap.size

theorem cell_of_heap {W : World} {b : Nat} {v : Value} {t : TypeId} (h : W.heap[b]? = some (.cells #[v] t)) : W.cell? ⟨b, 0, none⟩ = some v := by
  unfold World.cell?
  rw [h]
  rfl
section
variable {W₀ : World} {n₁ : Nat} {hs : Value} {l by_ bs bm bv bh : Nat} {o : List Nat} {W W' : World}
theorem It.alloc (i : It W₀ n₁ hs l by_ bs bm bv bh o W) (ob : Obj) : It W₀ n₁ hs l by_ bs bm bv bh o (W.alloc ob) := by
  have hk : ∀ {k : Nat} {x : Obj}, W.heap[k]? = some x → (W.alloc ob).heap[k]? = some x := fun hx => (Below.heap_alloc W ob _ (Array.getElem?_eq_some_iff.1 hx).1).trans hx
  exact ⟨hk i.y, hk i.s, hk i.v, hk i.b, i.bel.alloc i.n _, i.m.kept (Below.heap_alloc W ob _ i.m.lt), Nat.le_trans i.n (by simp)⟩
theorem It.kq {bo ba : Nat} (i : It W₀ n₁ hs l by_ bs bm bv bh o W) (hk : Kq n₁ bo ba W W') (hy : by_ ≠ bo ∧ by_ ≠ ba) (hs' : bs ≠ bo ∧ bs ≠ ba) (hv : bv ≠ bo ∧ bv ≠ ba) (hb : bh ≠ bo ∧ bh ≠ ba) (hm : bm ≠ bo ∧ bm ≠ ba) : It W₀ n₁ hs l by_ bs bm bv bh o W' := by
  refine ⟨hk.keep _ _ i.y (.inr ⟨hy.1, hy.2, rfl⟩), hk.keep _ _ i.s (.inr ⟨hs'.1, hs'.2, rfl⟩), hk.keep _ _ i.v (.inr ⟨hv.1, hv.2, rfl⟩), hk.keep _ _ i.b (.inr ⟨hb.1, hb.2, rfl⟩),
    i.bel.trans (hk.belowB i.n), ?_, Nat.le_trans i.n hk.size⟩
  obtain ⟨es, clock, h1, h2⟩ := i.m
  exact ⟨es, clock, hk.keep _ _ h1 (.inr ⟨hm.1, hm.2, rfl⟩), h2⟩
/-- the map is turned -/
theorem It.put (i : It W₀ n₁ hs l by_ bs bm bv bh o W) {ob : Obj} {o' : List Nat} (hm : MapAt (W.putObj bm ob) bm (seenD o')) (hn : n₁ ≤ bm) (hy : by_ ≠ bm) (hs' : bs ≠ bm) (hv : bv ≠ bm) (hb : bh ≠ bm) : It W₀ n₁ hs l by_ bs bm bv bh o' (W.putObj bm ob) := by
  refine ⟨(World.putObj_heap_other hy).trans i.y, (World.putObj_heap_other hs').trans i.s, (World.putObj_heap_other hv).trans i.v, (World.putObj_heap_other hb).trans i.b, i.bel.grown (grownBy_putObj' W bm ob) i.n (fun k e => by cases e; exact hn), hm, by rw [World.putObj_size]; exact i.n⟩
end

/-- no depth is asked -/
theorem RoundIn.any {F : Fence} (hd : F.depth = none) {m m' : Nat} {P : Program} {l : Nat} {f : FuncId} {tmps : Array Value} {assign body : Code} {w : World} {R : Ending → World → Prop}
    (h : RoundIn F m P l f tmps assign body w R) : RoundIn F m' P l f tmps assign body w R := ⟨h.1, fun c cs _ => h.2 c cs fun d hh => by rw [hd] at hh; cases hh⟩
theorem YieldAt.any {F : Fence} (hd : F.depth = none) {m m' : Nat} {P : Program} {l : Nat} {args : Array Value} {W : World} {R : Ending → World → Prop} (h : YieldAt F m P l args W R) : YieldAt F m' P l args W R := by
  obtain ⟨fn, tmps, assign, body, hy, hR⟩ := h
  exact ⟨fn, tmps, assign, body, hy, RoundIn.any hd hR⟩
end Go.Proofs.YtdolijagffcfgaaGreatDoor
