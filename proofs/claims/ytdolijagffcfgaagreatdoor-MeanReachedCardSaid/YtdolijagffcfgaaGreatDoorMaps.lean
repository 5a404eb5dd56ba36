/-
  Maps with numbers for keys: looking up, and putting in what is not there.
-/
import Derived.RangeFuncWrites
import Derived.KernelRfl
import Derived.Test.YtdolijagffcfgaaGreatDoorProg
namespace Go.Proofs.YtdolijagffcfgaaGreatDoor
open Go Go.RowKit

/-- what lies in a map, in the order in which it was put in -/
def MapAt (w : World) (b : Nat) (d : List (Int × Value)) : Prop :=
  ∃ es clock, w.heap[b]? = some (.map es clock) ∧ es.toList.map (fun e => (e.key, e.val)) = d.map fun p => (Value.int .i64 p.1, p.2)

def look (d : List (Int × Value)) (k : Int) : Option Value := (d.find? fun p => p.1 == k).map (·.2)

theorem find_in (k : Int) : ∀ (es : List MapEntry) (d : List (Int × Value)) (i : Nat), es.map (fun e => (e.key, e.val)) = d.map (fun p => (Value.int .i64 p.1, p.2)) →
    (∃ j v, look d k = some v ∧ Instr.findNow (.int .i64) (.int .i64 k) es i = some (some (j, v))) ∨ (look d k = none ∧ Instr.findNow (.int .i64) (.int .i64 k) es i = some none) := by
  intro es
  induction es with
  | nil =>
    intro d i h
    cases d with
    | nil => exact .inr ⟨rfl, rfl⟩
    | cons p d => simp at h
  | cons e es ih =>
    intro d i h
    cases d with
    | nil => simp at h
    | cons p d =>
      rw [List.map_cons, List.map_cons] at h
      obtain ⟨h1, h2⟩ := List.cons.inj h
      obtain ⟨hk, hv⟩ := Prod.mk.inj h1
      by_cases he : p.1 = k
      · refine .inl ⟨i, p.2, ?_, ?_⟩
        · unfold look
          simp [he]
        · simp only [Instr.findNow, hk, Instr.sameNow, if_true, hv]
          rw [show (k == p.1) = true from by simp [he]]
      · have hf : look (p :: d) k = look d k := by
          unfold look
          rw [List.find?_cons_of_neg (by simpa using he)]
        have hs : Instr.findNow (.int .i64) (.int .i64 k) (e :: es) i = Instr.findNow (.int .i64) (.int .i64 k) es (i + 1) := by
          simp only [Instr.findNow, hk, Instr.sameNow, if_true]
          rw [show (k == p.1) = false from by simp; exact fun e => he e.symm]
        rw [hf, hs]
        exact ih d (i + 1) h2

theorem check3 (b : Bool) (v : Value) (w : World) : (Instr.checkKey b 10000 3 v).run Tryz.prog w = .ok () w := by
  rw [show (10000 : Nat) = 9999 + 1 from rfl, Instr.checkKey, Sem.run_bind, Go.run_underlying Tryz.underlying3]
  rfl

theorem map_lookup {t e : TypeId} (ht : Tryz.prog.underlying t = some (.map 3 e)) {w : World} {b : Nat} {d : List (Int × Value)} (hm : MapAt w b d) (k : Int) {z v : Value} (hz : (zeroValue e).run Tryz.prog w = .ok z w) (hv : (look d k).getD z = v) :
    (Instr.lookup t (.map (some b)) (.int .i64 k) false).run Tryz.prog w = .ok v w := by
  obtain ⟨es, clock, hg, he⟩ := hm
  have hgo : (getObj b).run Tryz.prog w = .ok (.map es clock) w := by simp [getObj, Sem.run, hg]
  subst hv
  rcases find_in k es.toList d 0 he with ⟨j, v, h1, h2⟩ | ⟨h1, h2⟩
  · have hk : (Instr.findKey 3 (.int .i64 k) es.toList).run Tryz.prog w = .ok (some (j, v)) w := by
      simp only [Instr.findKey, Sem.run_bind, Go.run_underlying Tryz.underlying3, Result.andThen_ok, h2, Sem.run_pure]
    simp only [Instr.lookup, Sem.run_bind, Go.run_underlying ht, Result.andThen_ok, hgo, check3, hk, Sem.run_pure, h1, Option.getD_some, Bool.false_eq_true, if_false]
  · have hk : (Instr.findKey 3 (.int .i64 k) es.toList).run Tryz.prog w = .ok none w := by
      simp only [Instr.findKey, Sem.run_bind, Go.run_underlying Tryz.underlying3, Result.andThen_ok, h2, Sem.run_pure]
    simp only [Instr.lookup, Sem.run_bind, Go.run_underlying ht, Result.andThen_ok, hgo, check3, hk, Sem.run_pure, h1, Option.getD_none, Bool.false_eq_true, if_false, hz]

theorem map_put {t e : TypeId} (ht : Tryz.prog.underlying t = some (.map 3 e)) {w : World} {b : Nat} {d : List (Int × Value)} (hm : MapAt w b d) (k : Int) (v : Value) (hk : look d k = none) :
    ∃ o, (Instr.mapUpdate t (.map (some b)) (.int .i64 k) v).run Tryz.prog w = .ok () (w.putObj b o) ∧ MapAt (w.putObj b o) b (d ++ [(k, v)]) ∧ o.isCells = false := by
  obtain ⟨es, clock, hg, he⟩ := hm
  have hgo : (getObj b).run Tryz.prog w = .ok (.map es clock) w := by simp [getObj, Sem.run, hg]
  have hlt := (Array.getElem?_eq_some_iff.1 hg).1
  rcases find_in k es.toList d 0 he with ⟨j, u, h1, h2⟩ | ⟨h1, h2⟩
  · rw [hk] at h1; cases h1
  · have hf : (Instr.findKey 3 (.int .i64 k) es.toList).run Tryz.prog w = .ok none w := by
      simp only [Instr.findKey, Sem.run_bind, Go.run_underlying Tryz.underlying3, Result.andThen_ok, h2, Sem.run_pure]
    refine ⟨.map (es.push { key := .int .i64 k, val := v, born := clock }) (clock + 1), ?_, ?_, rfl⟩
    · simp only [Instr.mapUpdate, Sem.run_bind, Go.run_underlying ht, Result.andThen_ok, hgo, check3, hf]
      simp [setObj, Sem.run, World.putObj, hg]
    · refine ⟨_, _, World.putObj_heap_same hlt, ?_⟩
      simp [he]

theorem MapAt.kept {w w' : World} {b : Nat} {d : List (Int × Value)} (h : MapAt w b d) (hb : w'.heap[b]? = w.heap[b]?) : MapAt w' b d := by
  obtain ⟨es, clock, h1, h2⟩ := h
  exact ⟨es, clock, hb.trans h1, h2⟩
theorem MapAt.lt {w : World} {b : Nat} {d : List (Int × Value)} (h : MapAt w b d) : b < w.heap.size := by
  obtain ⟨es, clock, h1, h2⟩ := h
  exact (Array.getElem?_eq_some_iff.1 h1).1

/-- the set of objects that were seen -/
def seenD (o : List Nat) : List (Int × Value) := o.map fun i : Nat => ((i : Int), Value.bool true)
theorem look_seen (o : List Nat) (n : Nat) : look (seenD o) (n : Int) = if n ∈ o then some (.bool true) else none := by
  unfold look seenD
  induction o with
  | nil => rfl
  | cons a o ih =>
    rw [List.map_cons]
    by_cases h : a = n
    · subst h
      rw [List.find?_cons_of_pos (by simp)]
      simp
    · rw [List.find?_cons_of_neg (by simpa using fun e => h (Int.ofNat.inj e)), ih]
      have : (n ∈ a :: o) = (n ∈ o) := by
        rw [List.mem_cons]
        exact propext ⟨fun hh => hh.resolve_left (fun e => h e.symm), .inr⟩
      simp only [this]

/-- the place of each object in the order -/
def atD (o : List Nat) : List (Int × Value) := o.zipIdx.map fun p => ((p.1 : Int), Value.int .i64 (p.2 : Int))
theorem atD_snoc (o : List Nat) (i : Nat) : atD (o ++ [i]) = atD o ++ [((i : Int), Value.int .i64 (o.length : Int))] := by
  unfold atD
  rw [List.zipIdx_append, List.map_append]
  simp
theorem seenD_snoc (o : List Nat) (i : Nat) : seenD (o ++ [i]) = seenD o ++ [((i : Int), Value.bool true)] := by
  unfold seenD
  rw [List.map_append]
  rfl
theorem look_at_from (o : List Nat) (n : Nat) : ∀ k : Nat, look ((o.zipIdx k).map fun p => ((p.1 : Int), Value.int .i64 (p.2 : Int))) (n : Int) = if n ∈ o then some (.int .i64 ((k + o.idxOf n : Nat) : Int)) else none := by
  unfold look
  induction o with
  | nil => intro k; rfl
  | cons a o ih =>
    intro k
    rw [List.zipIdx_cons, List.map_cons]
    by_cases h : a = n
    · subst h
      rw [List.find?_cons_of_pos (by simp)]
      simp
    · rw [List.find?_cons_of_neg (by simpa using fun e => h (Int.ofNat.inj e)), ih]
      have : (n ∈ a :: o) = (n ∈ o) := by
        rw [List.mem_cons]
        exact propext ⟨fun hh => hh.resolve_left (fun e => h e.symm), .inr⟩
      simp only [this]
      have hi : (a :: o).idxOf n = o.idxOf n + 1 := by rw [List.idxOf_cons, show (a == n) = false from by simpa using h]; rfl
      rw [hi]
      split
      · congr 3; omega
      · rfl
theorem look_at (o : List Nat) (n : Nat) (h : n ∈ o) : look (atD o) (n : Int) = some (.int .i64 (o.idxOf n : Int)) := by
  have := look_at_from o n 0
  rw [if_pos h] at this
  unfold atD
  rw [this]
  simp
theorem look_at_none (o : List Nat) (n : Nat) (h : ¬ n ∈ o) : look (atD o) (n : Int) = none := by
  have := look_at_from o n 0
  rw [if_neg h] at this
  exact this
end Go.Proofs.YtdolijagffcfgaaGreatDoor
