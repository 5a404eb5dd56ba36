/-
  The four arguments opened: what is read as a heap of objects or as a list of values lies so in memory; and what was read reads the same behind a call that leaves the old blocks as they were.
-/
import Derived.Test.YtdolijagffcfgaaGreatDoorMem
import Derived.Test.YtdolijagffcfgaaGreatDoorRows
import Derived.Test.YtdolijagffcfgaaGreatDoorFactA
import Derived.Deep.Slices
import Derived.Deep.Fields
import Derived.ChangeSame
import Derived.ProofKit
import Derived.ReadAgain
namespace Go.Proofs.YtdolijagffcfgaaGreatDoor
open Go Go.ChangeShapes Go.WideShapes Go.Deep Go.RowKit Go.Mn
set_option maxRecDepth 20000

section
variable {H : Type} {enc : TypeId × Value → H} {w w' : World} {base : Nat} {spare : Nat → Bool} {held : Bool}

theorem cell_lt {a : Addr} {v : Value} (h : w.cell? a = some v) : a.block < w.heap.size ∧ a.spot = none := by
  have h1 := World.cell?_spot h
  unfold World.cell? at h
  cases hb : w.heap[a.block]? with
  | none => rw [hb] at h; cases h
  | some o => exact ⟨(Array.getElem?_eq_some_iff.1 hb).1, h1⟩

theorem add_mk (b o n : Nat) : (⟨b, o, none⟩ : Addr).add n = ⟨b, o + n, none⟩ := by
  unfold Addr.add
  split
  · rename_i h; subst h; rfl
  · rfl

theorem cells2 : Tryz.prog.cellsOf 49 = 2 := by kernel_rfl
theorem cells3 : Tryz.prog.cellsOf 35 = 3 := by kernel_rfl
theorem cellsU : Tryz.prog.cellsOf 5 = 1 := by kernel_rfl
theorem cellsI : Tryz.prog.cellsOf 3 = 1 := by kernel_rfl
theorem cellsS : Tryz.prog.cellsOf 23 = 1 := by kernel_rfl

/-- one value -/
theorem open_val {fuel : Nat} {a : Addr} {x : DataW H × List MemPlace} {cs : List Value} (hc : w.cells? base a 2 = some cs) (h : DataW.trod enc Tryz.prog w base spare held fuel 49 cs = some x) :
    ∃ v : Vl, w.cell? a = some (.int .u8 v.1) ∧ w.cell? (a.add 1) = some (.int .i64 v.2) := by
  obtain ⟨_, hlen, hcell⟩ := World.cells?_some hc
  obtain ⟨xs, n, _, _, _, hl, hf⟩ := DataW.trod_struct Tryz.underlying49 h
  match cs, hlen with
  | [c0, c1], _ =>
    match xs, hl with
    | [y0, y1], _ =>
      have g0 : DataW.trod enc Tryz.prog w base spare held n 5 [c0] = some y0 := by
        have f := hf 0 _ rfl
        change DataW.trod enc Tryz.prog w base spare held n 5 (List.take (Tryz.prog.cellsOf 5) (List.drop 0 [c0, c1])) = some y0 at f
        rw [cellsU] at f
        exact f
      have g1 : DataW.trod enc Tryz.prog w base spare held n 3 [c1] = some y1 := by
        have f := hf 1 _ rfl
        change DataW.trod enc Tryz.prog w base spare held n 3 (List.take (Tryz.prog.cellsOf 3) (List.drop 1 [c0, c1])) = some y1 at f
        rw [cellsI] at f
        exact f
      obtain ⟨k, hk, _⟩ := DataW.trod_int Tryz.underlying5 g0
      obtain ⟨m, hm, _⟩ := DataW.trod_int Tryz.underlying3 g1
      refine ⟨(k, m), ?_, ?_⟩
      · have := hcell 0 (by decide)
        simp only [List.cons.injEq, and_true] at hk
        rw [hk] at this
        simpa [Addr.add] using this
      · have := hcell 1 (by decide)
        simp only [List.cons.injEq, and_true] at hm
        rw [hm] at this
        simpa using this

/-- a list of as many things as there are numbers below n -/
theorem exists_list {α : Type} {p : Nat → α → Prop} : ∀ (n : Nat), (∀ i, i < n → ∃ v, p i v) → ∃ l : List α, l.length = n ∧ ∀ i v, l[i]? = some v → p i v
  | 0, _ => ⟨[], rfl, fun i v h => by simp at h⟩
  | n + 1, h => by
    obtain ⟨l, h1, h2⟩ := exists_list n fun i hi => h i (Nat.lt_succ_of_lt hi)
    obtain ⟨v, hv⟩ := h n (Nat.lt_succ_self n)
    refine ⟨l ++ [v], by simp [h1], fun i u hu => ?_⟩
    rcases Nat.lt_or_ge i n with hi | hi
    · rw [List.getElem?_append_left (by omega)] at hu
      exact h2 i u hu
    · rw [List.getElem?_append_right (by omega)] at hu
      have h0 : i - l.length = 0 := by
        rcases Nat.eq_zero_or_pos (i - l.length) with h0 | h0
        · exact h0
        · rw [List.getElem?_eq_none (by simp; omega)] at hu
          cases hu
      rw [h0] at hu
      simp only [List.getElem?_cons_zero, Option.some.injEq] at hu
      subst hu
      have : i = n := by omega
      subst this
      exact hv

/-- a list of values -/
theorem open_vals {fuel : Nat} {cs : List Value} {x : DataW H × List MemPlace} (h : DataW.trod enc Tryz.prog w base spare held fuel 23 cs = some x) :
    ∃ s vs, cs = [s] ∧ ValsAt w.heap.size w s vs := by
  rcases open_slice Tryz.underlying23 h with ⟨hcs, _⟩ | ⟨a, len, cap, m, n, D, Pl, hcs, _, hl, hm, hmm, _, hi⟩
  · exact ⟨_, [], hcs, ValsAt.nil _ _⟩
  · have hml : len ≤ m := by rw [hmm]; split <;> omega
    rw [cells2] at hi
    obtain ⟨vs, hv1, hv2⟩ := exists_list (α := Vl) (p := fun i v => w.cell? (a.add (i * 2)) = some (.int .u8 v.1) ∧ w.cell? ((a.add (i * 2)).add 1) = some (.int .i64 v.2)) len fun i hil => by
      obtain ⟨cs', hc, ht⟩ := hi i (by omega)
      exact open_val hc ht
    refine ⟨_, vs, hcs, some a, cap, by rw [hv1], by omega, hm, fun i v hiv => ?_⟩
    have hil : i < len := by rw [← hv1]; exact (List.getElem?_eq_some_iff.1 hiv).1
    obtain ⟨z, hz⟩ : ∃ z, vs[0]? = some z := ⟨_, List.getElem?_eq_getElem (by omega)⟩
    have h0 := (hv2 0 z hz).1
    rw [Nat.zero_mul] at h0
    have ha0 : a.add 0 = a := by unfold Addr.add; simp
    rw [ha0] at h0
    obtain ⟨g1, g2⟩ := cell_lt h0
    obtain ⟨b, o, sp⟩ := a
    simp only at g1 g2
    subst g2
    obtain ⟨k1, k2⟩ := hv2 i v hiv
    rw [add_mk] at k1 k2
    rw [add_mk] at k2
    exact ⟨b, o, rfl, g1, k1, k2⟩

/-- one object -/
theorem open_ob {fuel : Nat} {a : Addr} {x : DataW H × List MemPlace} {cs : List Value} (hc : w.cells? base a 3 = some cs) (h : DataW.trod enc Tryz.prog w base spare held fuel 35 cs = some x) :
    ∃ v : Ob, w.cell? a = some (.int .u8 v.1) ∧ w.cell? (a.add 1) = some (.int .i64 v.2.1) ∧ ∃ sv, w.cell? (a.add 2) = some sv ∧ ValsAt w.heap.size w sv v.2.2 := by
  obtain ⟨_, hlen, hcell⟩ := World.cells?_some hc
  obtain ⟨xs, n, _, _, _, hl, hf⟩ := DataW.trod_struct Tryz.underlying35 h
  match cs, hlen with
  | [c0, c1, c2], _ =>
    match xs, hl with
    | [y0, y1, y2], _ =>
      have g0 : DataW.trod enc Tryz.prog w base spare held n 5 [c0] = some y0 := by
        have f := hf 0 _ rfl
        change DataW.trod enc Tryz.prog w base spare held n 5 (List.take (Tryz.prog.cellsOf 5) (List.drop 0 [c0, c1, c2])) = some y0 at f
        rw [cellsU] at f
        exact f
      have g1 : DataW.trod enc Tryz.prog w base spare held n 3 [c1] = some y1 := by
        have f := hf 1 _ rfl
        change DataW.trod enc Tryz.prog w base spare held n 3 (List.take (Tryz.prog.cellsOf 3) (List.drop 1 [c0, c1, c2])) = some y1 at f
        rw [cellsI] at f
        exact f
      have g2 : DataW.trod enc Tryz.prog w base spare held n 23 [c2] = some y2 := by
        have f := hf 2 _ rfl
        change DataW.trod enc Tryz.prog w base spare held n 23 (List.take (Tryz.prog.cellsOf 23) (List.drop 2 [c0, c1, c2])) = some y2 at f
        rw [cellsS] at f
        exact f
      obtain ⟨k, hk, _⟩ := DataW.trod_int Tryz.underlying5 g0
      obtain ⟨m, hm, _⟩ := DataW.trod_int Tryz.underlying3 g1
      obtain ⟨s, vs, hs, hvs⟩ := open_vals g2
      simp only [List.cons.injEq, and_true] at hk hm hs
      refine ⟨(k, m, vs), ?_, ?_, s, ?_, hvs⟩
      · have := hcell 0 (by decide)
        rw [hk] at this
        simpa [Addr.add] using this
      · have := hcell 1 (by decide)
        rw [hm] at this
        simpa using this
      · have := hcell 2 (by decide)
        rw [hs] at this
        simpa using this

/-- a heap of objects -/
theorem open_heap {fuel : Nat} {cs : List Value} {x : DataW H × List MemPlace} (h : DataW.trod enc Tryz.prog w base spare held fuel 22 cs = some x) :
    ∃ s os, cs = [s] ∧ HeapAt w.heap.size w s os := by
  rcases open_slice Tryz.underlying22 h with ⟨hcs, _⟩ | ⟨a, len, cap, m, n, D, Pl, hcs, _, hl, hm, hmm, _, hi⟩
  · exact ⟨_, [], hcs, HeapAt.nil _ _⟩
  · have hml : len ≤ m := by rw [hmm]; split <;> omega
    rw [cells3] at hi
    obtain ⟨vs, hv1, hv2⟩ := exists_list (α := Ob) (p := fun i v => w.cell? (a.add (i * 3)) = some (.int .u8 v.1) ∧ w.cell? ((a.add (i * 3)).add 1) = some (.int .i64 v.2.1) ∧ ∃ sv, w.cell? ((a.add (i * 3)).add 2) = some sv ∧ ValsAt w.heap.size w sv v.2.2) len fun i hil => by
      obtain ⟨cs', hc, ht⟩ := hi i (by omega)
      exact open_ob hc ht
    refine ⟨_, vs, hcs, some a, cap, by rw [hv1], by omega, hm, fun i v hiv => ?_⟩
    have hil : i < len := by rw [← hv1]; exact (List.getElem?_eq_some_iff.1 hiv).1
    obtain ⟨z, hz⟩ : ∃ z, vs[0]? = some z := ⟨_, List.getElem?_eq_getElem (by omega)⟩
    have h0 := (hv2 0 z hz).1
    rw [Nat.zero_mul] at h0
    have ha0 : a.add 0 = a := by unfold Addr.add; simp
    rw [ha0] at h0
    obtain ⟨g1, g2⟩ := cell_lt h0
    obtain ⟨b, o, sp⟩ := a
    simp only at g1 g2
    subst g2
    obtain ⟨k1, k2, sv, k3, k4⟩ := hv2 i v hiv
    rw [add_mk] at k1 k2 k3
    rw [add_mk] at k2 k3
    exact ⟨b, o, sv, rfl, g1, k1, k2, k3, k4⟩

theorem Trod.vals {v : Value} {d : DataW H} {ps : List MemPlace} {r : Reach} {b0 : Nat} (hv : Value.okWide Tryz.prog w r b0 23 v) (h : DataW.Trod enc Tryz.prog w base spare held 23 v d ps) : ∃ vs, ValsAt w.heap.size w v vs := by
  obtain ⟨a, len, cap, rfl⟩ := okWide_slice Tryz.underlying23 hv
  obtain ⟨n, hn⟩ := h
  obtain ⟨s, vs, hs, hvs⟩ := open_vals hn
  simp only [Value.cells, List.cons.injEq, and_true] at hs
  rw [hs]
  exact ⟨vs, hvs⟩
theorem Trod.heap {v : Value} {d : DataW H} {ps : List MemPlace} {r : Reach} {b0 : Nat} (hv : Value.okWide Tryz.prog w r b0 22 v) (h : DataW.Trod enc Tryz.prog w base spare held 22 v d ps) : ∃ vs, HeapAt w.heap.size w v vs := by
  obtain ⟨a, len, cap, rfl⟩ := okWide_slice Tryz.underlying22 hv
  obtain ⟨n, hn⟩ := h
  obtain ⟨s, vs, hs, hvs⟩ := open_heap hn
  simp only [Value.cells, List.cons.injEq, and_true] at hs
  rw [hs]
  exact ⟨vs, hvs⟩

/-- arguments read again behind the call -/
theorem TrodAll.carry (hb : Below w.heap.size w w') : ∀ {ts : List TypeId} {vs : List Value} {ds : List (DataW H)} {ps : List MemPlace},
    DataW.TrodAll enc Tryz.prog w base spare held ts vs ds ps → (∀ p ∈ ps, p.block < w.heap.size) → DataW.TrodAll enc Tryz.prog w' base spare held ts vs ds ps
  | [], [], [], _, h, _ => h
  | _ :: _, _ :: _, _ :: _, _, ⟨p, q, ⟨n, h1⟩, h2, e⟩, hs => by
    refine ⟨p, q, ⟨n, DataW.trod_carry n _ _ _ h1 fun x hx => hb.same (hs x (by rw [e]; exact List.mem_append_left _ hx))⟩, TrodAll.carry hb h2 fun x hx => hs x (by rw [e]; exact List.mem_append_right _ hx), e⟩

theorem kids : Kids Tryz.prog (· < Tryz.prog.types.size) := kids_rows meanAlike.fact1 meanAlike.fact2
theorem full : ∀ t e, t < Tryz.prog.types.size → Tryz.prog.underlying t = some (.slice e) → 0 < Tryz.prog.cellsOf e := slices_full_of Tryz.prog (by kernel_rfl)
theorem lt22 : 22 < Tryz.prog.types.size := of_decide_eq_true (by kernel_rfl)
theorem lt23 : 23 < Tryz.prog.types.size := of_decide_eq_true (by kernel_rfl)
theorem lts : ∀ t ∈ [22, 23, 22, 23], t < Tryz.prog.types.size := by
  intro t ht
  simp only [List.mem_cons, List.not_mem_nil, or_false] at ht
  rcases ht with rfl | rfl | rfl | rfl
  · exact lt22
  · exact lt23
  · exact lt22
  · exact lt23
end
end Go.Proofs.YtdolijagffcfgaaGreatDoor
