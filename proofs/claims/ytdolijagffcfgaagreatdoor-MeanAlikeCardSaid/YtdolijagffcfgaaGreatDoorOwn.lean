/-
  Rows of values and of objects that a call has made: how they read.
-/
import Derived.Laws.AppendOwn
import Derived.RangeFuncBox
import Derived.Test.YtdolijagffcfgaaGreatDoorMem
import Derived.Test.YtdolijagffcfgaaGreatDoorProg
namespace Go.Proofs.YtdolijagffcfgaaGreatDoor
open Go Go.RowKit Go.Mn

theorem okO_len {x : Ob} (h : okO x = true) : x.2.2.length ≤ 5000 := by
  unfold okO at h
  by_cases h1 : x.1 = 1
  · rw [if_pos h1] at h
    simp only [Bool.and_eq_true, decide_eq_true_eq] at h
    omega
  · rw [if_neg h1] at h
    by_cases h2 : x.1 = 2
    · rw [if_pos h2] at h
      simp only [Bool.and_eq_true, decide_eq_true_eq] at h
      omega
    · rw [if_neg h2] at h
      by_cases h3 : x.1 = 3
      · rw [if_pos h3] at h
        simp only [Bool.and_eq_true, decide_eq_true_eq] at h
        omega
      · rw [if_neg h3] at h
        cases h

/-- the cells of a list of values -/
def flat (l : List Vl) : List Value := l.flatMap fun u => [.int .u8 u.1, .int .i64 u.2]
theorem flat_len (l : List Vl) : (flat l).length = l.length * 2 := by
  unfold flat
  induction l with
  | nil => rfl
  | cons a l ih => rw [List.flatMap_cons, List.length_append, ih]; simp; omega
theorem flat_snoc (l : List Vl) (u : Vl) : flat (l ++ [u]) = flat l ++ [.int .u8 u.1, .int .i64 u.2] := by
  unfold flat
  rw [List.flatMap_append]
  rfl
theorem flat_get (l : List Vl) : ∀ (i : Nat) (u : Vl), l[i]? = some u → (flat l)[i * 2]? = some (.int .u8 u.1) ∧ (flat l)[i * 2 + 1]? = some (.int .i64 u.2) := by
  unfold flat
  induction l with
  | nil => intro i u h; simp at h
  | cons a l ih =>
    intro i u h
    rw [List.flatMap_cons]
    cases i with
    | zero => simp at h; subst h; exact ⟨rfl, rfl⟩
    | succ i =>
      have := ih i u (by simpa using h)
      rw [show (i + 1) * 2 = i * 2 + 1 + 1 from by omega]
      exact this

theorem owned_vals {w : World} {base : Nat} {v : Value} {l : List Vl} (h : w.ownsRow base 49 2 v l.length (flat l)) : ValsAt w.heap.size w v l := by
  rcases h.2 with ⟨rfl, h0⟩ | ⟨g, cap, cur, rfl, hb, hg, h1, h2, h3, h4⟩
  · have : l = [] := List.length_eq_zero_iff.1 h0
    subst this
    exact ValsAt.nil _ _
  · refine ⟨some ⟨g, 0, none⟩, cap, rfl, h1, h2, fun i u hu => ⟨g, 0, rfl, (Array.getElem?_eq_some_iff.1 hg).1, ?_, ?_⟩⟩
    all_goals
      obtain ⟨f1, f2⟩ := flat_get l i u hu
      rw [← h4] at f1 f2
      have hi : i < l.length := (List.getElem?_eq_some_iff.1 hu).1
      unfold World.cell?
      simp only [hg]
      rw [List.getElem?_take_of_lt (by omega)] at f1 f2
      first
        | (simpa using f1)
        | (simpa using f2)

theorem row_ge {w : World} {base size n : Nat} {e : TypeId} {v : Value} {xs : List Value} (h : w.ownsRow base e size v n xs) : ∀ g, v.ownBlock = some g → base ≤ g := by
  intro g hg
  rcases h.2 with ⟨rfl, _⟩ | ⟨g', cap, cur, rfl, hb, _⟩
  · simp [Value.ownBlock] at hg
  · have : g' = g := by simpa [Value.ownBlock] using hg
    subst this
    exact hb

theorem row_wild {w : World} {base size n : Nat} {v : Value} {xs : List Value} (h : w.ownsRow base 3 size v n xs) : ∀ g, v.ownBlock = some g → ∃ ob, w.heap[g]? = some ob ∧ (∃ c f, ob = .cells c 3 f) := by
  intro g hg
  rcases h.2 with ⟨rfl, _⟩ | ⟨g', cap, cur, rfl, hb, hh, _⟩
  · simp [Value.ownBlock] at hg
  · have : g' = g := by simpa [Value.ownBlock] using hg
    subst this
    exact ⟨_, hh, _, _, rfl⟩
theorem row_slice {w : World} {base size n : Nat} {e : TypeId} {v : Value} {xs : List Value} (h : w.ownsRow base e size v n xs) : ∃ p c, v = .slice p n c := by
  rcases h.2 with ⟨rfl, rfl⟩ | ⟨g', cap, cur, rfl, _⟩
  · exact ⟨none, 0, rfl⟩
  · exact ⟨_, _, rfl⟩

theorem row_below {w w' : World} {base size n B : Nat} {e : TypeId} {v : Value} {xs : List Value} (h : w.ownsRow base e size v n xs) (hb : Below B w w') (hB : w.heap.size ≤ B) : w'.ownsRow base e size v n xs := by
  refine ⟨h.1, ?_⟩
  rcases h.2 with h0 | ⟨g, cap, cur, rfl, h1, hg, h2, h3, h4, h5⟩
  · exact .inl h0
  · exact .inr ⟨g, cap, cur, rfl, h1, (hb.block g (by have := (Array.getElem?_eq_some_iff.1 hg).1; omega)).trans hg, h2, h3, h4, h5⟩
/-- the cells of a row of numbers -/
theorem row_cell {w : World} {base n : Nat} {v : Value} {xs : List Value} (h : w.ownsRow base 3 1 v n xs) {i : Nat} {x : Value} (hx : xs[i]? = some x) : ∃ g c, v = .slice (some ⟨g, 0, none⟩) n c ∧ g < w.heap.size ∧ i < n ∧ w.cell? ⟨g, i, none⟩ = some x := by
  have hi := (List.getElem?_eq_some_iff.1 hx).1
  have hl := h.1
  rcases h.2 with ⟨rfl, h0⟩ | ⟨g, cap, cur, rfl, h1, hg, h2, h3, h4, h5⟩
  · omega
  · refine ⟨g, cap, rfl, (Array.getElem?_eq_some_iff.1 hg).1, by omega, ?_⟩
    rw [← h5, List.getElem?_take_of_lt (by omega)] at hx
    unfold World.cell?
    simp only [hg]
    simpa using hx

/-- the cells of a list of objects, whose values lie in some slices -/
def flatO (l : List (Int × Int × Value)) : List Value := l.flatMap fun x => [.int .u8 x.1, .int .i64 x.2.1, x.2.2]
theorem flatO_snoc (l : List (Int × Int × Value)) (u : Int × Int × Value) : flatO (l ++ [u]) = flatO l ++ [.int .u8 u.1, .int .i64 u.2.1, u.2.2] := by
  unfold flatO
  rw [List.flatMap_append]
  rfl
theorem flatO_get (l : List (Int × Int × Value)) : ∀ (i : Nat) (u : Int × Int × Value), l[i]? = some u → (flatO l)[i * 3]? = some (.int .u8 u.1) ∧ (flatO l)[i * 3 + 1]? = some (.int .i64 u.2.1) ∧ (flatO l)[i * 3 + 2]? = some u.2.2 := by
  unfold flatO
  induction l with
  | nil => intro i u h; simp at h
  | cons a l ih =>
    intro i u h
    rw [List.flatMap_cons]
    cases i with
    | zero => simp at h; subst h; exact ⟨rfl, rfl, rfl⟩
    | succ i =>
      have := ih i u (by simpa using h)
      rw [show (i + 1) * 3 = i * 3 + 1 + 1 + 1 from by omega]
      exact this

/-- objects in a row that the call has made: each object's values in a row of their own -/
def HeapOwn (w : World) (base : Nat) (v : Value) (os : Hp) : Prop :=
  ∃ l : List (Int × Int × Value), l.length = os.length ∧ w.ownsRow base 35 3 v os.length (flatO l) ∧ ∀ (i : Nat) (x : Ob), os[i]? = some x → ∃ u : Int × Int × Value, l[i]? = some u ∧ u.1 = x.1 ∧ u.2.1 = x.2.1 ∧ w.ownsRow base 49 2 u.2.2 x.2.2.length (flat x.2.2)

theorem HeapOwn.nil (w : World) (base : Nat) : HeapOwn w base (.slice none 0 0) [] := ⟨[], rfl, World.ownsRow_nil _ _ _ _, fun i x hx => by simp at hx⟩
theorem HeapOwn.below {w w' : World} {base : Nat} {v : Value} {os : Hp} (h : HeapOwn w base v os) (hb : Below w.heap.size w w') : HeapOwn w' base v os := by
  obtain ⟨l, hl, hr, hv⟩ := h
  refine ⟨l, hl, row_below hr hb (Nat.le_refl _), fun i x hx => ?_⟩
  obtain ⟨u, h1, h2, h3, h4⟩ := hv i x hx
  exact ⟨u, h1, h2, h3, row_below h4 hb (Nat.le_refl _)⟩

theorem row_base {w : World} {base base' size n : Nat} {e : TypeId} {v : Value} {xs : List Value} (h : w.ownsRow base e size v n xs) (hb : base' ≤ base) : w.ownsRow base' e size v n xs := by
  refine ⟨h.1, ?_⟩
  rcases h.2 with h0 | ⟨g, cap, cur, rfl, h1, hg⟩
  · exact .inl h0
  · exact .inr ⟨g, cap, cur, rfl, by omega, hg⟩

/-- rows of two types lie apart -/
theorem row_other {w w' : World} {b1 s1 n1 b2 s2 n2 : Nat} {e1 e2 : TypeId} {v1 v2 : Value} {x1 x2 : List Value} (h1 : w.ownsRow b1 e1 s1 v1 n1 x1) (h2 : w.ownsRow b2 e2 s2 v2 n2 x2) (he : e1 ≠ e2) (hg : w.grownBy w' v2.ownBlock) : w'.ownsRow b1 e1 s1 v1 n1 x1 := by
  refine h1.kept hg ?_
  rcases h1.2 with ⟨rfl, _⟩ | ⟨g, cap, cur, rfl, _, hg1, _⟩
  · exact .inl rfl
  · refine .inr fun e => ?_
    rcases h2.2 with ⟨rfl, _⟩ | ⟨g', cap', cur', rfl, _, hg2, _⟩
    · simp [Value.ownBlock] at e
    · have hgg : g = g' := by simpa [Value.ownBlock] using e
      subst hgg
      rw [hg1] at hg2
      cases hg2
      exact he rfl

/-- one object more -/
theorem HeapOwn.snoc {w2 w3 : World} {base : Nat} {v v3 : Value} {os : Hp} {l : List (Int × Int × Value)} {x : Ob} {sv : Value} {tmp : Obj} (hl : l.length = os.length) (hr : w2.ownsRow base 35 3 v os.length (flatO l))
    (hv : ∀ (i : Nat) (x : Ob), os[i]? = some x → ∃ u : Int × Int × Value, l[i]? = some u ∧ u.1 = x.1 ∧ u.2.1 = x.2.1 ∧ w2.ownsRow base 49 2 u.2.2 x.2.2.length (flat x.2.2)) (hsv : w2.ownsRow base 49 2 sv x.2.2.length (flat x.2.2))
    (hg : (w2.alloc tmp).grownBy w3 v.ownBlock) (hown : w3.ownsRow base 35 3 v3 (os.length + 1) (flatO l ++ [.int .u8 x.1, .int .i64 x.2.1, sv])) : HeapOwn w3 base v3 (os ++ [x]) := by
  refine ⟨l ++ [(x.1, x.2.1, sv)], by simp [hl], by rw [flatO_snoc, List.length_append]; exact hown, fun i y hy => ?_⟩
  by_cases hi : i < os.length
  · rw [List.getElem?_append_left hi] at hy
    obtain ⟨u, h1, h2, h3, h4⟩ := hv i y hy
    exact ⟨u, by rw [List.getElem?_append_left (by omega)]; exact h1, h2, h3, row_other (h4.alloc tmp) (hr.alloc tmp) (by decide) hg⟩
  · have hi' := (List.getElem?_eq_some_iff.1 hy).1
    simp at hi'
    obtain rfl : i = os.length := by omega
    rw [List.getElem?_append_right (Nat.le_refl _)] at hy
    simp at hy
    subst hy
    refine ⟨(x.1, x.2.1, sv), by rw [List.getElem?_append_right (by omega), hl]; simp, rfl, rfl, row_other (hsv.alloc tmp) (hr.alloc tmp) (by decide) hg⟩

theorem HeapOwn.putObj {w : World} {base D : Nat} {v : Value} {os : Hp} {o : Obj} (h : HeapOwn w base v os) (o' : Obj) (hD : w.heap[D]? = some o) (ho : o.isCells = false) : HeapOwn (w.putObj D o') base v os := by
  obtain ⟨l, hl, hr, hv⟩ := h
  refine ⟨l, hl, ownsRow_putObj hr o' hD ho, fun i x hx => ?_⟩
  obtain ⟨u, h1, h2, h3, h4⟩ := hv i x hx
  exact ⟨u, h1, h2, h3, ownsRow_putObj h4 o' hD ho⟩

theorem HeapOwn.at {w : World} {base : Nat} {v : Value} {os : Hp} (h : HeapOwn w base v os) : HeapAt w.heap.size w v os := by
  obtain ⟨l, hl, hr, hv⟩ := h
  rcases hr.2 with ⟨rfl, h0⟩ | ⟨g, cap, cur, rfl, hb, hg, h1, h2, h3, h4⟩
  · have : os = [] := List.length_eq_zero_iff.1 h0
    subst this
    exact HeapAt.nil _ _
  · refine ⟨some ⟨g, 0, none⟩, cap, rfl, h1, h2, fun i x hx => ?_⟩
    obtain ⟨u, hu, e1, e2, e3⟩ := hv i x hx
    have hi : i < os.length := (List.getElem?_eq_some_iff.1 hx).1
    obtain ⟨f1, f2, f3⟩ := flatO_get l i u hu
    rw [← h4] at f1 f2 f3
    rw [List.getElem?_take_of_lt (by omega)] at f1 f2 f3
    refine ⟨g, 0, u.2.2, rfl, (Array.getElem?_eq_some_iff.1 hg).1, ?_, ?_, ?_, owned_vals e3⟩
    · unfold World.cell?
      simp only [hg]
      rw [← e1]
      simpa using f1
    · unfold World.cell?
      simp only [hg]
      rw [← e2]
      simpa using f2
    · unfold World.cell?
      simp only [hg]
      simpa using f3
end Go.Proofs.YtdolijagffcfgaaGreatDoor
