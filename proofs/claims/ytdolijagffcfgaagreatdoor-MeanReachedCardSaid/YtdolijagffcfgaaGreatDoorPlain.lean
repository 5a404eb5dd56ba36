/-
  Plain law, no program: what is reached from values in a heap, and when it is reached again it is the same.
-/
namespace Go.Mn

/-- a value: its kind and its number; an object: its kind, its tag and its values -/
abbrev Vl := Int × Int
abbrev Ob := Int × Int × List Vl
abbrev Hp := List Ob

def isV (n : Nat) (v : Vl) : Bool :=
  if v.1 = 1 then decide (-1000000000 ≤ v.2) && decide (v.2 ≤ 1000000000)
  else if v.1 = 2 then decide (0 ≤ v.2) && decide (v.2 ≤ 1)
  else if v.1 = 3 then decide (v.2 = 0)
  else if v.1 = 4 then decide (0 ≤ v.2) && decide (v.2 ≤ (n : Int) - 1)
  else false

def okO (x : Ob) : Bool :=
  if x.1 = 1 then decide (x.2.1 = 0) && decide (x.2.2.length ≤ 200)
  else if x.1 = 2 then decide (x.2.1 = 0) && (decide (1 ≤ x.2.2.length) && decide (x.2.2.length ≤ 6))
  else if x.1 = 3 then (decide (0 ≤ x.2.1) && decide (x.2.1 ≤ 5)) && decide (x.2.2.length = 1)
  else false

def closedH (h : Hp) : Bool := decide (h.length ≤ 5000) && h.all fun x => okO x && x.2.2.all (isV h.length)
def asked (h : Hp) (v : List Vl) : Bool := closedH h && v.all (isV h.length)

def kids (h : Hp) (i : Nat) : List Vl := (h[i]?.getD (0, 0, [])).2.2

/-- the objects met from a value, in the order of the first visit; f: fuel -/
def visit (h : Hp) : Nat → List Nat → Vl → List Nat
  | 0, o, _ => o
  | f + 1, o, v => if v.1 = 4 ∧ ¬ v.2.toNat ∈ o then (kids h v.2.toNat).foldl (visit h f) (o ++ [v.2.toNat]) else o

def visits (h : Hp) (f : Nat) (o : List Nat) (l : List Vl) : List Nat := l.foldl (visit h f) o

def order (h : Hp) (v : List Vl) : List Nat := visits h (h.length + 1) [] v

def tr (F : List Nat) (v : Vl) : Vl := if v.1 = 4 then (4, (F.idxOf v.2.toNat : Int)) else v

def obj (h : Hp) (F : List Nat) (i : Nat) : Ob :=
  let x := h[i]?.getD (0, 0, [])
  (x.1, x.2.1, x.2.2.map (tr F))

def rHeap (h : Hp) (v : List Vl) : Hp := (order h v).map (obj h (order h v))
def rVals (h : Hp) (v : List Vl) : List Vl := v.map (tr (order h v))

/-- an order: no object twice, each one in the heap -/
structure Good (n : Nat) (o : List Nat) : Prop where
  nd : o.Nodup
  lt : ∀ i ∈ o, i < n

theorem nodup_le : ∀ (n : Nat) (o : List Nat), o.Nodup → (∀ i ∈ o, i < n) → o.length ≤ n := by
  intro n
  induction n with
  | zero =>
    intro o _ h
    cases o with
    | nil => simp
    | cons a l => exact absurd (h a (by simp)) (by omega)
  | succ n ih =>
    intro o hn h
    by_cases hm : n ∈ o
    · have h1 : (o.erase n).Nodup := hn.erase n
      have h2 : ∀ i ∈ o.erase n, i < n := by
        intro i hi
        have hi' := (List.Nodup.mem_erase_iff hn).1 hi
        have := h i hi'.2
        have := hi'.1
        omega
      have h3 := ih _ h1 h2
      rw [List.length_erase_of_mem hm] at h3
      omega
    · have h2 : ∀ i ∈ o, i < n := by
        intro i hi
        have := h i hi
        have : i ≠ n := fun e => hm (e ▸ hi)
        omega
      have := ih o hn h2
      omega

theorem Good.le {n : Nat} {o : List Nat} (h : Good n o) : o.length ≤ n := nodup_le n o h.nd h.lt
theorem Good.nil (n : Nat) : Good n [] := ⟨List.nodup_nil, by simp⟩
theorem Good.snoc {n i : Nat} {o : List Nat} (h : Good n o) (hi : i < n) (hm : ¬ i ∈ o) : Good n (o ++ [i]) := by
  constructor
  · rw [List.nodup_append]
    exact ⟨h.nd, by simp, by intro a ha b hb; simp at hb; subst hb; exact fun e => hm (e ▸ ha)⟩
  · intro k hk
    rcases List.mem_append.1 hk with hk | hk
    · exact h.lt k hk
    · simp at hk; omega
theorem Good.of_prefix {n : Nat} {o F : List Nat} (h : Good n F) (hp : o <+: F) : Good n o :=
  ⟨h.nd.sublist hp.sublist, fun i hi => h.lt i (hp.subset hi)⟩

/-- what is asked of values here: references lead into the heap -/
def refs (n : Nat) (l : List Vl) : Prop := ∀ v ∈ l, v.1 = 4 → 0 ≤ v.2 ∧ v.2.toNat < n
def Cl (h : Hp) : Prop := ∀ i, refs h.length (kids h i)

theorem visit_prefix (h : Hp) : ∀ (f : Nat) (o : List Nat) (v : Vl), o <+: visit h f o v := by
  intro f
  induction f with
  | zero => intro o v; exact List.prefix_rfl
  | succ f ih =>
    intro o v
    rw [visit]
    split
    · have hl : ∀ (l : List Vl) (o : List Nat), o <+: l.foldl (visit h f) o := by
        intro l
        induction l with
        | nil => intro o; exact List.prefix_rfl
        | cons a l il => intro o; exact (ih o a).trans (il _)
      exact (List.prefix_append _ _).trans (hl _ _)
    · exact List.prefix_rfl
theorem visits_prefix (h : Hp) (f : Nat) : ∀ (l : List Vl) (o : List Nat), o <+: visits h f o l := by
  intro l
  induction l with
  | nil => intro o; exact List.prefix_rfl
  | cons a l il => intro o; exact (visit_prefix h f o a).trans (il _)
theorem visits_cons (h : Hp) (f : Nat) (o : List Nat) (a : Vl) (l : List Vl) : visits h f o (a :: l) = visits h f (visit h f o a) l := rfl
theorem visits_append (h : Hp) (f : Nat) (o : List Nat) (a b : List Vl) : visits h f o (a ++ b) = visits h f (visits h f o a) b := List.foldl_append ..
theorem visits_nil (h : Hp) (f : Nat) (o : List Nat) : visits h f o [] = o := rfl
theorem visit_succ (h : Hp) (f : Nat) (o : List Nat) (v : Vl) : visit h (f + 1) o v = if v.1 = 4 ∧ ¬ v.2.toNat ∈ o then visits h f (o ++ [v.2.toNat]) (kids h v.2.toNat) else o := rfl
theorem visit_old (h : Hp) (f : Nat) (o : List Nat) (v : Vl) (hv : ¬ (v.1 = 4 ∧ ¬ v.2.toNat ∈ o)) : visit h f o v = o := by
  cases f with
  | zero => rfl
  | succ f => rw [visit_succ, if_neg hv]

theorem len_le_of_prefix {o p : List Nat} (h : o <+: p) : o.length ≤ p.length := h.length_le

theorem visit_good {h : Hp} (hc : Cl h) : ∀ (f : Nat) (o : List Nat) (v : Vl), Good h.length o → (v.1 = 4 → 0 ≤ v.2 ∧ v.2.toNat < h.length) → Good h.length (visit h f o v) := by
  intro f
  induction f with
  | zero => intro o v hg _; exact hg
  | succ f ih =>
    intro o v hg hv
    rw [visit_succ]
    split
    · rename_i hn
      have hl : ∀ (l : List Vl) (o : List Nat), refs h.length l → Good h.length o → Good h.length (visits h f o l) := by
        intro l
        induction l with
        | nil => intro o _ hg; exact hg
        | cons a l il =>
          intro o hr hg
          exact il _ (fun v hm => hr v (List.mem_cons_of_mem _ hm)) (ih o a hg (hr a (by simp)))
      exact hl _ _ (hc _) (hg.snoc (hv hn.1).2 hn.2)
    · exact hg
theorem visits_good {h : Hp} (hc : Cl h) (f : Nat) : ∀ (l : List Vl) (o : List Nat), refs h.length l → Good h.length o → Good h.length (visits h f o l) := by
  intro l
  induction l with
  | nil => intro o _ hg; exact hg
  | cons a l il =>
    intro o hr hg
    exact il _ (fun v hm => hr v (List.mem_cons_of_mem _ hm)) (visit_good hc f o a hg (hr a (by simp)))

/-- with enough fuel the value itself is met -/
theorem visit_mem {h : Hp} : ∀ (f : Nat) (o : List Nat) (v : Vl), Good h.length o → h.length < o.length + f → v.1 = 4 → v.2.toNat ∈ visit h f o v := by
  intro f o v hg hf hv
  cases f with
  | zero => have := hg.le; omega
  | succ f =>
    by_cases hm : v.2.toNat ∈ o
    · rw [visit_old h _ o v (fun hh => hh.2 hm)]; exact hm
    · rw [visit_succ, if_pos ⟨hv, hm⟩]
      exact (visits_prefix h f _ _).subset (by simp)
theorem visits_mem {h : Hp} (hc : Cl h) (f : Nat) : ∀ (l : List Vl) (o : List Nat), refs h.length l → Good h.length o → h.length < o.length + f → ∀ v ∈ l, v.1 = 4 → v.2.toNat ∈ visits h f o l := by
  intro l
  induction l with
  | nil => intro o _ _ _ v hv; simp at hv
  | cons a l il =>
    intro o hr hg hf v hv h4
    rw [visits_cons]
    have hg' := visit_good hc f o a hg (hr a (by simp))
    have hp := visit_prefix h f o a
    rcases List.mem_cons.1 hv with rfl | hv
    · exact (visits_prefix h f _ _).subset (visit_mem f o v hg hf h4)
    · exact il _ (fun v hm => hr v (List.mem_cons_of_mem _ hm)) hg' (by have := hp.length_le; omega) v hv h4

/-- whatever is newly met has its values met -/
theorem visit_kids {h : Hp} (hc : Cl h) : ∀ (f : Nat) (o : List Nat) (v : Vl), Good h.length o → h.length < o.length + f → (v.1 = 4 → 0 ≤ v.2 ∧ v.2.toNat < h.length) →
    ∀ i ∈ visit h f o v, ¬ i ∈ o → ∀ u ∈ kids h i, u.1 = 4 → u.2.toNat ∈ visit h f o v := by
  intro f
  induction f with
  | zero => intro o v hg hf _ i hi hn; exact absurd hi hn
  | succ f ih =>
    intro o v hg hf hv i hi hn u hu h4
    by_cases hnew : v.1 = 4 ∧ ¬ v.2.toNat ∈ o
    · rw [visit_succ, if_pos hnew] at hi ⊢
      have hgs := hg.snoc (hv hnew.1).2 hnew.2
      have hfs : h.length < (o ++ [v.2.toNat]).length + f := by simp; omega
      by_cases hiv : i = v.2.toNat
      · subst hiv
        exact visits_mem hc f _ _ (hc _) hgs hfs u hu h4
      · have hl : ∀ (l : List Vl) (o : List Nat), refs h.length l → Good h.length o → h.length < o.length + f → ∀ i ∈ visits h f o l, ¬ i ∈ o → ∀ u ∈ kids h i, u.1 = 4 → u.2.toNat ∈ visits h f o l := by
          intro l
          induction l with
          | nil => intro o _ _ _ i hi hn; exact absurd hi hn
          | cons a l il =>
            intro o hr hg hf i hi hn u hu h4
            rw [visits_cons] at hi ⊢
            have hg' := visit_good hc f o a hg (hr a (by simp))
            have hp := visit_prefix h f o a
            by_cases hia : i ∈ visit h f o a
            · exact (visits_prefix h f _ _).subset (ih o a hg hf (hr a (by simp)) i hia hn u hu h4)
            · exact il _ (fun v hm => hr v (List.mem_cons_of_mem _ hm)) hg' (by have := hp.length_le; omega) i hi hia u hu h4
        refine hl _ _ (hc _) hgs hfs i hi ?_ u hu h4
        intro hm
        rcases List.mem_append.1 hm with hm | hm
        · exact hn hm
        · simp at hm; exact hiv hm
    · rw [visit_old h _ o v hnew] at hi
      exact absurd hi hn
theorem visits_kids {h : Hp} (hc : Cl h) (f : Nat) : ∀ (l : List Vl) (o : List Nat), refs h.length l → Good h.length o → h.length < o.length + f →
    ∀ i ∈ visits h f o l, ¬ i ∈ o → ∀ u ∈ kids h i, u.1 = 4 → u.2.toNat ∈ visits h f o l := by
  intro l
  induction l with
  | nil => intro o _ _ _ i hi hn; exact absurd hi hn
  | cons a l il =>
    intro o hr hg hf i hi hn u hu h4
    rw [visits_cons] at hi ⊢
    have hg' := visit_good hc f o a hg (hr a (by simp))
    have hp := visit_prefix h f o a
    by_cases hia : i ∈ visit h f o a
    · exact (visits_prefix h f _ _).subset (visit_kids hc f o a hg hf (hr a (by simp)) i hia hn u hu h4)
    · exact il _ (fun v hm => hr v (List.mem_cons_of_mem _ hm)) hg' (by have := hp.length_le; omega) i hi hia u hu h4

theorem idx_lt {F : List Nat} {i : Nat} (h : i ∈ F) : F.idxOf i < F.length := List.idxOf_lt_length_of_mem h
theorem getElem_idx {F : List Nat} {i : Nat} (h : i ∈ F) : F[F.idxOf i]? = some i := by
  rw [List.getElem?_eq_getElem (idx_lt h)]
  simp [List.getElem_idxOf]
theorem idx_of_get {F : List Nat} (hn : F.Nodup) {j i : Nat} (h : F[j]? = some i) : F.idxOf i = j := by
  obtain ⟨hj, rfl⟩ := List.getElem?_eq_some_iff.1 h
  exact hn.idxOf_getElem j hj
theorem idx_prefix {o F : List Nat} (hp : o <+: F) {i : Nat} (h : i ∈ o) : F.idxOf i = o.idxOf i := by
  obtain ⟨t, rfl⟩ := hp
  rw [List.idxOf_append, if_pos h]

theorem get_of_prefix {o F : List Nat} (hp : o <+: F) {j i : Nat} (h : o[j]? = some i) : F[j]? = some i := by
  obtain ⟨t, rfl⟩ := hp
  rw [List.getElem?_append_left (List.getElem?_eq_some_iff.1 h).1]
  exact h
theorem tr_ref {F : List Nat} {v : Vl} (h : v.1 = 4) : tr F v = (4, (F.idxOf v.2.toNat : Int)) := if_pos h
theorem tr_other {F : List Nat} {v : Vl} (h : ¬ v.1 = 4) : tr F v = v := if_neg h
theorem tr_kind (F : List Nat) (v : Vl) : (tr F v).1 = v.1 := by
  unfold tr; split
  · rename_i h; exact h.symm
  · rfl

theorem kids_map {h : Hp} {F G : List Nat} {i j : Nat} (hj : F[j]? = some i) : kids (F.map (obj h G)) j = (kids h i).map (tr G) := by
  unfold kids obj
  rw [List.getElem?_map, hj]
  rfl

/-- going along the heap that was made anew meets its objects in their own order -/
theorem sim {h : Hp} {F : List Nat} (hF : Good h.length F) : ∀ (f f' : Nat) (o : List Nat) (v : Vl), h.length < o.length + f → F.length < o.length + f' → visit h f o v <+: F →
    visit (F.map (obj h F)) f' (List.range o.length) (tr F v) = List.range (visit h f o v).length := by
  intro f
  induction f with
  | zero =>
    intro f' o v hf hf' hp
    have := (hF.of_prefix ((visit_prefix h 0 o v).trans hp)).le
    omega
  | succ f ih =>
    intro f' o v hf hf' hp
    by_cases hnew : v.1 = 4 ∧ ¬ v.2.toNat ∈ o
    · rw [visit_succ, if_pos hnew] at hp ⊢
      have hpo : (o ++ [v.2.toNat]) <+: F := (visits_prefix h f _ _).trans hp
      have hget : F[o.length]? = some v.2.toNat := get_of_prefix hpo (by simp)
      have hidx : F.idxOf v.2.toNat = o.length := idx_of_get hF.nd hget
      have htr : tr F v = (4, (o.length : Int)) := by rw [tr_ref hnew.1, hidx]
      cases f' with
      | zero => have := hpo.length_le; simp at this; omega
      | succ f' =>
        rw [htr, visit_succ, if_pos ⟨rfl, by simp⟩]
        have hl : ∀ (l : List Vl) (o : List Nat), h.length < o.length + f → F.length < o.length + f' → visits h f o l <+: F → visits (F.map (obj h F)) f' (List.range o.length) (l.map (tr F)) = List.range (visits h f o l).length := by
          intro l
          induction l with
          | nil => intro o _ _ _; rfl
          | cons a l il =>
            intro o hf hf' hp
            rw [List.map_cons, visits_cons, visits_cons]
            rw [visits_cons] at hp
            have hpa := (visits_prefix h f l _).trans hp
            have hle := (visit_prefix h f o a).length_le
            rw [ih f' o a hf hf' hpa]
            exact il _ (by omega) (by omega) hp
        have hr : List.range o.length ++ [((4 : Int), (o.length : Int)).2.toNat] = List.range (o ++ [v.2.toNat]).length := by
          simp [List.range_succ]
        rw [hr, show ((4 : Int), (o.length : Int)).2.toNat = o.length from by simp, kids_map hget]
        exact hl _ _ (by simp; omega) (by simp; omega) hp
    · rw [visit_old h _ o v hnew]
      refine visit_old _ _ _ _ ?_
      rw [visit_old h _ o v hnew] at hp
      intro ⟨h4, hm⟩
      rw [tr_kind] at h4
      have hmo : v.2.toNat ∈ o := Classical.byContradiction fun hh => hnew ⟨h4, hh⟩
      rw [tr_ref h4] at hm
      apply hm
      rw [List.mem_range]
      show ((F.idxOf v.2.toNat : Int)).toNat < _
      rw [Int.toNat_natCast, idx_prefix hp hmo]
      exact idx_lt hmo

theorem sims {h : Hp} {F : List Nat} (hF : Good h.length F) (f f' : Nat) : ∀ (l : List Vl) (o : List Nat), h.length < o.length + f → F.length < o.length + f' → visits h f o l <+: F →
    visits (F.map (obj h F)) f' (List.range o.length) (l.map (tr F)) = List.range (visits h f o l).length := by
  intro l
  induction l with
  | nil => intro o _ _ _; rfl
  | cons a l il =>
    intro o hf hf' hp
    rw [List.map_cons, visits_cons, visits_cons]
    rw [visits_cons] at hp
    have hpa := (visits_prefix h f l _).trans hp
    have hle := (visit_prefix h f o a).length_le
    rw [sim hF f f' o a hf hf' hpa]
    exact il _ (by omega) (by omega) hp

theorem asked_iff {h : Hp} {v : List Vl} : asked h v = true ↔ closedH h = true ∧ ∀ u ∈ v, isV h.length u = true := by
  unfold asked
  rw [Bool.and_eq_true, List.all_eq_true]
theorem isV_ref {n : Nat} {v : Vl} (h : isV n v = true) (h4 : v.1 = 4) : 0 ≤ v.2 ∧ v.2.toNat < n := by
  unfold isV at h
  rw [if_neg (by omega), if_neg (by omega), if_neg (by omega), if_pos h4] at h
  simp at h
  omega
theorem closedH_iff {h : Hp} : closedH h = true ↔ h.length ≤ 5000 ∧ ∀ x ∈ h, okO x = true ∧ ∀ u ∈ x.2.2, isV h.length u = true := by
  unfold closedH
  rw [Bool.and_eq_true, List.all_eq_true]
  simp only [decide_eq_true_eq, Bool.and_eq_true, List.all_eq_true]
theorem closed_cl {h : Hp} (hc : closedH h = true) : Cl h := by
  intro i v hv h4
  unfold kids at hv
  cases hi : h[i]? with
  | none => rw [hi] at hv; simp at hv
  | some x =>
    rw [hi] at hv
    exact isV_ref (((closedH_iff.1 hc).2 x (List.mem_of_getElem? hi)).2 v hv) h4
theorem asked_refs {h : Hp} {v : List Vl} (ha : asked h v = true) : refs h.length v := fun u hu h4 => isV_ref ((asked_iff.1 ha).2 u hu) h4

theorem order_good {h : Hp} {v : List Vl} (ha : asked h v = true) : Good h.length (order h v) :=
  visits_good (closed_cl (asked_iff.1 ha).1) _ _ _ (asked_refs ha) (Good.nil _)
theorem order_mem {h : Hp} {v : List Vl} (ha : asked h v = true) {u : Vl} (hu : u ∈ v) (h4 : u.1 = 4) : u.2.toNat ∈ order h v :=
  visits_mem (closed_cl (asked_iff.1 ha).1) _ _ _ (asked_refs ha) (Good.nil _) (by simp) u hu h4
theorem order_kids {h : Hp} {v : List Vl} (ha : asked h v = true) {i : Nat} (hi : i ∈ order h v) {u : Vl} (hu : u ∈ kids h i) (h4 : u.1 = 4) : u.2.toNat ∈ order h v :=
  visits_kids (closed_cl (asked_iff.1 ha).1) _ _ _ (asked_refs ha) (Good.nil _) (by simp) i hi (by simp) u hu h4

theorem range_idx {n i : Nat} (h : i < n) : (List.range n).idxOf i = i :=
  idx_of_get List.nodup_range (by rw [List.getElem?_range h])

theorem isV_tr {n : Nat} {F : List Nat} {u : Vl} (hu : isV n u = true) (hm : u.1 = 4 → u.2.toNat ∈ F) : isV F.length (tr F u) = true := by
  by_cases h4 : u.1 = 4
  · rw [tr_ref h4]
    have := idx_lt (hm h4)
    unfold isV
    simp
    omega
  · rw [tr_other h4]
    unfold isV at hu ⊢
    split
    · rename_i h1; rw [if_pos h1] at hu; exact hu
    · rename_i h1; rw [if_neg h1] at hu
      split
      · rename_i h2; rw [if_pos h2] at hu; exact hu
      · rename_i h2; rw [if_neg h2] at hu
        split
        · rename_i h3; rw [if_pos h3] at hu; exact hu
        · rename_i h3; rw [if_neg h3, if_neg h4] at hu
          exact absurd hu (by simp)

theorem kids_isV {h : Hp} (hc : closedH h = true) {i : Nat} {u : Vl} (hu : u ∈ kids h i) : isV h.length u = true := by
  unfold kids at hu
  cases hi : h[i]? with
  | none => rw [hi] at hu; simp at hu
  | some x =>
    rw [hi] at hu
    exact ((closedH_iff.1 hc).2 x (List.mem_of_getElem? hi)).2 u hu

theorem okO_map (x : Ob) (g : Vl → Vl) : okO (x.1, x.2.1, x.2.2.map g) = okO x := by
  unfold okO
  simp only [List.length_map]

theorem rHeap_closed {h : Hp} {v : List Vl} (ha : asked h v = true) : asked (rHeap h v) (rVals h v) = true := by
  have hg := order_good ha
  have hc := (asked_iff.1 ha).1
  have hlen : (rHeap h v).length = (order h v).length := by unfold rHeap; rw [List.length_map]
  refine asked_iff.2 ⟨closedH_iff.2 ⟨?_, ?_⟩, ?_⟩
  · rw [hlen]
    have := hg.le
    have := (closedH_iff.1 hc).1
    omega
  · intro x hx
    unfold rHeap at hx
    obtain ⟨i, hi, rfl⟩ := List.mem_map.1 hx
    have hil := hg.lt i hi
    have hget : h[i]? = some h[i] := List.getElem?_eq_getElem hil
    constructor
    · show okO (obj h (order h v) i) = true
      unfold obj
      rw [okO_map, hget]
      exact ((closedH_iff.1 hc).2 _ (List.getElem_mem hil)).1
    · intro u hu
      rw [hlen]
      unfold obj at hu
      obtain ⟨u0, hu0, rfl⟩ := List.mem_map.1 hu
      exact isV_tr (kids_isV hc hu0) (fun h4 => order_kids ha hi hu0 h4)
  · intro u hu
    rw [hlen]
    unfold rVals at hu
    obtain ⟨u0, hu0, rfl⟩ := List.mem_map.1 hu
    exact isV_tr ((asked_iff.1 ha).2 u0 hu0) (fun h4 => order_mem ha hu0 h4)

theorem order_again {h : Hp} {v : List Vl} (ha : asked h v = true) : order (rHeap h v) (rVals h v) = List.range (order h v).length := by
  have := sims (order_good ha) (h.length + 1) ((rHeap h v).length + 1) v [] (by simp) (by unfold rHeap; simp) List.prefix_rfl
  exact this

theorem tr_range {n : Nat} {u : Vl} (hu : isV n u = true) : tr (List.range n) u = u := by
  by_cases h4 : u.1 = 4
  · have := isV_ref hu h4
    rw [tr_ref h4, range_idx this.2, Int.toNat_of_nonneg this.1, ← h4]
  · exact tr_other h4

/-- ████ what is reached from what is reached is the same -/
theorem reached_again {h : Hp} {v : List Vl} (ha : asked h v = true) : rHeap (rHeap h v) (rVals h v) = rHeap h v ∧ rVals (rHeap h v) (rVals h v) = rVals h v := by
  have hb := asked_iff.1 (rHeap_closed ha)
  have hlen : (rHeap h v).length = (order h v).length := by unfold rHeap; rw [List.length_map]
  have ho := order_again ha
  constructor
  · show (order (rHeap h v) (rVals h v)).map (obj (rHeap h v) (order (rHeap h v) (rVals h v))) = rHeap h v
    rw [ho]
    apply List.ext_getElem
    · simp [hlen]
    · intro i h1 h2
      rw [List.getElem_map, List.getElem_range]
      unfold obj
      rw [List.getElem?_eq_getElem h2]
      have hx := (closedH_iff.1 hb.1).2 _ (List.getElem_mem h2)
      have hm : ((rHeap h v)[i]).2.2.map (tr (List.range (order h v).length)) = ((rHeap h v)[i]).2.2 := by
        rw [← hlen]
        conv => rhs; rw [← List.map_id ((rHeap h v)[i]).2.2]
        exact List.map_congr_left fun u hu => tr_range (hx.2 u hu)
      show (((rHeap h v)[i]).1, ((rHeap h v)[i]).2.1, ((rHeap h v)[i]).2.2.map _) = _
      rw [hm]
  · show (rVals h v).map (tr (order (rHeap h v) (rVals h v))) = rVals h v
    rw [ho, ← hlen]
    conv => rhs; rw [← List.map_id (rVals h v)]
    exact List.map_congr_left fun u hu => tr_range (hb.2 u hu)

end Go.Mn
