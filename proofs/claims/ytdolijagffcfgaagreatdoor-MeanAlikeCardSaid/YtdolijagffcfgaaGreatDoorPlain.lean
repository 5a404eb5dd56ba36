/-
  Plain laws, no program: what is reached from values in a heap; two heaps gone along side by side; two lists of partners as rows. No condition.
-/
namespace Go.Mn

/-- a value: its kind and its number; an object: its kind, its tag and its values -/
abbrev Vl := Int × Int
abbrev Ob := Int × Int × List Vl
abbrev Hp := List Ob

def isV (n : Nat) (v : Vl) : Bool :=
  if v.1 = 1 then decide (-1000000000 ≤ v.2) && decide (v.2 ≤ 1000000000)
  else if v.1 = 2 then decide (0 ≤ v.2) && decide (v.2 ≤ 1)
  else if v.1 = 3 then decide (v.2 = 0)
  else if v.1 = 4 then decide (0 ≤ v.2) && decide (v.2 ≤ (n : Int) - 1)
  else false

def okO (x : Ob) : Bool :=
  if x.1 = 1 then decide (x.2.1 = 0) && decide (x.2.2.length ≤ 200)
  else if x.1 = 2 then decide (x.2.1 = 0) && (decide (1 ≤ x.2.2.length) && decide (x.2.2.length ≤ 6))
  else if x.1 = 3 then (decide (0 ≤ x.2.1) && decide (x.2.1 ≤ 5)) && decide (x.2.2.length = 1)
  else false

def closedH (h : Hp) : Bool := decide (h.length ≤ 5000) && h.all fun x => okO x && x.2.2.all (isV h.length)
def asked (h : Hp) (v : List Vl) : Bool := closedH h && v.all (isV h.length)

def kids (h : Hp) (i : Nat) : List Vl := (h[i]?.getD (0, 0, [])).2.2

/-- the objects met from a value, in the order of the first visit; f: fuel -/
def visit (h : Hp) : Nat → List Nat → Vl → List Nat
  | 0, o, _ => o
  | f + 1, o, v => if v.1 = 4 ∧ ¬ v.2.toNat ∈ o then (kids h v.2.toNat).foldl (visit h f) (o ++ [v.2.toNat]) else o

def visits (h : Hp) (f : Nat) (o : List Nat) (l : List Vl) : List Nat := l.foldl (visit h f) o

def order (h : Hp) (v : List Vl) : List Nat := visits h (h.length + 1) [] v

def tr (F : List Nat) (v : Vl) : Vl := if v.1 = 4 then (4, (F.idxOf v.2.toNat : Int)) else v

def obj (h : Hp) (F : List Nat) (i : Nat) : Ob :=
  let x := h[i]?.getD (0, 0, [])
  (x.1, x.2.1, x.2.2.map (tr F))

def rHeap (h : Hp) (v : List Vl) : Hp := (order h v).map (obj h (order h v))
def rVals (h : Hp) (v : List Vl) : List Vl := v.map (tr (order h v))

/-- an order: no object twice, each one in the heap -/
structure Good (n : Nat) (o : List Nat) : Prop where
  nd : o.Nodup
  lt : ∀ i ∈ o, i < n

theorem nodup_le : ∀ (n : Nat) (o : List Nat), o.Nodup → (∀ i ∈ o, i < n) → o.length ≤ n := by
  intro n
  induction n with
  | zero =>
    intro o _ h
    cases o with
    | nil => simp
    | cons a l => exact absurd (h a (by simp)) (by omega)
  | succ n ih =>
    intro o hn h
    by_cases hm : n ∈ o
    · have h1 : (o.erase n).Nodup := hn.erase n
      have h2 : ∀ i ∈ o.erase n, i < n := by
        intro i hi
        have hi' := (List.Nodup.mem_erase_iff hn).1 hi
        have := h i hi'.2
        have := hi'.1
        omega
      have h3 := ih _ h1 h2
      rw [List.length_erase_of_mem hm] at h3
      omega
    · have h2 : ∀ i ∈ o, i < n := by
        intro i hi
        have := h i hi
        have : i ≠ n := fun e => hm (e ▸ hi)
        omega
      have := ih o hn h2
      omega

theorem Good.le {n : Nat} {o : List Nat} (h : Good n o) : o.length ≤ n := nodup_le n o h.nd h.lt
theorem Good.nil (n : Nat) : Good n [] := ⟨List.nodup_nil, by simp⟩
theorem Good.snoc {n i : Nat} {o : List Nat} (h : Good n o) (hi : i < n) (hm : ¬ i ∈ o) : Good n (o ++ [i]) := by
  constructor
  · rw [List.nodup_append]
    exact ⟨h.nd, by simp, by intro a ha b hb; simp at hb; subst hb; exact fun e => hm (e ▸ ha)⟩
  · intro k hk
    rcases List.mem_append.1 hk with hk | hk
    · exact h.lt k hk
    · simp at hk; omega
theorem Good.of_prefix {n : Nat} {o F : List Nat} (h : Good n F) (hp : o <+: F) : Good n o :=
  ⟨h.nd.sublist hp.sublist, fun i hi => h.lt i (hp.subset hi)⟩

/-- what is asked of values here: references lead into the heap -/
def refs (n : Nat) (l : List Vl) : Prop := ∀ v ∈ l, v.1 = 4 → 0 ≤ v.2 ∧ v.2.toNat < n
def Cl (h : Hp) : Prop := ∀ i, refs h.length (kids h i)

theorem visit_prefix (h : Hp) : ∀ (f : Nat) (o : List Nat) (v : Vl), o <+: visit h f o v := by
  intro f
  induction f with
  | zero => intro o v; exact List.prefix_rfl
  | succ f ih =>
    intro o v
    rw [visit]
    split
    · have hl : ∀ (l : List Vl) (o : List Nat), o <+: l.foldl (visit h f) o := by
        intro l
        induction l with
        | nil => intro o; exact List.prefix_rfl
        | cons a l il => intro o; exact (ih o a).trans (il _)
      exact (List.prefix_append _ _).trans (hl _ _)
    · exact List.prefix_rfl
theorem visits_prefix (h : Hp) (f : Nat) : ∀ (l : List Vl) (o : List Nat), o <+: visits h f o l := by
  intro l
  induction l with
  | nil => intro o; exact List.prefix_rfl
  | cons a l il => intro o; exact (visit_prefix h f o a).trans (il _)
theorem visits_cons (h : Hp) (f : Nat) (o : List Nat) (a : Vl) (l : List Vl) : visits h f o (a :: l) = visits h f (visit h f o a) l := rfl
theorem visits_append (h : Hp) (f : Nat) (o : List Nat) (a b : List Vl) : visits h f o (a ++ b) = visits h f (visits h f o a) b := List.foldl_append ..
theorem visits_nil (h : Hp) (f : Nat) (o : List Nat) : visits h f o [] = o := rfl
theorem visit_succ (h : Hp) (f : Nat) (o : List Nat) (v : Vl) : visit h (f + 1) o v = if v.1 = 4 ∧ ¬ v.2.toNat ∈ o then visits h f (o ++ [v.2.toNat]) (kids h v.2.toNat) else o := rfl
theorem visit_old (h : Hp) (f : Nat) (o : List Nat) (v : Vl) (hv : ¬ (v.1 = 4 ∧ ¬ v.2.toNat ∈ o)) : visit h f o v = o := by
  cases f with
  | zero => rfl
  | succ f => rw [visit_succ, if_neg hv]

theorem len_le_of_prefix {o p : List Nat} (h : o <+: p) : o.length ≤ p.length := h.length_le

theorem visit_good {h : Hp} (hc : Cl h) : ∀ (f : Nat) (o : List Nat) (v : Vl), Good h.length o → (v.1 = 4 → 0 ≤ v.2 ∧ v.2.toNat < h.length) → Good h.length (visit h f o v) := by
  intro f
  induction f with
  | zero => intro o v hg _; exact hg
  | succ f ih =>
    intro o v hg hv
    rw [visit_succ]
    split
    · rename_i hn
      have hl : ∀ (l : List Vl) (o : List Nat), refs h.length l → Good h.length o → Good h.length (visits h f o l) := by
        intro l
        induction l with
        | nil => intro o _ hg; exact hg
        | cons a l il =>
          intro o hr hg
          exact il _ (fun v hm => hr v (List.mem_cons_of_mem _ hm)) (ih o a hg (hr a (by simp)))
      exact hl _ _ (hc _) (hg.snoc (hv hn.1).2 hn.2)
    · exact hg
theorem visits_good {h : Hp} (hc : Cl h) (f : Nat) : ∀ (l : List Vl) (o : List Nat), refs h.length l → Good h.length o → Good h.length (visits h f o l) := by
  intro l
  induction l with
  | nil => intro o _ hg; exact hg
  | cons a l il =>
    intro o hr hg
    exact il _ (fun v hm => hr v (List.mem_cons_of_mem _ hm)) (visit_good hc f o a hg (hr a (by simp)))

/-- with enough fuel the value itself is met -/
theorem visit_mem {h : Hp} : ∀ (f : Nat) (o : List Nat) (v : Vl), Good h.length o → h.length < o.length + f → v.1 = 4 → v.2.toNat ∈ visit h f o v := by
  intro f o v hg hf hv
  cases f with
  | zero => have := hg.le; omega
  | succ f =>
    by_cases hm : v.2.toNat ∈ o
    · rw [visit_old h _ o v (fun hh => hh.2 hm)]; exact hm
    · rw [visit_succ, if_pos ⟨hv, hm⟩]
      exact (visits_prefix h f _ _).subset (by simp)
theorem visits_mem {h : Hp} (hc : Cl h) (f : Nat) : ∀ (l : List Vl) (o : List Nat), refs h.length l → Good h.length o → h.length < o.length + f → ∀ v ∈ l, v.1 = 4 → v.2.toNat ∈ visits h f o l := by
  intro l
  induction l with
  | nil => intro o _ _ _ v hv; simp at hv
  | cons a l il =>
    intro o hr hg hf v hv h4
    rw [visits_cons]
    have hg' := visit_good hc f o a hg (hr a (by simp))
    have hp := visit_prefix h f o a
    rcases List.mem_cons.1 hv with rfl | hv
    · exact (visits_prefix h f _ _).subset (visit_mem f o v hg hf h4)
    · exact il _ (fun v hm => hr v (List.mem_cons_of_mem _ hm)) hg' (by have := hp.length_le; omega) v hv h4

/-- whatever is newly met has its values met -/
theorem visit_kids {h : Hp} (hc : Cl h) : ∀ (f : Nat) (o : List Nat) (v : Vl), Good h.length o → h.length < o.length + f → (v.1 = 4 → 0 ≤ v.2 ∧ v.2.toNat < h.length) →
    ∀ i ∈ visit h f o v, ¬ i ∈ o → ∀ u ∈ kids h i, u.1 = 4 → u.2.toNat ∈ visit h f o v := by
  intro f
  induction f with
  | zero => intro o v hg hf _ i hi hn; exact absurd hi hn
  | succ f ih =>
    intro o v hg hf hv i hi hn u hu h4
    by_cases hnew : v.1 = 4 ∧ ¬ v.2.toNat ∈ o
    · rw [visit_succ, if_pos hnew] at hi ⊢
      have hgs := hg.snoc (hv hnew.1).2 hnew.2
      have hfs : h.length < (o ++ [v.2.toNat]).length + f := by simp; omega
      by_cases hiv : i = v.2.toNat
      · subst hiv
        exact visits_mem hc f _ _ (hc _) hgs hfs u hu h4
      · have hl : ∀ (l : List Vl) (o : List Nat), refs h.length l → Good h.length o → h.length < o.length + f → ∀ i ∈ visits h f o l, ¬ i ∈ o → ∀ u ∈ kids h i, u.1 = 4 → u.2.toNat ∈ visits h f o l := by
          intro l
          induction l with
          | nil => intro o _ _ _ i hi hn; exact absurd hi hn
          | cons a l il =>
            intro o hr hg hf i hi hn u hu h4
            rw [visits_cons] at hi ⊢
            have hg' := visit_good hc f o a hg (hr a (by simp))
            have hp := visit_prefix h f o a
            by_cases hia : i ∈ visit h f o a
            · exact (visits_prefix h f _ _).subset (ih o a hg hf (hr a (by simp)) i hia hn u hu h4)
            · exact il _ (fun v hm => hr v (List.mem_cons_of_mem _ hm)) hg' (by have := hp.length_le; omega) i hi hia u hu h4
        refine hl _ _ (hc _) hgs hfs i hi ?_ u hu h4
        intro hm
        rcases List.mem_append.1 hm with hm | hm
        · exact hn hm
        · simp at hm; exact hiv hm
    · rw [visit_old h _ o v hnew] at hi
      exact absurd hi hn
theorem visits_kids {h : Hp} (hc : Cl h) (f : Nat) : ∀ (l : List Vl) (o : List Nat), refs h.length l → Good h.length o → h.length < o.length + f →
    ∀ i ∈ visits h f o l, ¬ i ∈ o → ∀ u ∈ kids h i, u.1 = 4 → u.2.toNat ∈ visits h f o l := by
  intro l
  induction l with
  | nil => intro o _ _ _ i hi hn; exact absurd hi hn
  | cons a l il =>
    intro o hr hg hf i hi hn u hu h4
    rw [visits_cons] at hi ⊢
    have hg' := visit_good hc f o a hg (hr a (by simp))
    have hp := visit_prefix h f o a
    by_cases hia : i ∈ visit h f o a
    · exact (visits_prefix h f _ _).subset (visit_kids hc f o a hg hf (hr a (by simp)) i hia hn u hu h4)
    · exact il _ (fun v hm => hr v (List.mem_cons_of_mem _ hm)) hg' (by have := hp.length_le; omega) i hi hia u hu h4

theorem idx_lt {F : List Nat} {i : Nat} (h : i ∈ F) : F.idxOf i < F.length := List.idxOf_lt_length_of_mem h
theorem getElem_idx {F : List Nat} {i : Nat} (h : i ∈ F) : F[F.idxOf i]? = some i := by
  rw [List.getElem?_eq_getElem (idx_lt h)]
  simp [List.getElem_idxOf]
theorem idx_of_get {F : List Nat} (hn : F.Nodup) {j i : Nat} (h : F[j]? = some i) : F.idxOf i = j := by
  obtain ⟨hj, rfl⟩ := List.getElem?_eq_some_iff.1 h
  exact hn.idxOf_getElem j hj
theorem idx_prefix {o F : List Nat} (hp : o <+: F) {i : Nat} (h : i ∈ o) : F.idxOf i = o.idxOf i := by
  obtain ⟨t, rfl⟩ := hp
  rw [List.idxOf_append, if_pos h]

theorem get_of_prefix {o F : List Nat} (hp : o <+: F) {j i : Nat} (h : o[j]? = some i) : F[j]? = some i := by
  obtain ⟨t, rfl⟩ := hp
  rw [List.getElem?_append_left (List.getElem?_eq_some_iff.1 h).1]
  exact h
theorem tr_ref {F : List Nat} {v : Vl} (h : v.1 = 4) : tr F v = (4, (F.idxOf v.2.toNat : Int)) := if_pos h
theorem tr_other {F : List Nat} {v : Vl} (h : ¬ v.1 = 4) : tr F v = v := if_neg h
theorem tr_kind (F : List Nat) (v : Vl) : (tr F v).1 = v.1 := by
  unfold tr; split
  · rename_i h; exact h.symm
  · rfl

theorem kids_map {h : Hp} {F G : List Nat} {i j : Nat} (hj : F[j]? = some i) : kids (F.map (obj h G)) j = (kids h i).map (tr G) := by
  unfold kids obj
  rw [List.getElem?_map, hj]
  rfl

/-- going along the heap that was made anew meets its objects in their own order -/
theorem sim {h : Hp} {F : List Nat} (hF : Good h.length F) : ∀ (f f' : Nat) (o : List Nat) (v : Vl), h.length < o.length + f → F.length < o.length + f' → visit h f o v <+: F →
    visit (F.map (obj h F)) f' (List.range o.length) (tr F v) = List.range (visit h f o v).length := by
  intro f
  induction f with
  | zero =>
    intro f' o v hf hf' hp
    have := (hF.of_prefix ((visit_prefix h 0 o v).trans hp)).le
    omega
  | succ f ih =>
    intro f' o v hf hf' hp
    by_cases hnew : v.1 = 4 ∧ ¬ v.2.toNat ∈ o
    · rw [visit_succ, if_pos hnew] at hp ⊢
      have hpo : (o ++ [v.2.toNat]) <+: F := (visits_prefix h f _ _).trans hp
      have hget : F[o.length]? = some v.2.toNat := get_of_prefix hpo (by simp)
      have hidx : F.idxOf v.2.toNat = o.length := idx_of_get hF.nd hget
      have htr : tr F v = (4, (o.length : Int)) := by rw [tr_ref hnew.1, hidx]
      cases f' with
      | zero => have := hpo.length_le; simp at this; omega
      | succ f' =>
        rw [htr, visit_succ, if_pos ⟨rfl, by simp⟩]
        have hl : ∀ (l : List Vl) (o : List Nat), h.length < o.length + f → F.length < o.length + f' → visits h f o l <+: F → visits (F.map (obj h F)) f' (List.range o.length) (l.map (tr F)) = List.range (visits h f o l).length := by
          intro l
          induction l with
          | nil => intro o _ _ _; rfl
          | cons a l il =>
            intro o hf hf' hp
            rw [List.map_cons, visits_cons, visits_cons]
            rw [visits_cons] at hp
            have hpa := (visits_prefix h f l _).trans hp
            have hle := (visit_prefix h f o a).length_le
            rw [ih f' o a hf hf' hpa]
            exact il _ (by omega) (by omega) hp
        have hr : List.range o.length ++ [((4 : Int), (o.length : Int)).2.toNat] = List.range (o ++ [v.2.toNat]).length := by
          simp [List.range_succ]
        rw [hr, show ((4 : Int), (o.length : Int)).2.toNat = o.length from by simp, kids_map hget]
        exact hl _ _ (by simp; omega) (by simp; omega) hp
    · rw [visit_old h _ o v hnew]
      refine visit_old _ _ _ _ ?_
      rw [visit_old h _ o v hnew] at hp
      intro ⟨h4, hm⟩
      rw [tr_kind] at h4
      have hmo : v.2.toNat ∈ o := Classical.byContradiction fun hh => hnew ⟨h4, hh⟩
      rw [tr_ref h4] at hm
      apply hm
      rw [List.mem_range]
      show ((F.idxOf v.2.toNat : Int)).toNat < _
      rw [Int.toNat_natCast, idx_prefix hp hmo]
      exact idx_lt hmo

theorem sims {h : Hp} {F : List Nat} (hF : Good h.length F) (f f' : Nat) : ∀ (l : List Vl) (o : List Nat), h.length < o.length + f → F.length < o.length + f' → visits h f o l <+: F →
    visits (F.map (obj h F)) f' (List.range o.length) (l.map (tr F)) = List.range (visits h f o l).length := by
  intro l
  induction l with
  | nil => intro o _ _ _; rfl
  | cons a l il =>
    intro o hf hf' hp
    rw [List.map_cons, visits_cons, visits_cons]
    rw [visits_cons] at hp
    have hpa := (visits_prefix h f l _).trans hp
    have hle := (visit_prefix h f o a).length_le
    rw [sim hF f f' o a hf hf' hpa]
    exact il _ (by omega) (by omega) hp

theorem asked_iff {h : Hp} {v : List Vl} : asked h v = true ↔ closedH h = true ∧ ∀ u ∈ v, isV h.length u = true := by
  unfold asked
  rw [Bool.and_eq_true, List.all_eq_true]
theorem isV_ref {n : Nat} {v : Vl} (h : isV n v = true) (h4 : v.1 = 4) : 0 ≤ v.2 ∧ v.2.toNat < n := by
  unfold isV at h
  rw [if_neg (by omega), if_neg (by omega), if_neg (by omega), if_pos h4] at h
  simp at h
  omega
theorem closedH_iff {h : Hp} : closedH h = true ↔ h.length ≤ 5000 ∧ ∀ x ∈ h, okO x = true ∧ ∀ u ∈ x.2.2, isV h.length u = true := by
  unfold closedH
  rw [Bool.and_eq_true, List.all_eq_true]
  simp only [decide_eq_true_eq, Bool.and_eq_true, List.all_eq_true]
theorem closed_cl {h : Hp} (hc : closedH h = true) : Cl h := by
  intro i v hv h4
  unfold kids at hv
  cases hi : h[i]? with
  | none => rw [hi] at hv; simp at hv
  | some x =>
    rw [hi] at hv
    exact isV_ref (((closedH_iff.1 hc).2 x (List.mem_of_getElem? hi)).2 v hv) h4
theorem asked_refs {h : Hp} {v : List Vl} (ha : asked h v = true) : refs h.length v := fun u hu h4 => isV_ref ((asked_iff.1 ha).2 u hu) h4

theorem order_good {h : Hp} {v : List Vl} (ha : asked h v = true) : Good h.length (order h v) :=
  visits_good (closed_cl (asked_iff.1 ha).1) _ _ _ (asked_refs ha) (Good.nil _)
theorem order_mem {h : Hp} {v : List Vl} (ha : asked h v = true) {u : Vl} (hu : u ∈ v) (h4 : u.1 = 4) : u.2.toNat ∈ order h v :=
  visits_mem (closed_cl (asked_iff.1 ha).1) _ _ _ (asked_refs ha) (Good.nil _) (by simp) u hu h4
theorem order_kids {h : Hp} {v : List Vl} (ha : asked h v = true) {i : Nat} (hi : i ∈ order h v) {u : Vl} (hu : u ∈ kids h i) (h4 : u.1 = 4) : u.2.toNat ∈ order h v :=
  visits_kids (closed_cl (asked_iff.1 ha).1) _ _ _ (asked_refs ha) (Good.nil _) (by simp) i hi (by simp) u hu h4

theorem range_idx {n i : Nat} (h : i < n) : (List.range n).idxOf i = i :=
  idx_of_get List.nodup_range (by rw [List.getElem?_range h])

theorem isV_tr {n : Nat} {F : List Nat} {u : Vl} (hu : isV n u = true) (hm : u.1 = 4 → u.2.toNat ∈ F) : isV F.length (tr F u) = true := by
  by_cases h4 : u.1 = 4
  · rw [tr_ref h4]
    have := idx_lt (hm h4)
    unfold isV
    simp
    omega
  · rw [tr_other h4]
    unfold isV at hu ⊢
    split
    · rename_i h1; rw [if_pos h1] at hu; exact hu
    · rename_i h1; rw [if_neg h1] at hu
      split
      · rename_i h2; rw [if_pos h2] at hu; exact hu
      · rename_i h2; rw [if_neg h2] at hu
        split
        · rename_i h3; rw [if_pos h3] at hu; exact hu
        · rename_i h3; rw [if_neg h3, if_neg h4] at hu
          exact absurd hu (by simp)

theorem kids_isV {h : Hp} (hc : closedH h = true) {i : Nat} {u : Vl} (hu : u ∈ kids h i) : isV h.length u = true := by
  unfold kids at hu
  cases hi : h[i]? with
  | none => rw [hi] at hu; simp at hu
  | some x =>
    rw [hi] at hu
    exact ((closedH_iff.1 hc).2 x (List.mem_of_getElem? hi)).2 u hu

theorem okO_map (x : Ob) (g : Vl → Vl) : okO (x.1, x.2.1, x.2.2.map g) = okO x := by
  unfold okO
  simp only [List.length_map]

theorem rHeap_closed {h : Hp} {v : List Vl} (ha : asked h v = true) : asked (rHeap h v) (rVals h v) = true := by
  have hg := order_good ha
  have hc := (asked_iff.1 ha).1
  have hlen : (rHeap h v).length = (order h v).length := by unfold rHeap; rw [List.length_map]
  refine asked_iff.2 ⟨closedH_iff.2 ⟨?_, ?_⟩, ?_⟩
  · rw [hlen]
    have := hg.le
    have := (closedH_iff.1 hc).1
    omega
  · intro x hx
    unfold rHeap at hx
    obtain ⟨i, hi, rfl⟩ := List.mem_map.1 hx
    have hil := hg.lt i hi
    have hget : h[i]? = some h[i] := List.getElem?_eq_getElem hil
    constructor
    · show okO (obj h (order h v) i) = true
      unfold obj
      rw [okO_map, hget]
      exact ((closedH_iff.1 hc).2 _ (List.getElem_mem hil)).1
    · intro u hu
      rw [hlen]
      unfold obj at hu
      obtain ⟨u0, hu0, rfl⟩ := List.mem_map.1 hu
      exact isV_tr (kids_isV hc hu0) (fun h4 => order_kids ha hi hu0 h4)
  · intro u hu
    rw [hlen]
    unfold rVals at hu
    obtain ⟨u0, hu0, rfl⟩ := List.mem_map.1 hu
    exact isV_tr ((asked_iff.1 ha).2 u0 hu0) (fun h4 => order_mem ha hu0 h4)

theorem order_again {h : Hp} {v : List Vl} (ha : asked h v = true) : order (rHeap h v) (rVals h v) = List.range (order h v).length := by
  have := sims (order_good ha) (h.length + 1) ((rHeap h v).length + 1) v [] (by simp) (by unfold rHeap; simp) List.prefix_rfl
  exact this

theorem tr_range {n : Nat} {u : Vl} (hu : isV n u = true) : tr (List.range n) u = u := by
  by_cases h4 : u.1 = 4
  · have := isV_ref hu h4
    rw [tr_ref h4, range_idx this.2, Int.toNat_of_nonneg this.1, ← h4]
  · exact tr_other h4

/-- ████ what is reached from what is reached is the same -/
theorem reached_again {h : Hp} {v : List Vl} (ha : asked h v = true) : rHeap (rHeap h v) (rVals h v) = rHeap h v ∧ rVals (rHeap h v) (rVals h v) = rVals h v := by
  have hb := asked_iff.1 (rHeap_closed ha)
  have hlen : (rHeap h v).length = (order h v).length := by unfold rHeap; rw [List.length_map]
  have ho := order_again ha
  constructor
  · show (order (rHeap h v) (rVals h v)).map (obj (rHeap h v) (order (rHeap h v) (rVals h v))) = rHeap h v
    rw [ho]
    apply List.ext_getElem
    · simp [hlen]
    · intro i h1 h2
      rw [List.getElem_map, List.getElem_range]
      unfold obj
      rw [List.getElem?_eq_getElem h2]
      have hx := (closedH_iff.1 hb.1).2 _ (List.getElem_mem h2)
      have hm : ((rHeap h v)[i]).2.2.map (tr (List.range (order h v).length)) = ((rHeap h v)[i]).2.2 := by
        rw [← hlen]
        conv => rhs; rw [← List.map_id ((rHeap h v)[i]).2.2]
        exact List.map_congr_left fun u hu => tr_range (hx.2 u hu)
      show (((rHeap h v)[i]).1, ((rHeap h v)[i]).2.1, ((rHeap h v)[i]).2.2.map _) = _
      rw [hm]
  · show (rVals h v).map (tr (order (rHeap h v) (rVals h v))) = rVals h v
    rw [ho, ← hlen]
    conv => rhs; rw [← List.map_id (rVals h v)]
    exact List.map_congr_left fun u hu => tr_range (hb.2 u hu)

end Go.Mn

namespace Go.Mn

/-- kind, tag and how many values -/
def headEq (x y : Ob) : Bool := decide (x.1 = y.1) && (decide (x.2.1 = y.2.1) && decide (x.2.2.length = y.2.2.length))
def at' (h : Hp) (i : Nat) : Ob := h[i]?.getD (0, 0, [])

def along {S : Type} (m : S → Vl → Vl → Option S) : S → List Vl → List Vl → Option S
  | s, a :: l, b :: k => (m s a b).bind fun s => along m s l k
  | s, _, _ => some s

def match1 (h g : Hp) : Nat → List Nat × List Nat → Vl → Vl → Option (List Nat × List Nat)
  | 0, _, _, _ => none
  | f + 1, s, v, w =>
    if v.1 = w.1 then
      if v.1 = 4 then
        if v.2.toNat ∈ s.1 ∨ w.2.toNat ∈ s.2 then
          if v.2.toNat ∈ s.1 ∧ w.2.toNat ∈ s.2 ∧ s.1.idxOf v.2.toNat = s.2.idxOf w.2.toNat then some s else none
        else if headEq (at' h v.2.toNat) (at' g w.2.toNat) then along (match1 h g f) (s.1 ++ [v.2.toNat], s.2 ++ [w.2.toNat]) (kids h v.2.toNat) (kids g w.2.toNat)
        else none
      else if v.2 = w.2 then some s else none
    else none

/-- the objects at some places are the same -/
def Same (h g : Hp) (F G : List Nat) (a b : Nat) : Prop := ∀ j, a ≤ j → j < b → (F[j]?).map (obj h F) = (G[j]?).map (obj g G)

theorem tr_eq_kind {F G : List Nat} {v w : Vl} (h : tr F v = tr G w) : v.1 = w.1 := by
  rw [← tr_kind F v, h, tr_kind]
theorem idx_ge {o F : List Nat} (hp : o <+: F) {i : Nat} (h : ¬ i ∈ o) : o.length ≤ F.idxOf i := by
  obtain ⟨t, rfl⟩ := hp
  rw [List.idxOf_append, if_neg h]
  omega

theorem obj_head {h g : Hp} {F G : List Nat} {i k : Nat} (he : obj h F i = obj g G k) : headEq (at' h i) (at' g k) = true ∧ (kids h i).map (tr F) = (kids g k).map (tr G) := by
  unfold obj at he
  obtain ⟨h1, h2⟩ := Prod.mk.inj he
  obtain ⟨h2, h3⟩ := Prod.mk.inj h2
  refine ⟨?_, h3⟩
  unfold headEq at'
  have := congrArg List.length h3
  simp only [List.length_map] at this
  simp [h1, h2, this]
theorem obj_of_head {h g : Hp} {F G : List Nat} {i k : Nat} (he : headEq (at' h i) (at' g k) = true) (hk : (kids h i).map (tr F) = (kids g k).map (tr G)) : obj h F i = obj g G k := by
  unfold headEq at' at he
  simp only [Bool.and_eq_true, decide_eq_true_eq] at he
  unfold obj
  unfold kids at hk
  simp only [he.1, he.2.1, hk]

structure Two (h g : Hp) (F G : List Nat) (f f2 : Nat) (o p : List Nat) : Prop where
  len : o.length = p.length
  fu : h.length < o.length + f
  fv : g.length < p.length + f2
  gF : Good h.length F
  gG : Good g.length G

theorem match_both {h g : Hp} {F G : List Nat} : ∀ (f f2 : Nat) (o p : List Nat) (v w : Vl), Two h g F G f f2 o p → visit h f o v <+: F → visit g f2 p w <+: G →
    (∀ s, match1 h g f (o, p) v w = some s → s = (visit h f o v, visit g f2 p w) ∧ s.1.length = s.2.length ∧ tr F v = tr G w ∧ Same h g F G o.length s.1.length) ∧
    (match1 h g f (o, p) v w = none → ¬ (tr F v = tr G w ∧ Same h g F G o.length (visit h f o v).length)) := by
  intro f
  induction f with
  | zero =>
    intro f2 o p v w ht hp _
    have := (ht.gF.of_prefix ((visit_prefix h 0 o v).trans hp)).le
    have := ht.fu
    omega
  | succ f ih =>
    have hl : ∀ (f2 : Nat) (l m : List Vl) (o p : List Nat), Two h g F G f f2 o p → l.length = m.length → visits h f o l <+: F → visits g f2 p m <+: G →
        (∀ s, along (match1 h g f) (o, p) l m = some s → s = (visits h f o l, visits g f2 p m) ∧ s.1.length = s.2.length ∧ l.map (tr F) = m.map (tr G) ∧ Same h g F G o.length s.1.length) ∧
        (along (match1 h g f) (o, p) l m = none → ¬ (l.map (tr F) = m.map (tr G) ∧ Same h g F G o.length (visits h f o l).length)) := by
      intro f2 l
      induction l with
      | nil =>
        intro m o p ht hlm _ _
        cases m with
        | cons b m => simp at hlm
        | nil =>
          refine ⟨fun s hs => ?_, fun hn => ?_⟩
          · cases hs
            exact ⟨rfl, ht.len, rfl, fun j h1 h2 => absurd h2 (Nat.not_lt.2 h1)⟩
          · exact absurd hn (by simp [along])
      | cons a l il =>
        intro m o p ht hlm hp hq
        cases m with
        | nil => simp at hlm
        | cons b m =>
          rw [visits_cons] at hp hq
          have hpa := (visits_prefix h f l _).trans hp
          have hqb := (visits_prefix g f2 m _).trans hq
          have hle1 := (visit_prefix h f o a).length_le
          have hle2 := (visit_prefix g f2 p b).length_le
          obtain ⟨hs1, hn1⟩ := ih f2 o p a b ht hpa hqb
          have hal : along (match1 h g f) (o, p) (a :: l) (b :: m) = (match1 h g f (o, p) a b).bind fun s => along (match1 h g f) s l m := rfl
          rw [hal]
          cases he : match1 h g f (o, p) a b with
          | none =>
            refine ⟨fun s hs => by simp at hs, fun _ hh => ?_⟩
            obtain ⟨ht1, ht2⟩ := hh
            rw [List.map_cons, List.map_cons] at ht1
            refine hn1 he ⟨(List.cons.inj ht1).1, fun j h1 h2 => ht2 j h1 ?_⟩
            rw [visits_cons]
            have := (visits_prefix h f l (visit h f o a)).length_le
            omega
          | some s1 =>
            obtain ⟨he1, hlen1, htr1, hsame1⟩ := hs1 s1 he
            subst he1
            have ht' : Two h g F G f f2 (visit h f o a) (visit g f2 p b) := ⟨hlen1, by have := ht.fu; omega, by have := ht.fv; omega, ht.gF, ht.gG⟩
            obtain ⟨hs2, hn2⟩ := il m _ _ ht' (by simpa using hlm) hp hq
            simp only [Option.bind_some]
            refine ⟨fun s hs => ?_, fun hn hh => ?_⟩
            · obtain ⟨e1, e2, e3, e4⟩ := hs2 s hs
              refine ⟨e1, e2, by rw [List.map_cons, List.map_cons, htr1, e3], fun j h1 h2 => ?_⟩
              by_cases hj : j < (visit h f o a).length
              · exact hsame1 j h1 hj
              · exact e4 j (by omega) h2
            · obtain ⟨ht1, ht2⟩ := hh
              rw [List.map_cons, List.map_cons] at ht1
              refine hn2 hn ⟨(List.cons.inj ht1).2, fun j h1 h2 => ht2 j (by omega) ?_⟩
              rw [visits_cons]
              exact h2
    intro f2 o p v w ht hp hq
    have hpo : o <+: F := (visit_prefix h _ o v).trans hp
    have hqp : p <+: G := (visit_prefix g _ p w).trans hq
    rw [match1]
    by_cases hk : v.1 = w.1
    · rw [if_pos hk]
      by_cases h4 : v.1 = 4
      · have h4w : w.1 = 4 := hk ▸ h4
        rw [if_pos h4]
        by_cases hold : v.2.toNat ∈ o ∨ w.2.toNat ∈ p
        · rw [if_pos hold]
          by_cases hsame : v.2.toNat ∈ o ∧ w.2.toNat ∈ p ∧ o.idxOf v.2.toNat = p.idxOf w.2.toNat
          · rw [if_pos hsame]
            obtain ⟨m1, m2, m3⟩ := hsame
            refine ⟨fun s hs => ?_, fun hn => by simp at hn⟩
            cases hs
            rw [visit_old h _ o v (fun hh => hh.2 m1), visit_old g _ p w (fun hh => hh.2 m2)]
            refine ⟨rfl, ht.len, ?_, fun j h1 h2 => absurd h2 (Nat.not_lt.2 h1)⟩
            rw [tr_ref h4, tr_ref h4w, idx_prefix hpo m1, idx_prefix hqp m2, m3]
          · rw [if_neg hsame]
            refine ⟨fun s hs => by simp at hs, fun _ hh => ?_⟩
            have he := hh.1
            rw [tr_ref h4, tr_ref h4w] at he
            have he2 : F.idxOf v.2.toNat = G.idxOf w.2.toNat := by
              have := (Prod.mk.inj he).2
              exact Int.ofNat.inj this
            have hlen := ht.len
            by_cases m1 : v.2.toNat ∈ o
            · by_cases m2 : w.2.toNat ∈ p
              · exact hsame ⟨m1, m2, by rw [← idx_prefix hpo m1, ← idx_prefix hqp m2, he2]⟩
              · have := idx_ge hqp m2
                have := idx_prefix hpo m1
                have := idx_lt m1
                omega
            · have m2 : w.2.toNat ∈ p := hold.resolve_left m1
              have := idx_ge hpo m1
              have := idx_prefix hqp m2
              have := idx_lt m2
              omega
        · rw [if_neg hold]
          have n1 : ¬ v.2.toNat ∈ o := fun hh => hold (.inl hh)
          have n2 : ¬ w.2.toNat ∈ p := fun hh => hold (.inr hh)
          rw [visit_succ h f o v, if_pos (show v.1 = 4 ∧ ¬ v.2.toNat ∈ o from ⟨h4, n1⟩)] at hp ⊢
          cases f2 with
          | zero =>
            have := (ht.gG.of_prefix hqp).le
            have := ht.fv
            omega
          | succ f2 =>
            rw [visit_succ g f2 p w, if_pos (show w.1 = 4 ∧ ¬ w.2.toNat ∈ p from ⟨h4w, n2⟩)] at hq ⊢
            have hpo' : (o ++ [v.2.toNat]) <+: F := (visits_prefix h f _ _).trans hp
            have hqp' : (p ++ [w.2.toNat]) <+: G := (visits_prefix g f2 _ _).trans hq
            have g1 : F[o.length]? = some v.2.toNat := get_of_prefix hpo' (by simp)
            have g2 : G[o.length]? = some w.2.toNat := by rw [ht.len]; exact get_of_prefix hqp' (by simp)
            have i1 : F.idxOf v.2.toNat = o.length := idx_of_get ht.gF.nd g1
            have i2 : G.idxOf w.2.toNat = o.length := idx_of_get ht.gG.nd g2
            have hlt : o.length < (visits h f (o ++ [v.2.toNat]) (kids h v.2.toNat)).length := by
              have := (visits_prefix h f (kids h v.2.toNat) (o ++ [v.2.toNat])).length_le
              simp at this
              omega
            by_cases hh : headEq (at' h v.2.toNat) (at' g w.2.toNat) = true
            · rw [if_pos hh]
              have hlen : (kids h v.2.toNat).length = (kids g w.2.toNat).length := by
                unfold headEq at hh
                simp only [Bool.and_eq_true, decide_eq_true_eq] at hh
                exact hh.2.2
              have ht' : Two h g F G f f2 (o ++ [v.2.toNat]) (p ++ [w.2.toNat]) :=
                ⟨by simp [ht.len], by have := ht.fu; simp; omega, by have := ht.fv; simp; omega, ht.gF, ht.gG⟩
              obtain ⟨hs, hn⟩ := hl f2 _ _ _ _ ht' hlen hp hq
              refine ⟨fun s hs0 => ?_, fun hn0 hcon => ?_⟩
              · obtain ⟨e1, e2, e3, e4⟩ := hs s hs0
                refine ⟨e1, e2, by rw [tr_ref h4, tr_ref h4w, i1, i2], fun j h1 h2 => ?_⟩
                by_cases hj : j = o.length
                · subst hj
                  rw [g1, g2]
                  simp only [Option.map_some]
                  rw [obj_of_head hh e3]
                · exact e4 j (by simp; omega) h2
              · obtain ⟨_, hsm⟩ := hcon
                refine hn hn0 ⟨?_, fun j h1 h2 => hsm j (by simp at h1; omega) h2⟩
                have := hsm o.length (Nat.le_refl _) hlt
                rw [g1, g2] at this
                simp only [Option.map_some, Option.some.injEq] at this
                exact (obj_head this).2
            · rw [if_neg hh]
              refine ⟨fun s hs => by simp at hs, fun _ hcon => ?_⟩
              have := hcon.2 o.length (Nat.le_refl _) hlt
              rw [g1, g2] at this
              simp only [Option.map_some, Option.some.injEq] at this
              exact hh (obj_head this).1
      · have h4w : ¬ w.1 = 4 := hk ▸ h4
        rw [if_neg h4, visit_old h _ o v (fun hh => h4 hh.1), visit_old g _ p w (fun hh => h4w hh.1), tr_other h4, tr_other h4w]
        by_cases hv : v.2 = w.2
        · rw [if_pos hv]
          refine ⟨fun s hs => ?_, fun hn => by simp at hn⟩
          cases hs
          exact ⟨rfl, ht.len, Prod.ext hk hv, fun j h1 h2 => absurd h2 (Nat.not_lt.2 h1)⟩
        · rw [if_neg hv]
          exact ⟨fun s hs => by simp at hs, fun _ hh => hv (congrArg Prod.snd hh.1)⟩
    · rw [if_neg hk]
      exact ⟨fun s hs => by simp at hs, fun _ hh => hk (tr_eq_kind hh.1)⟩

theorem along_both {h g : Hp} {F G : List Nat} (f f2 : Nat) : ∀ (l m : List Vl) (o p : List Nat), Two h g F G f f2 o p → l.length = m.length → visits h f o l <+: F → visits g f2 p m <+: G →
    (∀ s, along (match1 h g f) (o, p) l m = some s → s = (visits h f o l, visits g f2 p m) ∧ s.1.length = s.2.length ∧ l.map (tr F) = m.map (tr G) ∧ Same h g F G o.length s.1.length) ∧
    (along (match1 h g f) (o, p) l m = none → ¬ (l.map (tr F) = m.map (tr G) ∧ Same h g F G o.length (visits h f o l).length)) := by
  intro l
  induction l with
  | nil =>
    intro m o p ht hlm _ _
    cases m with
    | cons b m => simp at hlm
    | nil =>
      refine ⟨fun s hs => ?_, fun hn => ?_⟩
      · cases hs
        exact ⟨rfl, ht.len, rfl, fun j h1 h2 => absurd h2 (Nat.not_lt.2 h1)⟩
      · exact absurd hn (by simp [along])
  | cons a l il =>
    intro m o p ht hlm hp hq
    cases m with
    | nil => simp at hlm
    | cons b m =>
      rw [visits_cons] at hp hq
      have hpa := (visits_prefix h f l _).trans hp
      have hqb := (visits_prefix g f2 m _).trans hq
      have hle1 := (visit_prefix h f o a).length_le
      have hle2 := (visit_prefix g f2 p b).length_le
      obtain ⟨hs1, hn1⟩ := match_both f f2 o p a b ht hpa hqb
      have hal : along (match1 h g f) (o, p) (a :: l) (b :: m) = (match1 h g f (o, p) a b).bind fun s => along (match1 h g f) s l m := rfl
      rw [hal]
      cases he : match1 h g f (o, p) a b with
      | none =>
        refine ⟨fun s hs => by simp at hs, fun _ hh => ?_⟩
        obtain ⟨ht1, ht2⟩ := hh
        rw [List.map_cons, List.map_cons] at ht1
        refine hn1 he ⟨(List.cons.inj ht1).1, fun j h1 h2 => ht2 j h1 ?_⟩
        rw [visits_cons]
        have := (visits_prefix h f l (visit h f o a)).length_le
        omega
      | some s1 =>
        obtain ⟨he1, hlen1, htr1, hsame1⟩ := hs1 s1 he
        subst he1
        have ht' : Two h g F G f f2 (visit h f o a) (visit g f2 p b) := ⟨hlen1, by have := ht.fu; omega, by have := ht.fv; omega, ht.gF, ht.gG⟩
        obtain ⟨hs2, hn2⟩ := il m _ _ ht' (by simpa using hlm) hp hq
        simp only [Option.bind_some]
        refine ⟨fun s hs => ?_, fun hn hh => ?_⟩
        · obtain ⟨e1, e2, e3, e4⟩ := hs2 s hs
          refine ⟨e1, e2, by rw [List.map_cons, List.map_cons, htr1, e3], fun j h1 h2 => ?_⟩
          by_cases hj : j < (visit h f o a).length
          · exact hsame1 j h1 hj
          · exact e4 j (by omega) h2
        · obtain ⟨ht1, ht2⟩ := hh
          rw [List.map_cons, List.map_cons] at ht1
          refine hn2 hn ⟨(List.cons.inj ht1).2, fun j h1 h2 => ht2 j (by omega) ?_⟩
          rw [visits_cons]
          exact h2

/-- ████ the two answers are the same -/
theorem alike_iff {h g : Hp} {v w : List Vl} (ha : asked h v = true) (hb : asked g w = true) (hlen : v.length = w.length) :
    (along (match1 h g (h.length + 1)) ([], []) v w).isSome = true ↔ (rHeap h v = rHeap g w ∧ rVals h v = rVals g w) := by
  have ht : Two h g (order h v) (order g w) (h.length + 1) (g.length + 1) [] [] := ⟨rfl, by simp, by simp, order_good ha, order_good hb⟩
  obtain ⟨hs, hn⟩ := along_both (h.length + 1) (g.length + 1) v w [] [] ht hlen List.prefix_rfl List.prefix_rfl
  constructor
  · intro hsome
    obtain ⟨s, hs0⟩ := Option.isSome_iff_exists.1 hsome
    obtain ⟨e1, e2, e3, e4⟩ := hs s hs0
    subst e1
    refine ⟨?_, e3⟩
    have e2' : (order h v).length = (order g w).length := e2
    unfold rHeap
    apply List.ext_getElem?
    intro j
    rw [List.getElem?_map, List.getElem?_map]
    by_cases hj : j < (order h v).length
    · exact e4 j (Nat.zero_le _) hj
    · rw [List.getElem?_eq_none (Nat.not_lt.1 hj), List.getElem?_eq_none (by omega)]
      rfl
  · rintro ⟨h1, h2⟩
    cases he : along (match1 h g (h.length + 1)) ([], []) v w with
    | some s => rfl
    | none =>
      exfalso
      refine hn he ⟨h2, fun j _ _ => ?_⟩
      unfold rHeap at h1
      have := congrArg (·[j]?) h1
      simp only [List.getElem?_map] at this
      exact this

theorem rVals_len {h g : Hp} {v w : List Vl} (he : rVals h v = rVals g w) : v.length = w.length := by
  have := congrArg List.length he
  unfold rVals at this
  simpa using this
end Go.Mn

namespace Go.Mn

/-- the partner of each place, or -1 -/
def toRow (n : Nat) (o p : List Nat) : List Int := (List.range n).map fun i => if i ∈ o then (((p[o.idxOf i]?).getD 0 : Nat) : Int) else -1

theorem toRow_len (n : Nat) (o p : List Nat) : (toRow n o p).length = n := by simp [toRow]
theorem toRow_get {n : Nat} {o p : List Nat} {i : Nat} (hi : i < n) : (toRow n o p)[i]? = some (if i ∈ o then (((p[o.idxOf i]?).getD 0 : Nat) : Int) else -1) := by
  unfold toRow
  rw [List.getElem?_map, List.getElem?_range hi]
  rfl
theorem toRow_nil (n : Nat) : toRow n [] [] = List.replicate n (-1) := by
  apply List.ext_getElem?
  intro i
  by_cases hi : i < n
  · rw [toRow_get hi, List.getElem?_replicate]
    simp [hi]
  · rw [List.getElem?_eq_none (by rw [toRow_len]; omega), List.getElem?_eq_none (by simp; omega)]
theorem toRow_set {n : Nat} {o p : List Nat} {i j : Nat} (hl : o.length = p.length) (hi : i ∉ o) : (toRow n o p).set i (j : Int) = toRow n (o ++ [i]) (p ++ [j]) := by
  apply List.ext_getElem?
  intro k
  by_cases hk : k < n
  · rw [toRow_get hk]
    by_cases he : i = k
    · subst he
      rw [List.getElem?_set_self (by rw [toRow_len]; exact hk)]
      have h1 : (o ++ [i]).idxOf i = o.length := by
        rw [List.idxOf_append, if_neg hi]
        simp
      rw [h1, hl]
      simp
    · rw [List.getElem?_set_ne he, toRow_get hk]
      by_cases hm : k ∈ o
      · have h1 : (o ++ [i]).idxOf k = o.idxOf k := by rw [List.idxOf_append, if_pos hm]
        have h2 : o.idxOf k < p.length := by rw [← hl]; exact List.idxOf_lt_length_of_mem hm
        rw [h1, List.getElem?_append_left h2]
        simp [hm]
      · have h2 : k ∉ o ++ [i] := by simp [hm, Ne.symm he]
        simp [hm, h2]
  · rw [List.getElem?_eq_none (by rw [List.length_set, toRow_len]; omega), List.getElem?_eq_none (by rw [toRow_len]; omega)]
/-- the partner is there just where the place is listed -/
theorem toRow_neg {n : Nat} {o p : List Nat} {i : Nat} (hi : i < n) {x : Int} (hx : (toRow n o p)[i]? = some x) : (0 ≤ x ↔ i ∈ o) := by
  rw [toRow_get hi, Option.some.injEq] at hx
  subst hx
  split
  · rename_i h; simp [h]
  · rename_i h; simp [h]
theorem partner {n m : Nat} {o p : List Nat} (hl : o.length = p.length) (_ho : o.Nodup) (hp : p.Nodup) {i j : Nat} (hi : i < n) (hj : j < m) {x y : Int} (hx : (toRow n o p)[i]? = some x) (hy : (toRow m p o)[j]? = some y) :
    (x = (j : Int) ∧ y = (i : Int)) ↔ (i ∈ o ∧ j ∈ p ∧ o.idxOf i = p.idxOf j) := by
  rw [toRow_get hi, Option.some.injEq] at hx
  rw [toRow_get hj, Option.some.injEq] at hy
  constructor
  · rintro ⟨rfl, rfl⟩
    have hio : i ∈ o := by
      by_cases h : i ∈ o
      · exact h
      · rw [if_neg h] at hx; omega
    have hjp : j ∈ p := by
      by_cases h : j ∈ p
      · exact h
      · rw [if_neg h] at hy; omega
    rw [if_pos hio] at hx
    have h1 : o.idxOf i < p.length := by rw [← hl]; exact List.idxOf_lt_length_of_mem hio
    rw [List.getElem?_eq_getElem h1] at hx
    simp only [Option.getD_some] at hx
    have h2 : p[o.idxOf i] = j := by omega
    refine ⟨hio, hjp, ?_⟩
    have := hp.idxOf_getElem _ h1
    rw [h2] at this
    exact this.symm
  · rintro ⟨hio, hjp, he⟩
    rw [if_pos hio] at hx
    rw [if_pos hjp] at hy
    have h1 : p.idxOf j < p.length := List.idxOf_lt_length_of_mem hjp
    have h2 : o.idxOf i < o.length := List.idxOf_lt_length_of_mem hio
    rw [he, List.getElem?_eq_getElem h1] at hx
    rw [← he, List.getElem?_eq_getElem h2] at hy
    simp only [Option.getD_some, List.getElem_idxOf] at hx hy
    exact ⟨hx.symm, hy.symm⟩
end Go.Mn
