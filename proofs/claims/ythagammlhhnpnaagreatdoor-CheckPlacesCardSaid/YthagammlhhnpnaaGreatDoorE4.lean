/-
  The evaluator, part 5 of 6: a program of the model is run by the kernel, piece by piece, and what it computes is proved of the run itself. No condition.
-/
import Derived.Orders
import Derived.RangeFuncNested
import Derived.RangeFuncLeaves
import Derived.Test.YthagammlhhnpnaaGreatDoorE3
set_option linter.unusedVariables false
set_option linter.unusedSimpArgs false
/-
  Every order of a drawn region comes to the same: what holds between two operations.
-/
namespace Go.Proofs.YthagammlhhnpnaaGreatDoor.Ev

theorem at_more (σ : St) (ob : Ob) (hlt : σ.next < 2 ^ dh) (i : Nat) (hi : i < 2 ^ dh) : (σ.more ob).at i = if i = σ.next then ob else σ.at i :=
  St.at_put σ σ.next i ob hlt hi

theorem OR.cut {e : Env} {n n' : Nat} {ob : Ob} {i : Nat} {o : Obj} (h : OR e ob i o) (hb : obBd n ob = true) (hn : n ≤ n') : OR (e.cut n') ob i o := by
  cases ob <;> first | (cases hb; done) | skip
  · rename_i ty vs sp fz
    obtain ⟨c, fr, pre, post, h1, h2, h3, h4, h5⟩ := h
    refine ⟨c, fr, pre, post, h1, h2, ?_, h4, h5⟩
    have key : ∀ l : List V, (∀ x ∈ l, V.bd n x = true) → V.bds n l = true := by
      intro l
      induction l with
      | nil => intro _; rfl
      | cons v l ih =>
        intro hl
        simp only [V.bds, Bool.and_eq_true]
        exact ⟨hl v (by simp), ih fun x hx => hl x (by simp [hx])⟩
    have hbs : V.bds n vs = true := key vs fun x hx => allL_spec (l := vs) hb x hx
    exact VRs.mono (Env.cut_mono (.refl e) hn) _ _ (VRs.cut _ _ hbs h3)
  · rename_i es clock
    cases es with
    | cons _ _ => cases hb
    | nil =>
      obtain ⟨xs, h1, h2⟩ := h
      refine ⟨xs, h1, ?_⟩
      cases hx : xs.toList with
      | nil => trivial
      | cons _ _ => rw [hx] at h2; exact h2.elim

section
variable {ng base : Nat}

/-- a quiet allocation that was not made yet -/
theorem Rel.moreOut {e : Env} {σ : St} {w : World} (h : Rel ng base (e.cut σ.next) σ w) (hlt : σ.next < 2 ^ dh) (ob : Ob) (hn : ¬ e.M σ.next) : Rel ng base (e.cut (σ.more ob).next) (σ.more ob) w := by
  have hM : ∀ i, (e.cut (σ.next + 1)).M i → (e.cut σ.next).M i := fun i hi => ⟨hi.1, by
    have h2 := hi.2
    rcases Nat.lt_or_ge i σ.next with h' | h'
    · exact h'
    · have : i = σ.next := by omega
      rw [this] at hi; exact absurd hi.1 hn⟩
  have hat : ∀ i, (e.cut (σ.next + 1)).M i → (σ.more ob).at i = σ.at i := fun i hi => by
    rw [at_more σ ob hlt i (h.ltM (hM i hi)), if_neg (Nat.ne_of_lt (hM i hi).2)]
  refine ⟨hlt, fun i hi => hi.2, fun i hi => h.there i (hM i hi), fun i hi hno => ?_, fun i j hi hj hni hnj => ?_, fun i hi => h.own i (hM i hi), ?_⟩
  · rw [hat i hi] at hno ⊢
    obtain ⟨o, h1, h2⟩ := h.obj i (hM i hi) hno
    exact ⟨o, h1, h2.mono (Env.cut_mono (.refl e) (Nat.le_succ _)) (hM i hi)⟩
  · rw [hat i hi] at hni
    rw [hat j hj] at hnj
    exact h.inj i j (hM i hi) (hM j hj) hni hnj
  · exact (AExt.more h.awf hlt ob).1.fresh

/-- .. and one that was made ahead -/
theorem Rel.moreIn {e : Env} {σ : St} {w : World} (h : Rel ng base (e.cut σ.next) σ w) (hlt : σ.next < 2 ^ dh) (ob : Ob) {o : Obj} (hb : base ≤ e.blk σ.next) (ho : w.heap[e.blk σ.next]? = some o) (hor : OR (e.cut (σ.next + 1)) ob σ.next o)
    (hap : ∀ i, (e.cut σ.next).M i → (σ.at i).isNo = false → e.blk i ≠ e.blk σ.next) : Rel ng base (e.cut (σ.more ob).next) (σ.more ob) w := by
  have hM : ∀ i, (e.cut (σ.next + 1)).M i → i ≠ σ.next → (e.cut σ.next).M i := fun i hi hne => ⟨hi.1, by have h2 := hi.2; show i < σ.next; omega⟩
  have hlt2 : ∀ i, (e.cut (σ.next + 1)).M i → i < 2 ^ dh := fun i hi => by
    by_cases he : i = σ.next
    · rw [he]; exact hlt
    · exact h.ltM (hM i hi he)
  refine ⟨hlt, fun i hi => hi.2, fun i hi => ?_, fun i hi hno => ?_, fun i j hi hj hni hnj he => ?_, fun i hi hg => ?_, ?_⟩
  · by_cases he : i = σ.next
    · rw [he]; exact (Array.getElem?_eq_some_iff.1 ho).1
    · exact h.there i (hM i hi he)
  · rw [at_more σ ob hlt i (hlt2 i hi)] at hno ⊢
    by_cases he : i = σ.next
    · rw [if_pos he, he]
      exact ⟨o, ho, hor⟩
    · rw [if_neg he] at hno ⊢
      obtain ⟨x, h1, h2⟩ := h.obj i (hM i hi he) hno
      exact ⟨x, h1, h2.mono (Env.cut_mono (.refl e) (Nat.le_succ _)) (hM i hi he)⟩
  · rw [at_more σ ob hlt i (hlt2 i hi)] at hni
    rw [at_more σ ob hlt j (hlt2 j hj)] at hnj
    by_cases hei : i = σ.next
    · by_cases hej : j = σ.next
      · omega
      · rw [if_neg hej] at hnj
        exact absurd (hei ▸ he).symm (hap j (hM j hj hej) hnj)
    · rw [if_neg hei] at hni
      by_cases hej : j = σ.next
      · exact absurd (hej ▸ he) (hap i (hM i hi hei) hni)
      · rw [if_neg hej] at hnj
        exact h.inj i j (hM i hi hei) (hM j hj hej) hni hnj he
  · by_cases he : i = σ.next
    · rw [he]; exact hb
    · exact h.own i (hM i hi he) hg
  · exact (AExt.more h.awf hlt ob).1.fresh
end

section
variable {P : Program} {ng base : Nat} {tab : Tab P} {fr : Fr} {L : List Oper} {N : Nat} {R : Nat → Tr} {tm : Nat → T V} {ds : Nat → List ADef} {u : Nat → U} {σ : Nat → St}

theorem Rec.sig (hR : Rec P ng tab fr L N R tm ds u σ) {i : Nat} (hi : i < N) : (R i).σ = σ i := (hR.idx i hi).2.2.2.2
theorem Rec.aext (hR : Rec P ng tab fr L N R tm ds u σ) {i : Nat} (hi : i < N) : AExt (σ i) (σ (i + 1)) := by
  have := (hR.step i hi).aext
  rwa [hR.sig hi] at this
theorem Rec.next (hR : Rec P ng tab fr L N R tm ds u σ) {i : Nat} : ∀ {j : Nat}, i ≤ j → j ≤ N → (σ i).next ≤ (σ j).next := by
  intro j
  induction j with
  | zero => intro h _; have : i = 0 := by omega
            rw [this]; exact Nat.le_refl _
  | succ j ih =>
    intro h hN
    rcases Nat.lt_or_ge i (j + 1) with h1 | h1
    · exact Nat.le_trans (ih (by omega) (by omega)) (hR.aext (by omega)).next
    · have : i = j + 1 := by omega
      rw [this]; exact Nat.le_refl _

/-- a step that is not ordered leaves what is, and the deferred calls -/
theorem Rec.calm (hR : Rec P ng tab fr L N R tm ds u σ) {i : Nat} (hi : i < N) (hne : ¬ (R i).isEff) : ds (i + 1) = ds i ∧ u (i + 1) = u i ∧ (σ (i + 1) = σ i ∨ ∃ ob, (R i).kd = .new ob ∧ (σ i).next < 2 ^ dh ∧ obBd (σ i).next ob = true ∧ ob.isNo = false ∧ σ (i + 1) = (σ i).more ob) := by
  obtain ⟨_, _, e3, e4, e5⟩ := hR.idx i hi
  obtain ⟨_, _, _, _, _, h6⟩ := hR.step i hi
  cases hk : (R i).kd <;> rw [hk] at h6 <;> simp only at h6
  · obtain ⟨_, _, h1, h2, h3⟩ := h6; exact ⟨h1.trans e3, h2.trans e4, .inl (h3.trans e5)⟩
  · obtain ⟨_, _, _, h1, h2, h3⟩ := h6; exact ⟨h1.trans e3, h2.trans e4, .inl (h3.trans e5)⟩
  · obtain ⟨_, _, _, h1, h2, h3⟩ := h6; exact ⟨h1.trans e3, h2.trans e4, .inl (h3.trans e5)⟩
  · obtain ⟨_, _, ⟨mk, hm, _⟩, hb, hlt, h1, h2, h3⟩ := h6
    rw [e5] at hb hlt h3
    exact ⟨h1.trans e3, h2.trans e4, .inr ⟨_, rfl, hlt, hb, hm.1, h3⟩⟩
  · exact absurd ⟨_, hk⟩ hne

structure Inv (P : Program) (ng base : Nat) (fr : Fr) (b : Frame) (N : Nat) (R : Nat → Tr) (tm : Nat → T V) (ds : Nat → List ADef) (u : Nat → U) (σ : Nat → St) (e0 : Env) (w0 : World) (cs0 : List Frame)
    (S : List Nat) (m : Nat) (e : Env) (a : Act) (cs : List Frame) (w : World) : Prop where
  mN : m ≤ N
  eff : ∀ p, p < N → (R p).isEff → (p ∈ S ↔ p < m)
  room : base ≤ w.heap.size
  main : Rel ng base (e.cut (σ m).next) (σ m) w
  glob : GE ng (e.cut (σ m).next)
  bf : BR (e.cut (σ m).next) fr b
  dl : DRs (e.cut (σ m).next) (ds m) a.defers
  ks : KS (e.cut (σ m).next) fr (u m) cs0 cs
  le0 : e0.le e
  ids : ∀ i, e.M i → e0.M i ∨ ∃ q, q < N ∧ q ∈ S ∧ (σ q).next ≤ i ∧ i < (σ (q + 1)).next
  early : ∀ q, q < N → q ∈ S → m ≤ q → ∀ ob, (R q).kd = .new ob → e.M (σ q).next ∧ base ≤ e.blk (σ q).next ∧ w0.heap.size ≤ e.blk (σ q).next ∧ (∃ o, w.heap[e.blk (σ q).next]? = some o ∧ OR e ob (σ q).next o) ∧
    (∀ i, (e.cut (σ m).next).M i → ((σ m).at i).isNo = false → e.blk i ≠ e.blk (σ q).next) ∧ ∀ q', q' < N → q' ∈ S → m ≤ q' → ∀ ob', (R q').kd = .new ob' → q' ≠ q → e.blk (σ q').next ≠ e.blk (σ q).next
  vals : ∀ q, q < N → q ∈ S → ∀ d, (R q).o.dst = some d → VR e (R q).v (a.tmps.getD d undef)
  rest : ∀ t, t < 2 ^ dt → (∀ q, q < N → q ∈ S → (R q).o.dst ≠ some t) → VR e (tget (tm 0) t) (a.tmps.getD t undef)
  size : a.tmps.size = fr.nt
  wsize : w0.heap.size ≤ w.heap.size
  kept : ∀ bl, bl < w0.heap.size → (∀ i, e0.M i → ((σ 0).at i).isNo = false → ng ≤ i → e0.blk i ≠ bl) → w.heap[bl]? = w0.heap[bl]?
  orig : ∀ i, (e.cut (σ m).next).M i → ((σ m).at i).isNo = false → ng ≤ i → e.blk i < w0.heap.size → ∃ j, e0.M j ∧ ((σ 0).at j).isNo = false ∧ ng ≤ j ∧ e0.blk j = e.blk i
  os : w.os = w0.os
  output : w.output = w0.output
  tape : w.tape = w0.tape

variable {b : Frame} {e0 : Env} {w0 : World} {cs0 : List Frame} {S : List Nat} {m : Nat} {e : Env} {a : Act} {cs : List Frame} {w : World}

/-- ids of a step that has not run are not known -/
theorem Inv.unknown (h : Inv P ng base fr b N R tm ds u σ e0 w0 cs0 S m e a cs w) (hR : Rec P ng tab fr L N R tm ds u σ) (h0 : ∀ i, e0.M i → i < (σ 0).next) {p : Nat} (hp : p < N) (hS : p ∉ S) {i : Nat} (h1 : (σ p).next ≤ i) (h2 : i < (σ (p + 1)).next) : ¬ e.M i := by
  intro hm
  rcases h.ids i hm with h3 | ⟨q, q1, q2, q3, q4⟩
  · have := h0 i h3
    have := hR.next (i := 0) (j := p) (Nat.zero_le _) (by omega)
    omega
  · rcases Nat.lt_trichotomy q p with hlt | heq | hgt
    · have := hR.next (i := q + 1) (j := p) (by omega) (by omega); omega
    · rw [heq] at q2; exact hS q2
    · have := hR.next (i := p + 1) (j := q) (by omega) (by omega); omega

/-- past a step that is not ordered, whether it has run or not -/
theorem Inv.shift (h : Inv P ng base fr b N R tm ds u σ e0 w0 cs0 S m e a cs w) (hR : Rec P ng tab fr L N R tm ds u σ) (h0 : ∀ i, e0.M i → i < (σ 0).next) (hm : m < N) (hne : ¬ (R m).isEff) : Inv P ng base fr b N R tm ds u σ e0 w0 cs0 S (m + 1) e a cs w := by
  obtain ⟨c1, c2, c3⟩ := hR.calm hm hne
  have heff : ∀ p, p < N → (R p).isEff → (p ∈ S ↔ p < m + 1) := fun p hp he => by
    rw [h.eff p hp he]
    constructor
    · intro h'; omega
    · intro h'
      rcases Nat.lt_or_ge p m with h2 | h2
      · exact h2
      · have : p = m := by omega
        rw [this] at he; exact absurd he hne
  rcases c3 with c3 | ⟨ob, k1, k2, k3, k4, k5⟩
  · exact ⟨hm, heff, h.room, by rw [c3]; exact h.main, by rw [c3]; exact h.glob, by rw [c3]; exact h.bf, by rw [c3, c1]; exact h.dl, by rw [c3, c2]; exact h.ks, h.le0, h.ids,
      fun q q1 q2 q3 ob hk => by
        obtain ⟨g1, g2, g3, g4, g5, g6⟩ := h.early q q1 q2 (by omega) ob hk
        exact ⟨g1, g2, g3, g4, by rw [c3]; exact g5, fun q' p1 p2 p3 => g6 q' p1 p2 (by omega)⟩,
      h.vals, h.rest, h.size, h.wsize, h.kept, by rw [c3]; exact h.orig, h.os, h.output, h.tape⟩
  · have hnx : (σ (m + 1)).next = (σ m).next + 1 := by rw [k5]; rfl
    have hcle : (e.cut (σ m).next).le (e.cut (σ (m + 1)).next) := Env.cut_mono (.refl e) (by omega)
    have hmain : Rel ng base (e.cut (σ (m + 1)).next) (σ (m + 1)) w := by
      rw [k5]
      by_cases hS : m ∈ S
      · obtain ⟨_, g2, _, ⟨o, g4, g5⟩, g6, _⟩ := h.early m hm hS (Nat.le_refl _) ob k1
        exact Rel.moreIn h.main k2 ob g2 g4 (g5.cut k3 (Nat.le_succ _)) g6
      · exact Rel.moreOut h.main k2 ob (h.unknown hR h0 hm hS (Nat.le_refl _) (by omega))
    have hat : ∀ i, (e.cut (σ (m + 1)).next).M i → (σ (m + 1)).at i = if i = (σ m).next then ob else (σ m).at i := fun i hi => by
      rw [k5]; exact at_more _ ob k2 i (hmain.ltM hi)
    have hcM : ∀ i, (e.cut (σ (m + 1)).next).M i → i ≠ (σ m).next → (e.cut (σ m).next).M i := fun i hi hn => ⟨hi.1, by have := hi.2; omega⟩
    refine ⟨hm, heff, h.room, hmain, h.glob.mono hcle, h.bf.mono hcle, by rw [c1]; exact h.dl.mono hcle, ?_, h.le0, h.ids, ?_, h.vals, h.rest, h.size, h.wsize, h.kept, ?_, h.os, h.output, h.tape⟩
    · rw [c2]
      refine ⟨h.ks.1, fun hd => ?_⟩
      obtain ⟨c, r, mo, x1, x2, x3⟩ := h.ks.2 hd
      exact ⟨c, r, mo, x1, x2, x3.mono hcle⟩
    · intro q q1 q2 q3 ob' hk
      obtain ⟨g1, g2, g3, g4, g5, g6⟩ := h.early q q1 q2 (by omega) ob' hk
      refine ⟨g1, g2, g3, g4, fun i hi hno => ?_, fun q' p1 p2 p3 => g6 q' p1 p2 (by omega)⟩
      rw [hat i hi] at hno
      by_cases hid : i = (σ m).next
      · by_cases hS : m ∈ S
        · rw [hid]
          exact g6 m hm hS (Nat.le_refl _) ob k1 (by omega)
        · rw [hid] at hi
          exact absurd hi.1 (h.unknown hR h0 hm hS (Nat.le_refl _) (by omega))
      · rw [if_neg hid] at hno
        exact g5 i (hcM i hi hid) hno
    · intro i hi hno hg hlt
      rw [hat i hi] at hno
      by_cases hid : i = (σ m).next
      · by_cases hS : m ∈ S
        · obtain ⟨_, _, g3, _⟩ := h.early m hm hS (Nat.le_refl _) ob k1
          rw [hid] at hlt; omega
        · rw [hid] at hi
          exact absurd hi.1 (h.unknown hR h0 hm hS (Nat.le_refl _) (by omega))
      · rw [if_neg hid] at hno
        exact h.orig i (hcM i hi hid) hno hg hlt

theorem Inv.shifts (hR : Rec P ng tab fr L N R tm ds u σ) (h0 : ∀ i, e0.M i → i < (σ 0).next) : ∀ (d : Nat) {m : Nat}, Inv P ng base fr b N R tm ds u σ e0 w0 cs0 S m e a cs w → m + d ≤ N → (∀ k, m ≤ k → k < m + d → ¬ (R k).isEff) → Inv P ng base fr b N R tm ds u σ e0 w0 cs0 S (m + d) e a cs w
  | 0, _, h, _, _ => h
  | d + 1, m, h, hN, hn => by
    have h1 := h.shift hR h0 (by omega) (hn m (Nat.le_refl _) (by omega))
    have h2 := Inv.shifts hR h0 d h1 (by omega) (fun k k1 k2 => hn k (by omega) (by omega))
    have : m + 1 + d = m + (d + 1) := by omega
    rwa [this] at h2
end
end Go.Proofs.YthagammlhhnpnaaGreatDoor.Ev

/-
  Every order of a drawn region comes to the same: operations without memory, and readings.
-/
namespace Go.Proofs.YthagammlhhnpnaaGreatDoor.Ev
section
variable {P : Program} {ng base : Nat} {tab : Tab P} {fr : Fr} {ops : Array Oper} {N : Nat} {R : Nat → Tr} {tm : Nat → T V} {ds : Nat → List ADef} {u : Nat → U} {σ : Nat → St}

/-- a set of operations that holds all on which its members hang -/
def Cl (ops : Array Oper) (S : List Nat) : Prop := ∀ i ∈ S, ∀ o, ops[i]? = some o → ∀ e ∈ o.after, Region.binds .any e = true → e.on ∈ S
def Pre (ops : Array Oper) (S : List Nat) (i : Nat) : Prop := ∀ o, ops[i]? = some o → ∀ e ∈ o.after, Region.binds .any e = true → e.on ∈ S

theorem Rec.oper (hR : Rec P ng tab fr ops.toList N R tm ds u σ) {i : Nat} (hi : i < N) : ops[i]? = some (R i).o := by
  have := (hR.step i hi).1
  rw [(hR.idx i hi).1, Array.getElem?_toList] at this
  exact this

theorem Rec.tget (hR : Rec P ng tab fr ops.toList N R tm ds u σ) {t : Nat} (ht : t < 2 ^ dt) : ∀ {i : Nat}, i ≤ N → (∃ j, j < i ∧ (R j).o.dst = some t ∧ tget (tm i) t = (R j).v) ∨ ((∀ j, j < i → (R j).o.dst ≠ some t) ∧ tget (tm i) t = tget (tm 0) t) := by
  intro i
  induction i with
  | zero => intro _; exact .inr ⟨by simp, rfl⟩
  | succ i ih =>
    intro hi
    obtain ⟨_, h2, h3, _⟩ := hR.step i (by omega)
    rw [(hR.idx i (by omega)).2.1] at h2
    cases hd : (R i).o.dst with
    | none =>
      rw [hd] at h2
      have h2' : tm (i + 1) = tm i := h2
      rw [h2']
      rcases ih (by omega) with ⟨j, j1, j2, j3⟩ | ⟨j1, j2⟩
      · exact .inl ⟨j, by omega, j2, j3⟩
      · refine .inr ⟨fun j hj => ?_, j2⟩
        rcases Nat.lt_or_ge j i with h | h
        · exact j1 j h
        · have : j = i := by omega
          rw [this, hd]; simp
    | some d =>
      obtain ⟨_, hd2⟩ := h3 d hd
      rw [hd] at h2
      have hg : Ev.tget (tm (i + 1)) t = if t = d then (R i).v else Ev.tget (tm i) t := by
        rw [h2]
        exact T.get_set _ _ _ _ _ _ hd2 ht
      rw [hg]
      by_cases he : t = d
      · rw [if_pos he]
        exact .inl ⟨i, Nat.lt_succ_self _, by rw [hd, he], rfl⟩
      · rw [if_neg he]
        rcases ih (by omega) with ⟨j, j1, j2, j3⟩ | ⟨j1, j2⟩
        · exact .inl ⟨j, by omega, j2, j3⟩
        · refine .inr ⟨fun j hj => ?_, j2⟩
          rcases Nat.lt_or_ge j i with h | h
          · exact j1 j h
          · have : j = i := by omega
            rw [this, hd]
            simp only [ne_eq, Option.some.injEq]
            exact fun h => he h.symm

variable {b : Frame} {e0 : Env} {w0 : World} {cs0 : List Frame} {S : List Nat} {m : Nat} {e : Env} {a : Act} {cs : List Frame} {w : World}

/-- what the i-th operation looks at is as in the run in text order -/
theorem Inv.tmp (h : Inv P ng base fr b N R tm ds u σ e0 w0 cs0 S m e a cs w) (hR : Rec P ng tab fr ops.toList N R tm ds u σ) (hst : staticB ops.toList = true) (hcl : Cl ops S) {i : Nat} {o : Oper} (hi : i ≤ N) (ho : ops[i]? = some o) (hS : i ∉ S) (hpre : Pre ops S i)
    {t : Nat} (ht : t < 2 ^ dt) (hl : t ∈ looksA ops.toList o) : VR e (Ev.tget (tm i) t) (a.tmps.getD t undef) := by
  have hoL : ops.toList[i]? = some o := by rw [Array.getElem?_toList]; exact ho
  rcases hR.tget ht hi with ⟨j, j1, j2, j3⟩ | ⟨j1, j2⟩
  · rw [j3]
    have hjN : j < N := by omega
    have hjL : ops.toList[j]? = some (R j).o := by rw [Array.getElem?_toList]; exact hR.oper hjN
    have hdir := (staticB_pair hst hoL hjL j1).2.1 t j2 hl
    have hjS : j ∈ S := goB_in hcl 5 o j (hpre o ho) hdir
    exact h.vals j hjN hjS t j2
  · rw [j2]
    refine h.rest t ht fun q q1 q2 q3 => ?_
    rcases Nat.lt_trichotomy q i with hlt | heq | hgt
    · exact j1 q hlt q3
    · rw [heq] at q2; exact hS q2
    · have hqL : ops.toList[q]? = some (R q).o := by rw [Array.getElem?_toList]; exact hR.oper q1
      have hdir := (staticB_pair hst hqL hoL hgt).2.2 t q3 hl
      exact hS (goB_in hcl 5 _ _ (hcl q q2 _ (hR.oper q1)) hdir)

theorem Inv.operand (h : Inv P ng base fr b N R tm ds u σ e0 w0 cs0 S m e a cs w) (hR : Rec P ng tab fr ops.toList N R tm ds u σ) (hst : staticB ops.toList = true) (hcl : Cl ops S) {i : Nat} {o : Oper} (hi : i ≤ N) (ho : ops[i]? = some o) (hS : i ∉ S) (hpre : Pre ops S i) :
    ∀ x, VR e (restr o (evalA ng (tm i)) x) (a.eval x) := by
  intro x
  unfold restr
  split
  · rename_i hx
    cases x with
    | tmp t =>
      simp only [evalA, cond_eq_ite]
      split
      · rename_i hlt
        exact h.tmp hR hst hcl hi ho hS hpre (blt_lt hlt) (List.mem_append_left _ (List.mem_filterMap.2 ⟨.tmp t, by simpa using hx, rfl⟩))
      · simp only [VR]
    | const v => exact ofV_sound e 8 v
    | global g =>
      simp only [evalA, cond_eq_ite]
      split
      · rename_i hlt
        obtain ⟨h1, h2⟩ := h.glob g (blt_lt hlt)
        simp only [VR]
        exact ⟨h1.1, by rw [show e.blk g = g from h2]; rfl⟩
      · simp only [VR]
    | func f =>
      simp only [evalA, VR]
      exact ⟨by simp, #[], #[], rfl, VRs.nil, VRs.nil⟩
  · simp only [VR]

theorem Inv.wants (h : Inv P ng base fr b N R tm ds u σ e0 w0 cs0 S m e a cs w) (hR : Rec P ng tab fr ops.toList N R tm ds u σ) (hst : staticB ops.toList = true) (hcl : Cl ops S) {i : Nat} {o : Oper} (hi : i ≤ N) (ho : ops[i]? = some o) (hS : i ∉ S) (hpre : Pre ops S i) {r : Bool}
    (hw : wantA ops.toList (tm i) o = some r) : Region.wanted o (yielded ops a.tmps) = r := by
  refine wantA_sound (e := e) hw (fun d hd hlt => ?_) h.size
  obtain ⟨j, oj, want, g1, g2, g3⟩ := hd
  refine h.tmp hR hst hcl hi ho hS hpre hlt (List.mem_append_right _ ?_)
  unfold gdTmp
  rw [g1]
  simp only [lget_eq, Array.getElem?_toList, g2, g3]
  simp

/-- an operation more, that leaves the world as it is -/
theorem Inv.still (h : Inv P ng base fr b N R tm ds u σ e0 w0 cs0 S m e a cs w) (hR : Rec P ng tab fr ops.toList N R tm ds u σ) (hst : staticB ops.toList = true) {i : Nat} (hi : i < N) (hS : i ∉ S) (hne : ¬ (R i).isEff) (hnn : ∀ ob, (R i).kd ≠ .new ob) {z : Value} (hz : VR e (R i).v z) :
    Inv P ng base fr b N R tm ds u σ e0 w0 cs0 (i :: S) m e (a.put (R i).o.dst z) cs w := by
  have hdl : (a.put (R i).o.dst z).defers = a.defers := by cases (R i).o.dst <;> rfl
  obtain ⟨_, _, hd, _⟩ := hR.step i hi
  refine ⟨h.mN, fun p hp he => ?_, h.room, h.main, h.glob, h.bf, by rw [hdl]; exact h.dl, h.ks, h.le0, fun x hx => ?_, fun q q1 q2 q3 ob hk => ?_, fun q q1 q2 d hq => ?_, fun t ht hn => ?_, ?_, h.wsize, h.kept, h.orig, h.os, h.output, h.tape⟩
  · rw [← h.eff p hp he]
    constructor
    · intro hm
      rcases List.mem_cons.1 hm with rfl | hm
      · exact absurd he hne
      · exact hm
    · exact List.mem_cons_of_mem _
  · rcases h.ids x hx with h1 | ⟨q, q1, q2, q3⟩
    · exact .inl h1
    · exact .inr ⟨q, q1, List.mem_cons_of_mem _ q2, q3⟩
  · rcases List.mem_cons.1 q2 with rfl | q2
    · exact absurd hk (hnn ob)
    · obtain ⟨g1, g2, g3, g4, g5, g6⟩ := h.early q q1 q2 q3 ob hk
      refine ⟨g1, g2, g3, g4, g5, fun q' p1 p2 p3 ob' hk' hne' => ?_⟩
      rcases List.mem_cons.1 p2 with rfl | p2
      · exact absurd hk' (hnn ob')
      · exact g6 q' p1 p2 p3 ob' hk' hne'
  · rcases List.mem_cons.1 q2 with rfl | q2
    · have hlt : d < a.tmps.size := by rw [h.size]; exact (hd d hq).1
      simp only [Act.put, hq]
      have : (a.tmps.setIfInBounds d z).getD d undef = z := by simp [Array.getD, hlt]
      rw [this]; exact hz
    · have hv := h.vals q q1 q2 d hq
      have hdd : ∀ d', (R i).o.dst = some d' → d' ≠ d := by
        intro d' hd' heq
        have hiL : ops.toList[i]? = some (R i).o := by rw [Array.getElem?_toList]; exact hR.oper hi
        have hqL : ops.toList[q]? = some (R q).o := by rw [Array.getElem?_toList]; exact hR.oper q1
        rcases Nat.lt_trichotomy i q with hlt | he | hgt
        · exact (staticB_pair hst hqL hiL hlt).1 d d' hq hd' heq.symm
        · rw [he] at hS; exact hS q2
        · exact (staticB_pair hst hiL hqL hgt).1 d' d hd' hq heq
      cases hdi : (R i).o.dst with
      | none => exact hv
      | some d' =>
        have : (a.tmps.setIfInBounds d' z).getD d undef = a.tmps.getD d undef := by
          simp only [Array.getD_eq_getD_getElem?, Array.getElem?_setIfInBounds_ne (hdd d' hdi)]
        simp only [Act.put]
        rw [this]; exact hv
  · have hr := h.rest t ht fun q q1 q2 => hn q q1 (List.mem_cons_of_mem _ q2)
    have hdi := hn i hi (by simp)
    cases hd2 : (R i).o.dst with
    | none => exact hr
    | some d' =>
      rw [hd2] at hdi
      have hne' : d' ≠ t := fun he => hdi (by rw [he])
      have : (a.tmps.setIfInBounds d' z).getD t undef = a.tmps.getD t undef := by
        simp only [Array.getD_eq_getD_getElem?, Array.getElem?_setIfInBounds_ne hne']
      simp only [Act.put]
      rw [this]; exact hr
  · cases (R i).o.dst <;> simp [Act.put, h.size]

/-- looks between two points of the run in text order -/
theorem Rec.look (hR : Rec P ng tab fr ops.toList N R tm ds u σ) {x n : Nat} {lo : Nat} (hlo : x < (σ lo).next) : ∀ (d : Nat), lo + d ≤ N → (∀ k, lo ≤ k → k < lo + d → ∀ log, (R k).kd = .eff log → Clear log x n) → ((σ (lo + d)).at x).look n = ((σ lo).at x).look n
  | 0, _, _ => rfl
  | d + 1, hN, hc => by
    have ih := Rec.look hR hlo d (by omega) fun k k1 k2 => hc k k1 (by omega)
    rw [← ih]
    have hk : lo + d < N := by omega
    have hx : x < (σ (lo + d)).next := Nat.lt_of_lt_of_le hlo (hR.next (Nat.le_add_right _ _) (by omega))
    by_cases he : (R (lo + d)).isEff
    · obtain ⟨log, hlog⟩ := he
      have hcl := hc (lo + d) (Nat.le_add_right _ _) (by omega) log hlog
      obtain ⟨_, _, _, _, _, h6⟩ := hR.step (lo + d) hk
      rw [hlog] at h6
      simp only at h6
      obtain ⟨_, _, σ1, g1, g2, g3, _⟩ := h6
      have hat : (σ (lo + (d + 1))).at x = σ1.at x := by
        have : lo + (d + 1) = lo + d + 1 := by omega
        rw [this, g1]; rfl
      rw [hat]
      have := g3.looks x n (by rw [hR.sig hk]; exact hx) (by rw [g2]; exact hcl)
      rw [hR.sig hk] at this
      exact this
    · have heq : lo + (d + 1) = lo + d + 1 := by omega
      rw [heq]
      obtain ⟨_, _, h3⟩ := hR.calm hk he
      rcases h3 with h3 | ⟨ob, _, hlt, _, _, h3⟩
      · rw [h3]
      · rw [h3, at_more _ ob hlt x (by omega), if_neg (by omega)]

theorem ClearC.clear {log : List (Nat × Nat × Nat)} {b x n k : Nat} (h : ClearC log b x n) (h1 : x ≤ k) (h2 : k < x + n) : Clear log b k := by
  intro p hp he hc
  rcases h p hp he with h | h <;> omega

/-- a reading reads now what it read in the run in text order -/
theorem Inv.loads (h : Inv P ng base fr b N R tm ds u σ e0 w0 cs0 S m e a cs w) (hR : Rec P ng tab fr ops.toList N R tm ds u σ) (h0 : ∀ i, e0.M i → i < (σ 0).next) (hst : staticB ops.toList = true) (hcl : Cl ops S) {i : Nat} (hi : i < N) (hS : i ∉ S) (hpre : Pre ops S i)
    {bl x n : Nat} (hk : (R i).kd = .load bl x n) : ∃ z, VR e (R i).v z ∧ (execOp a.eval (R i).o).run P w = .ok (.value z) w := by
  obtain ⟨e1, e2, _, _, e5⟩ := hR.idx i hi
  obtain ⟨_, _, _, _, _, h6⟩ := hR.step i hi
  rw [hk] at h6
  simp only at h6
  obtain ⟨_, ⟨t, y, hop, hld, hat⟩, hbl, _⟩ := h6
  rw [e2, e5] at hld
  rw [e2] at hat
  rw [e5] at hbl
  have ho := hR.oper hi
  have hY := h.operand hR hst hcl (Nat.le_of_lt hi) ho hS hpre y
  have hyy : restr (R i).o (evalA ng (tm i)) y = evalA ng (tm i) y := by
    rw [← restr_eq]
    rw [hop]; simp [Op.operands]
  rw [hyy] at hY
  -- the block is one of the main ones
  have hptr : ∃ b' o', evalA ng (tm i) y = .ptr b' o' := by
    unfold loadO at hld
    split at hld
    · rename_i hp; exact ⟨_, _, hp⟩
    · cases hld
  obtain ⟨b', o', hp⟩ := hptr
  have hb' : b' = bl := by
    rw [hp] at hat
    unfold loadAt? at hat
    split at hat
    · rename_i hq
      simp only [V.ptr.injEq] at hq
      simp only [Prod.mk.injEq] at hat
      rw [hq.1]; exact hat.1
    · exfalso
      rename_i hno
      rw [hp] at hld
      unfold loadO at hld
      split at hld
      · rename_i ti b2 o2 hti hq
        exact hno ti b2 o2 hti hq
      · cases hld
  subst hb'
  rw [hp] at hY
  simp only [VR] at hY
  obtain ⟨hM, hX⟩ := hY
  have hmain : b' < (σ m).next := by
    rcases h.ids b' hM with h1 | ⟨q, q1, q2, q3, q4⟩
    · exact Nat.lt_of_lt_of_le (h0 b' h1) (hR.next (Nat.zero_le _) h.mN)
    · by_cases he : (R q).isEff
      · have := (h.eff q q1 he).1 q2
        exact Nat.lt_of_lt_of_le q4 (hR.next (by omega) h.mN)
      · obtain ⟨_, _, h3⟩ := hR.calm q1 he
        rcases h3 with h3 | ⟨ob, hkq, _, _, _, h3⟩
        · rw [h3] at q4; omega
        · have hid : b' = (σ q).next := by rw [h3] at q4; have : b' < (σ q).next + 1 := q4; omega
          exfalso
          rcases Nat.lt_or_ge q i with hlt | hge
          · have hpair := hR.pair q i hlt hi
            simp only [PairOk, hk, hkq] at hpair
            rw [hR.sig q1] at hpair
            exact hpair hid
          · have := hR.next hge (by omega : q ≤ N)
            omega
  have hlook : ∀ k, x ≤ k → k < x + n → ((σ m).at b').look k = ((σ i).at b').look k := by
    intro k k1 k2
    rcases Nat.le_total i m with him | hmi
    · have := hR.look (n := k) hbl (m - i) (by have := h.mN; omega) (fun q q1 q2 log hlog => by
        have hqN : q < N := by have := h.mN; omega
        rcases Nat.eq_or_lt_of_le q1 with heq | hlt
        · rw [← heq, hk] at hlog; cases hlog
        · have hqS := (h.eff q hqN ⟨log, hlog⟩).2 (by omega)
          have hpair := hR.pair i q hlt hqN
          simp only [PairOk, hlog, hk] at hpair
          rcases hpair with hd | hd
          · have := goB_in hcl 5 _ _ (hcl q hqS _ (hR.oper hqN)) hd
            rw [e1] at this
            exact absurd this hS
          · exact hd.clear k1 k2)
      rwa [show i + (m - i) = m by omega] at this
    · have := hR.look (n := k) hmain (i - m) (by omega) (fun q q1 q2 log hlog => by
        have hqN : q < N := by omega
        have hqS : q ∉ S := fun hq => by have := (h.eff q hqN ⟨log, hlog⟩).1 hq; omega
        have hpair := hR.pair q i (by omega) hi
        simp only [PairOk, hlog, hk] at hpair
        rcases hpair with hd | hd
        · have := goB_in hcl 5 _ _ (hpre _ ho) hd
          rw [(hR.idx q hqN).1] at this
          exact absurd this hqS
        · exact hd.clear k1 k2)
      rw [show m + (i - m) = i by omega] at this
      exact this.symm
  have hld' := loadO_congr (τ := σ m) hld (by rw [hat]; exact hlook)
  have hXc : VR (e.cut (σ m).next) (evalA ng (tm i) y) (a.eval y) := by
    rw [hp]; simp only [VR]; exact ⟨⟨hM, hmain⟩, hX⟩
  obtain ⟨z, z1, z2⟩ := loadO_sound hld' h.main hXc
  refine ⟨z, VR.mono (Env.cut_le e _) _ _ z1, ?_⟩
  have : execOp a.eval (R i).o = (do pure (.value (← Instr.loadAt t (a.eval y)))) := by
    generalize hg : (R i).o = oo at hop
    obtain ⟨dst, op, ty, pos, after, guard⟩ := oo
    simp only at hop
    subst hop
    rfl
  rw [this, Sem.run_bind, z2]
  rfl
end
end Go.Proofs.YthagammlhhnpnaaGreatDoor.Ev

/-
  Every order of a drawn region comes to the same: allocations, and operations that keep their order.
-/
namespace Go.Proofs.YthagammlhhnpnaaGreatDoor.Ev
section
variable {P : Program} {ng base : Nat} {tab : Tab P} {fr : Fr} {ops : Array Oper} {N : Nat} {R : Nat → Tr} {tm : Nat → T V} {ds : Nat → List ADef} {u : Nat → U} {σ : Nat → St}
variable {b : Frame} {e0 : Env} {w0 : World} {cs0 : List Frame} {S : List Nat} {m : Nat} {e : Env} {a : Act} {cs : List Frame} {w : World}

theorem Inv.puts (h : Inv P ng base fr b N R tm ds u σ e0 w0 cs0 S m e a cs w) (hR : Rec P ng tab fr ops.toList N R tm ds u σ) (hst : staticB ops.toList = true) {i : Nat} (hi : i < N) (hS : i ∉ S) {e' : Env} (hle : e.le e') {z : Value} (hz : VR e' (R i).v z) {a2 : Act} (ha : a2.tmps = a.tmps) :
    (∀ q, q < N → q ∈ i :: S → ∀ d, (R q).o.dst = some d → VR e' (R q).v ((a2.put (R i).o.dst z).tmps.getD d undef)) ∧
    (∀ t, t < 2 ^ dt → (∀ q, q < N → q ∈ i :: S → (R q).o.dst ≠ some t) → VR e' (Ev.tget (tm 0) t) ((a2.put (R i).o.dst z).tmps.getD t undef)) ∧ (a2.put (R i).o.dst z).tmps.size = fr.nt := by
  obtain ⟨_, _, hd, _⟩ := hR.step i hi
  have hsz : a2.tmps.size = fr.nt := by rw [ha]; exact h.size
  refine ⟨fun q q1 q2 d hq => ?_, fun t ht hn => ?_, ?_⟩
  · rcases List.mem_cons.1 q2 with rfl | q2
    · have hlt : d < a2.tmps.size := by rw [hsz]; exact (hd d hq).1
      simp only [Act.put, hq]
      have : (a2.tmps.setIfInBounds d z).getD d undef = z := by simp [Array.getD, hlt]
      rw [this]; exact hz
    · have hv := VR.mono hle _ _ (h.vals q q1 q2 d hq)
      rw [← ha] at hv
      have hdd : ∀ d', (R i).o.dst = some d' → d' ≠ d := by
        intro d' hd' heq
        have hiL : ops.toList[i]? = some (R i).o := by rw [Array.getElem?_toList]; exact hR.oper hi
        have hqL : ops.toList[q]? = some (R q).o := by rw [Array.getElem?_toList]; exact hR.oper q1
        rcases Nat.lt_trichotomy i q with hlt | he | hgt
        · exact (staticB_pair hst hqL hiL hlt).1 d d' hq hd' heq.symm
        · rw [he] at hS; exact hS q2
        · exact (staticB_pair hst hiL hqL hgt).1 d' d hd' hq heq
      cases hdi : (R i).o.dst with
      | none => exact hv
      | some d' =>
        have : (a2.tmps.setIfInBounds d' z).getD d undef = a2.tmps.getD d undef := by
          simp only [Array.getD_eq_getD_getElem?, Array.getElem?_setIfInBounds_ne (hdd d' hdi)]
        simp only [Act.put]
        rw [this]; exact hv
  · have hr := VR.mono hle _ _ (h.rest t ht fun q q1 q2 => hn q q1 (List.mem_cons_of_mem _ q2))
    rw [← ha] at hr
    have hdi := hn i hi (by simp)
    cases hd2 : (R i).o.dst with
    | none => exact hr
    | some d' =>
      rw [hd2] at hdi
      have hne' : d' ≠ t := fun he => hdi (by rw [he])
      have : (a2.tmps.setIfInBounds d' z).getD t undef = a2.tmps.getD t undef := by
        simp only [Array.getD_eq_getD_getElem?, Array.getElem?_setIfInBounds_ne hne']
      simp only [Act.put]
      rw [this]; exact hr
  · cases (R i).o.dst <;> simp [Act.put, hsz]

theorem Rel.push {e : Env} {σ : St} {w : World} (h : Rel ng base e σ w) (o : Obj) : Rel ng base e σ (w.alloc o) :=
  ⟨h.next, h.lim, fun i hi => by rw [World.size_alloc]; exact Nat.lt_succ_of_lt (h.there i hi), fun i hi hn => by
    obtain ⟨x, h1, h2⟩ := h.obj i hi hn
    exact ⟨x, by rw [heap_alloc_old w o _ (h.there i hi)]; exact h1, h2⟩, h.inj, h.own, h.fresh⟩

/-- a block that the abstract memory has had for long -/
theorem Rel.late {e : Env} {σ : St} {w : World} {n : Nat} (h : Rel ng base (e.cut n) σ w) {id : Nat} (hid : id < n) (hn : ¬ e.M id) (hlim : n ≤ σ.next) {o : Obj} {size : Nat} (hb : base ≤ w.heap.size) (hor : OR ((e.more id w.heap.size size).cut n) (σ.at id) id o) :
    Rel ng base ((e.more id w.heap.size size).cut n) σ (w.alloc o) := by
  have hle : (e.cut n).le ((e.more id w.heap.size size).cut n) := Env.cut_mono (Env.le_more e id _ _ hn) (Nat.le_refl _)
  have hM : ∀ i, ((e.more id w.heap.size size).cut n).M i → i ≠ id → (e.cut n).M i := fun i hi hne => ⟨hi.1.resolve_right hne, hi.2⟩
  have hbid : ((e.more id w.heap.size size).cut n).blk id = w.heap.size := by simp [Env.more, Env.cut]
  refine ⟨h.next, fun i hi => Nat.lt_of_lt_of_le hi.2 hlim, fun i hi => ?_, fun i hi hno => ?_, fun i j hi hj hni hnj he => ?_, fun i hi hg => ?_, h.fresh⟩
  · by_cases hie : i = id
    · rw [hie, hbid, World.size_alloc]; exact Nat.lt_succ_self _
    · have hm := hM i hi hie
      rw [(hle.mono i hm).2.1, World.size_alloc]; exact Nat.lt_succ_of_lt (h.there i hm)
  · by_cases hie : i = id
    · rw [hie, hbid]
      exact ⟨o, heap_alloc_new w o, hor⟩
    · have hm := hM i hi hie
      obtain ⟨x, h1, h2⟩ := h.obj i hm hno
      exact ⟨x, by rw [(hle.mono i hm).2.1, heap_alloc_old w o _ (h.there i hm)]; exact h1, h2.mono hle hm⟩
  · by_cases hie : i = id
    · by_cases hje : j = id
      · omega
      · have hm := hM j hj hje
        rw [hie, hbid, (hle.mono j hm).2.1] at he
        have := h.there j hm; omega
    · have hm := hM i hi hie
      by_cases hje : j = id
      · rw [hje, hbid, (hle.mono i hm).2.1] at he
        have := h.there i hm; omega
      · have hm' := hM j hj hje
        rw [(hle.mono i hm).2.1, (hle.mono j hm').2.1] at he
        exact h.inj i j hm hm' hni hnj he
  · by_cases hie : i = id
    · rw [hie, hbid]; exact hb
    · have hm := hM i hi hie
      rw [(hle.mono i hm).2.1]; exact h.own i hm hg

/-- the content of a new block is not touched where nothing in a log is of it -/
theorem Rec.stays (hR : Rec P ng tab fr ops.toList N R tm ds u σ) {x : Nat} {lo : Nat} (hlo : x < (σ lo).next) : ∀ (d : Nat), lo + d ≤ N → (∀ k, lo ≤ k → k < lo + d → ∀ log, (R k).kd = .eff log → ∀ p ∈ log, p.1 ≠ x) → (σ (lo + d)).at x = (σ lo).at x
  | 0, _, _ => rfl
  | d + 1, hN, hc => by
    have ih := Rec.stays hR hlo d (by omega) fun k k1 k2 => hc k k1 (by omega)
    rw [← ih]
    have hk : lo + d < N := by omega
    have hx : x < (σ (lo + d)).next := Nat.lt_of_lt_of_le hlo (hR.next (Nat.le_add_right _ _) (by omega))
    have heq : lo + (d + 1) = lo + d + 1 := by omega
    rw [heq]
    by_cases he : (R (lo + d)).isEff
    · obtain ⟨log, hlog⟩ := he
      have hcl := hc (lo + d) (Nat.le_add_right _ _) (by omega) log hlog
      obtain ⟨_, _, _, _, _, h6⟩ := hR.step (lo + d) hk
      rw [hlog] at h6
      simp only at h6
      obtain ⟨_, _, σ1, g1, g2, g3, _⟩ := h6
      have hat : (σ (lo + d + 1)).at x = σ1.at x := by rw [g1]; rfl
      rw [hat]
      have := g3.keeps x (by rw [hR.sig hk]; exact hx) (by rw [g2]; exact hcl)
      rw [hR.sig hk] at this
      exact this
    · obtain ⟨_, _, h3⟩ := hR.calm hk he
      rcases h3 with h3 | ⟨ob, _, hlt, _, _, h3⟩
      · rw [h3]
      · rw [h3, at_more _ ob hlt x (by omega), if_neg (by omega)]

/-- a quiet allocation more -/
theorem Inv.news (h : Inv P ng base fr b N R tm ds u σ e0 w0 cs0 S m e a cs w) (hR : Rec P ng tab fr ops.toList N R tm ds u σ) (h0 : ∀ i, e0.M i → i < (σ 0).next) (hst : staticB ops.toList = true) (hcl : Cl ops S) {i : Nat} (hi : i < N) (hS : i ∉ S) (hpre : Pre ops S i) {ob : Ob} (hk : (R i).kd = .new ob) :
    ∃ e' z w', (execOp a.eval (R i).o).run P w = .ok (.value z) w' ∧ Inv P ng base fr b N R tm ds u σ e0 w0 cs0 (i :: S) m e' (a.put (R i).o.dst z) cs w' := by
  obtain ⟨x1, x2, _, _, x5⟩ := hR.idx i hi
  obtain ⟨_, _, _, _, _, h6⟩ := hR.step i hi
  rw [hk] at h6
  simp only at h6
  obtain ⟨_, _, ⟨mk, ⟨hno, hnew⟩, hv⟩, hbd, hlt, _, _, hσ⟩ := h6
  rw [x2] at hnew
  rw [x5] at hv hbd hlt hσ
  have ho := hR.oper hi
  have hnx : (σ (i + 1)).next = (σ i).next + 1 := by rw [hσ]; rfl
  have hun := h.unknown hR h0 hi hS (Nat.le_refl _) (by omega : (σ i).next < (σ (i + 1)).next)
  have hoper := h.operand hR hst hcl (Nat.le_of_lt hi) ho hS hpre
  obtain ⟨obj, size, z, r1, r2, r3⟩ := hnew e w a.eval (σ i).next hun hoper
  have hle := Env.le_more e (σ i).next w.heap.size size hun
  have hbid : (e.more (σ i).next w.heap.size size).blk (σ i).next = w.heap.size := by simp [Env.more]
  have hbo : ∀ j, e.M j → (e.more (σ i).next w.heap.size size).blk j = e.blk j := fun j hj => (hle.mono j hj).2.1
  have hne : ¬ (R i).isEff := by rintro ⟨log, hl⟩; rw [hk] at hl; cases hl
  have hcle : (e.cut (σ m).next).le ((e.more (σ i).next w.heap.size size).cut (σ m).next) := Env.cut_mono hle (Nat.le_refl _)
  have hdl : (a.put (R i).o.dst z).defers = a.defers := by cases (R i).o.dst <;> rfl
  obtain ⟨v1, v2, v3⟩ := h.puts hR hst hi hS hle (a2 := a) (z := z) (by rw [hv]; exact r3) rfl
  have hmM : ∀ j, ((e.more (σ i).next w.heap.size size).cut (σ m).next).M j → j ≠ (σ i).next → (e.cut (σ m).next).M j := fun j hj hn => ⟨hj.1.resolve_right hn, hj.2⟩
  have hmain : Rel ng base ((e.more (σ i).next w.heap.size size).cut (σ m).next) (σ m) (w.alloc obj) := by
    rcases Nat.lt_or_ge i m with him | hmi
    · have hidm : (σ i).next < (σ m).next := by have := hR.next (i := i + 1) (j := m) him h.mN; omega
      have hatm : (σ m).at (σ i).next = ob := by
        have hst2 := hR.stays (x := (σ i).next) (lo := i + 1) (by omega) (m - (i + 1)) (by have := h.mN; omega) (fun q q1 q2 log hlog => by
          have hqN : q < N := by have := h.mN; omega
          have hqS := (h.eff q hqN ⟨log, hlog⟩).2 (by omega)
          have hpair := hR.pair i q (by omega) hqN
          simp only [PairOk, hlog, hk] at hpair
          rw [x5] at hpair
          rcases hpair with hd | hd
          · have := goB_in hcl 5 _ _ (hcl q hqS _ (hR.oper hqN)) hd
            rw [x1] at this
            exact absurd this hS
          · exact hd)
        rw [show i + 1 + (m - (i + 1)) = m by omega] at hst2
        rw [hst2, hσ, at_more _ ob hlt _ hlt, if_pos rfl]
      exact Rel.late h.main hidm hun (Nat.le_refl _) h.room (by rw [hatm]; exact r2.cut hbd (Nat.le_of_lt hidm))
    · have hidm : (σ m).next ≤ (σ i).next := hR.next hmi (Nat.le_of_lt hi)
      exact (h.main.push obj).congr hcle fun j hj => hmM j hj (by have := hj.2; omega)
  refine ⟨_, z, _, r1, ⟨h.mN, fun p hp he => ?_, by rw [World.size_alloc]; exact Nat.le_succ_of_le h.room, hmain, h.glob.mono hcle, h.bf.mono hcle, by rw [hdl]; exact h.dl.mono hcle, ?_, h.le0.trans hle, ?_, ?_, v1, v2, v3, by rw [World.size_alloc]; exact Nat.le_succ_of_le h.wsize, ?_, ?_, h.os, h.output, h.tape⟩⟩
  · rw [← h.eff p hp he]
    constructor
    · intro hm
      rcases List.mem_cons.1 hm with rfl | hm
      · exact absurd he hne
      · exact hm
    · exact List.mem_cons_of_mem _
  · refine ⟨h.ks.1, fun hd => ?_⟩
    obtain ⟨c, r, mo, y1, y2, y3⟩ := h.ks.2 hd
    exact ⟨c, r, mo, y1, y2, y3.mono hcle⟩
  · rintro j (hj | rfl)
    · rcases h.ids j hj with h1 | ⟨q, q1, q2, q3⟩
      · exact .inl h1
      · exact .inr ⟨q, q1, List.mem_cons_of_mem _ q2, q3⟩
    · exact .inr ⟨i, hi, by simp, Nat.le_refl _, by omega⟩
  · -- those made ahead
    have olds : ∀ q, q < N → q ∈ S → m ≤ q → ∀ ob', (R q).kd = .new ob' → e.M (σ q).next ∧ (σ q).next ≠ (σ i).next ∧ e.blk (σ q).next < w.heap.size := by
      intro q q1 q2 q3 ob' hk'
      obtain ⟨g1, _, _, ⟨o, g4, _⟩, _⟩ := h.early q q1 q2 q3 ob' hk'
      exact ⟨g1, fun he => hun (he ▸ g1), (Array.getElem?_eq_some_iff.1 g4).1⟩
    intro q q1 q2 q3 ob' hk'
    by_cases hqi : q = i
    · subst hqi
      have : ob' = ob := by rw [hk] at hk'; simpa using hk'.symm
      subst this
      refine ⟨.inr rfl, by rw [hbid]; exact h.room, by rw [hbid]; exact h.wsize, ⟨obj, by rw [hbid]; exact heap_alloc_new w obj, r2⟩, fun j hj hnj => ?_, fun q' p1 p2 p3 ob2 hk2 hne2 => ?_⟩
      · have hidm : (σ m).next ≤ (σ q).next := hR.next q3 (Nat.le_of_lt hi)
        have hm := hmM j hj (by have := hj.2; omega)
        rw [hbid, hbo j hm.1]
        exact Nat.ne_of_lt (h.main.there j hm)
      · have p2' : q' ∈ S := (List.mem_cons.1 p2).resolve_left hne2
        obtain ⟨o1, o2, o3⟩ := olds q' p1 p2' p3 ob2 hk2
        rw [hbid, hbo _ o1]; omega
    · have q2' : q ∈ S := (List.mem_cons.1 q2).resolve_left hqi
      obtain ⟨g1, g2, g3, ⟨o, g4, g5⟩, g6, g7⟩ := h.early q q1 q2' q3 ob' hk'
      obtain ⟨o1, o2, o3⟩ := olds q q1 q2' q3 ob' hk'
      refine ⟨.inl g1, by rw [hbo _ g1]; exact g2, by rw [hbo _ g1]; exact g3, ⟨o, by rw [hbo _ g1, heap_alloc_old w obj _ o3]; exact g4, g5.mono hle g1⟩, fun j hj hnj => ?_, fun q' p1 p2 p3 ob2 hk2 hne2 => ?_⟩
      · rw [hbo _ g1]
        by_cases hji : j = (σ i).next
        · rw [hji, hbid]; omega
        · have hm := hmM j hj hji
          rw [hbo j hm.1]
          exact g6 j hm hnj
      · rw [hbo _ g1]
        by_cases hqi' : q' = i
        · rw [hqi', hbid]; omega
        · have p2' : q' ∈ S := (List.mem_cons.1 p2).resolve_left hqi'
          obtain ⟨k1, k2, k3⟩ := olds q' p1 p2' p3 ob2 hk2
          rw [hbo _ k1]
          exact g7 q' p1 p2' p3 ob2 hk2 hne2
  · intro bl hbl hn
    rw [heap_alloc_old w obj bl (Nat.lt_of_lt_of_le hbl h.wsize)]
    exact h.kept bl hbl hn
  · intro j hj hnj hg hltj
    by_cases hji : j = (σ i).next
    · have hltj' : (e.more (σ i).next w.heap.size size).blk j < w0.heap.size := hltj
      rw [hji, hbid] at hltj'
      have := h.wsize; omega
    · have hm := hmM j hj hji
      have hltj' : (e.more (σ i).next w.heap.size size).blk j < w0.heap.size := hltj
      rw [hbo j hm.1] at hltj'
      obtain ⟨k, k1, k2, k3, k4⟩ := h.orig j hm hnj hg hltj'
      refine ⟨k, k1, k2, k3, ?_⟩
      show _ = (e.more (σ i).next w.heap.size size).blk j
      rw [hbo j hm.1]; exact k4
end
end Go.Proofs.YthagammlhhnpnaaGreatDoor.Ev

/-
  Every order of a drawn region comes to the same: operations that keep their order.
-/
namespace Go.Proofs.YthagammlhhnpnaaGreatDoor.Ev
section
variable {P : Program} {ng base : Nat} {tab : Tab P} {fr : Fr} {ops : Array Oper} {N : Nat} {R : Nat → Tr} {tm : Nat → T V} {ds : Nat → List ADef} {u : Nat → U} {σ : Nat → St}
variable {b : Frame} {e0 : Env} {w0 : World} {cs0 : List Frame} {S : List Nat} {m : Nat} {e : Env} {a : Act} {cs : List Frame} {w : World}

/-- up to an ordered operation that comes next -/
theorem Inv.upto (h : Inv P ng base fr b N R tm ds u σ e0 w0 cs0 S m e a cs w) (hR : Rec P ng tab fr ops.toList N R tm ds u σ) (h0 : ∀ i, e0.M i → i < (σ 0).next) {i : Nat} (hi : i ≤ N) (hmi : m ≤ i) (hno : ∀ k, m ≤ k → k < i → ¬ (R k).isEff) : Inv P ng base fr b N R tm ds u σ e0 w0 cs0 S i e a cs w := by
  have := Inv.shifts hR h0 (i - m) h (by omega) (fun k k1 k2 => hno k k1 (by omega))
  rwa [show m + (i - m) = i by omega] at this

theorem last_eff {p : Nat → Prop} {m i : Nat} (h : ∃ k, m ≤ k ∧ k < i ∧ p k) : ∃ k, m ≤ k ∧ k < i ∧ p k ∧ ∀ q, k < q → q < i → ¬ p q := by
  classical
  induction i with
  | zero => obtain ⟨k, _, h2, _⟩ := h; omega
  | succ i ih =>
    by_cases hp : p i ∧ m ≤ i
    · exact ⟨i, hp.2, Nat.lt_succ_self _, hp.1, fun q q1 q2 => by omega⟩
    · obtain ⟨k, h1, h2, h3⟩ := h
      have hki : k < i := by
        rcases Nat.lt_or_ge k i with h | h
        · exact h
        · have : k = i := by omega
          rw [this] at h1 h3
          exact absurd ⟨h3, h1⟩ hp
      obtain ⟨k', g1, g2, g3, g4⟩ := ih ⟨k, h1, hki, h3⟩
      refine ⟨k', g1, by omega, g3, fun q q1 q2 hq => ?_⟩
      rcases Nat.lt_or_ge q i with h | h
      · exact g4 q q1 h hq
      · have : q = i := by omega
        rw [this] at hq
        exact hp ⟨hq, by omega⟩

theorem KS.mono {e e' : Env} (h : e.le e') {fr : Fr} {u : U} {cs cs' : List Frame} (r : KS e fr u cs cs') : KS e' fr u cs cs' := by
  refine ⟨r.1, fun hd => ?_⟩
  obtain ⟨c, x, mo, y1, y2, y3⟩ := r.2 hd
  exact ⟨c, x, mo, y1, y2, y3.mono h⟩

theorem opsBd_cut {o : Oper} {ρ : Operand → V} {n : Nat} (hb : opsBd n ρ o = true) {e : Env} {a : Act} (h : ∀ x, VR e (restr o ρ x) (a.eval x)) : ∀ x, VR (e.cut n) (restr o ρ x) (a.eval x) := by
  intro x
  have hx := h x
  unfold restr at hx ⊢
  split
  · rename_i hm
    rw [if_pos hm] at hx
    exact VR.cut _ _ (allL_spec hb x (by simpa using hm)) hx
  · simp only [VR]

/-- what is known after an ordered operation -/
def Env.glue (e e1 : Env) (n1 : Nat) : Env := ⟨fun x => e1.M x ∨ (e.M x ∧ n1 ≤ x), fun x => if x < n1 then e1.blk x else e.blk x, fun x => if x < n1 then e1.size x else e.size x⟩

theorem Env.glue_cut {e e1 : Env} {n1 : Nat} (h1 : ∀ x, e1.M x → x < n1) : e1.le ((e.glue e1 n1).cut n1) ∧ ∀ x, ((e.glue e1 n1).cut n1).M x → e1.M x := by
  refine ⟨⟨fun x hx => ⟨⟨.inl hx, h1 x hx⟩, ?_, ?_⟩⟩, fun x hx => ?_⟩
  · show (if x < n1 then _ else _) = _; rw [if_pos (h1 x hx)]
  · show (if x < n1 then _ else _) = _; rw [if_pos (h1 x hx)]
  · rcases hx.1 with h | h
    · exact h
    · have := hx.2; omega

theorem Env.glue_le {e e1 : Env} {n0 n1 : Nat} (h1 : ∀ x, e1.M x → x < n1) (hle : (e.cut n0).le e1) (hgap : ∀ x, n0 ≤ x → x < n1 → ¬ e.M x) : e.le (e.glue e1 n1) := by
  refine ⟨fun x hx => ?_⟩
  rcases Nat.lt_or_ge x n0 with hlt | hge
  · obtain ⟨g1, g2, g3⟩ := hle.mono x ⟨hx, hlt⟩
    refine ⟨.inl g1, ?_, ?_⟩
    · show (if x < n1 then _ else _) = _; rw [if_pos (h1 x g1)]; exact g2
    · show (if x < n1 then _ else _) = _; rw [if_pos (h1 x g1)]; exact g3
  · have hn : n1 ≤ x := by
      rcases Nat.lt_or_ge x n1 with h | h
      · exact absurd hx (hgap x hge h)
      · exact h
    refine ⟨.inr ⟨hx, hn⟩, ?_, ?_⟩
    · show (if x < n1 then _ else _) = _; rw [if_neg (by omega)]
    · show (if x < n1 then _ else _) = _; rw [if_neg (by omega)]

/-- no ordered operation is left between -/
theorem Inv.noEff (h : Inv P ng base fr b N R tm ds u σ e0 w0 cs0 S m e a cs w) {i : Nat} (hi : i ≤ N) {o : Oper} (ho : ops[i]? = some o) (hcl : Cl ops S) (hpre : Pre ops S i)
    (hch : ∀ j, j < i → (R j).isEff → (∀ k, j < k → k < i → ¬ (R k).isEff) → ordB ops.toList o j = true) : ∀ k, m ≤ k → k < i → ¬ (R k).isEff := by
  intro k k1 k2 hk
  obtain ⟨k', g1, g2, g3, g4⟩ := last_eff (p := fun k => (R k).isEff) ⟨k, k1, k2, hk⟩
  have := goB_in hcl 5 _ _ (hpre o ho) (hch k' g2 g3 g4)
  have := (h.eff k' (by omega) g3).1 this
  omega

theorem Inv.effs (h : Inv P ng base fr b N R tm ds u σ e0 w0 cs0 S m e a cs w) (hR : Rec P ng tab fr ops.toList N R tm ds u σ) (h0 : ∀ i, e0.M i → i < (σ 0).next) (hnb : ng ≤ base) (hst : staticB ops.toList = true) (hcl : Cl ops S) {i : Nat} (hi : i < N) (hS : i ∉ S) (hpre : Pre ops S i) {log : List (Nat × Nat × Nat)} (hk : (R i).kd = .eff log)
    (rest : List Nat) (k : List Item) :
    ∃ e' a' cs' w', Steps P (lone (b.atR a (.inRegion ops (i :: rest) :: k)) cs w) (lone (b.atR a' (.inRegion ops rest :: k)) cs' w') ∧ Inv P ng base fr b N R tm ds u σ e0 w0 cs0 (i :: S) (i + 1) e' a' cs' w' := by
  have hie : (R i).isEff := ⟨log, hk⟩
  have hmi : m ≤ i := by
    rcases Nat.lt_or_ge i m with h1 | h1
    · exact absurd ((h.eff i hi hie).2 h1) hS
    · exact h1
  have ho := hR.oper hi
  have h2 := h.upto hR h0 (Nat.le_of_lt hi) hmi (h.noEff (Nat.le_of_lt hi) ho hcl hpre fun j j1 j2 j3 => hR.chain j i j1 hi hie j2 j3)
  obtain ⟨x1, x2, x3, x4, x5⟩ := hR.idx i hi
  obtain ⟨_, _, _, _, _, h6⟩ := hR.step i hi
  rw [hk] at h6
  simp only at h6
  obtain ⟨hw, hbd, σ1, g1, g2, g3, g4⟩ := h6
  unfold Want at hw
  rw [x2] at hw
  rw [x2, x5] at hbd
  rw [x5] at g1 g3
  rw [x2, x3, x4, x5] at g4
  have hoper := opsBd_cut hbd (h2.operand hR hst hcl (Nat.le_of_lt hi) ho hS hpre)
  have hwant := h2.wants hR hst hcl (Nat.le_of_lt hi) ho hS hpre hw
  obtain ⟨e1, dl, cs', w', z, r1, r2, r3, r4, r5, r6⟩ := g4 base (e.cut (σ i).next) b a cs w ops i rest k h2.room hnb (h2.main.log []) h2.glob h2.bf hoper h2.dl h2.ks.kr ho hwant
  have hn1 : (σ (i + 1)).next = σ1.next := by rw [g1]
  have hlim : ∀ x, e1.M x → x < (σ (i + 1)).next := fun x hx => by rw [hn1]; exact r4.lim x hx
  have hgap : ∀ x, (σ i).next ≤ x → x < (σ (i + 1)).next → ¬ e.M x := fun x h1' h2' => h2.unknown hR h0 hi hS h1' h2'
  obtain ⟨q1, q2⟩ := Env.glue_cut (e := e) hlim
  have q3 := Env.glue_le hlim r5.le hgap
  have hmain : Rel ng base ((e.glue e1 (σ (i + 1)).next).cut (σ (i + 1)).next) (σ (i + 1)) w' := by
    have := (r4.congr q1 q2).log (log ++ (σ i).log)
    rw [g1]
    rw [g1] at this
    exact this
  have hat : ∀ x, (σ (i + 1)).at x = σ1.at x := fun x => by rw [g1]; rfl
  have hbl : ∀ x, e1.M x → (e.glue e1 (σ (i + 1)).next).blk x = e1.blk x := fun x hx => by
    show (if x < (σ (i + 1)).next then _ else _) = _; rw [if_pos (hlim x hx)]
  have hdl : ({ a with defers := dl }.put (R i).o.dst z : Act).defers = dl := by cases (R i).o.dst <;> rfl
  obtain ⟨v1, v2, v3⟩ := h2.puts hR hst hi hS q3 (a2 := { a with defers := dl }) (z := z) (VR.mono (q1.trans (Env.cut_le _ _)) _ _ r2) rfl
  refine ⟨e.glue e1 (σ (i + 1)).next, _, cs', w', r1, ⟨hi, fun p hp he => ?_, Nat.le_trans h2.room r5.size, hmain, (h2.glob.mono r5.le).mono q1, (h2.bf.mono r5.le).mono q1, by rw [hdl]; exact r3.mono q1, KS.mono q1 (h2.ks.trans r6), h2.le0.trans q3, ?_, ?_, v1, v2, v3, Nat.le_trans h2.wsize r5.size, ?_, ?_, r5.os.trans h2.os, r5.output.trans h2.output, r5.tape.trans h2.tape⟩⟩
  · constructor
    · intro hm
      rcases List.mem_cons.1 hm with rfl | hm
      · exact Nat.lt_succ_self _
      · have := (h2.eff p hp he).1 hm; omega
    · intro hlt
      rcases Nat.lt_or_ge p i with h' | h'
      · exact List.mem_cons_of_mem _ ((h2.eff p hp he).2 h')
      · have : p = i := by omega
        rw [this]; simp
  · rintro x (hx | ⟨hx, _⟩)
    · by_cases hc : (e.cut (σ i).next).M x
      · rcases h2.ids x hc.1 with h1' | ⟨q, p1, p2, p3⟩
        · exact .inl h1'
        · exact .inr ⟨q, p1, List.mem_cons_of_mem _ p2, p3⟩
      · exact .inr ⟨i, hi, by simp, r5.newer x hx hc, hlim x hx⟩
    · rcases h2.ids x hx with h1' | ⟨q, p1, p2, p3⟩
      · exact .inl h1'
      · exact .inr ⟨q, p1, List.mem_cons_of_mem _ p2, p3⟩
  · intro q p1 p2 p3 ob hkq
    have hqi : q ≠ i := by omega
    have p2' : q ∈ S := (List.mem_cons.1 p2).resolve_left hqi
    obtain ⟨y1, y2, y3, ⟨o, y4, y5⟩, y6, y7⟩ := h2.early q p1 p2' (by omega) ob hkq
    have hge : (σ (i + 1)).next ≤ (σ q).next := hR.next (by omega) (Nat.le_of_lt p1)
    have hbq : ∀ q', q' < N → i + 1 ≤ q' → (e.glue e1 (σ (i + 1)).next).blk (σ q').next = e.blk (σ q').next := fun q' c1 c2 => by
      have : (σ (i + 1)).next ≤ (σ q').next := hR.next c2 (Nat.le_of_lt c1)
      show (if (σ q').next < (σ (i + 1)).next then _ else _) = _; rw [if_neg (by omega)]
    have hblk := hbq q p1 p3
    have hbsz : e.blk (σ q).next < w.heap.size := (Array.getElem?_eq_some_iff.1 y4).1
    refine ⟨.inr ⟨y1, hge⟩, by rw [hblk]; exact y2, by rw [hblk]; exact y3, ⟨o, ?_, y5.mono q3 y1⟩, fun x hx hnx => ?_, fun q' c1 c2 c3 ob' hk' hne => ?_⟩
    · rw [hblk, r5.kept _ hbsz (fun x hx hnx hg => y6 x hx hnx)]
      exact y4
    · rw [hblk]
      have hx1 := q2 x hx
      rw [hat] at hnx
      rw [hbl x hx1]
      intro heq
      rcases Nat.lt_or_ge x ng with hxg | hxg
      · obtain ⟨c1, c2⟩ := h2.glob x hxg
        have hb1 := (r5.le.mono x c1).2.1
        rw [hb1, c2] at heq
        omega
      · obtain ⟨j, j1, j2, j3, j4⟩ := r5.orig x hx1 hnx hxg (by rw [heq]; exact hbsz)
        exact y6 j j1 j2 (j4.trans heq)
    · rw [hblk, hbq q' c1 c3]
      have hqi' : q' ≠ i := by omega
      exact y7 q' c1 ((List.mem_cons.1 c2).resolve_left hqi') (by omega) ob' hk' hne
  · intro bl hbl' hn
    rw [r5.kept bl (Nat.lt_of_lt_of_le hbl' h2.wsize) (fun x hx hnx hg heq => ?_)]
    · exact h2.kept bl hbl' hn
    · have heq' : e.blk x = bl := heq
      obtain ⟨j, j1, j2, j3, j4⟩ := h2.orig x hx hnx hg (by rw [heq']; exact hbl')
      exact hn j j1 j2 j3 (j4.trans heq')
  · intro x hx hnx hg hlt
    have hx1 := q2 x hx
    rw [hat] at hnx
    have hlt' : (e.glue e1 (σ (i + 1)).next).blk x < w0.heap.size := hlt
    rw [hbl x hx1] at hlt'
    obtain ⟨j, j1, j2, j3, j4⟩ := r5.orig x hx1 hnx hg (Nat.lt_of_lt_of_le hlt' h2.wsize)
    have j4' : e.blk j = e1.blk x := j4
    obtain ⟨k', c1, c2, c3, c4⟩ := h2.orig j j1 j2 j3 (by rw [j4']; exact hlt')
    refine ⟨k', c1, c2, c3, ?_⟩
    show _ = (e.glue e1 (σ (i + 1)).next).blk x
    rw [hbl x hx1, ← j4']; exact c4
end
end Go.Proofs.YthagammlhhnpnaaGreatDoor.Ev

/-
  Every order of a drawn region comes to the same: the law.
-/
namespace Go.Proofs.YthagammlhhnpnaaGreatDoor.Ev

theorem nodup_le : ∀ (n : Nat) (S : List Nat), S.Nodup → (∀ j ∈ S, j < n) → S.length ≤ n
  | 0, S, _, h => by cases S with
    | nil => simp
    | cons a S => have := h a (by simp); omega
  | n + 1, S, hn, h => by
    by_cases hm : n ∈ S
    · have h1 := nodup_le n (S.erase n) (hn.erase n) (fun j hj => by
        have hj' := (hn.mem_erase_iff).1 hj
        have := h j hj'.2
        have := hj'.1
        omega)
      rw [List.length_erase_of_mem hm] at h1
      omega
    · have := nodup_le n S hn (fun j hj => by
        have h1 := h j hj
        have : j ≠ n := fun he => hm (he ▸ hj)
        omega)
      omega

theorem nodup_all {n : Nat} {S : List Nat} (hn : S.Nodup) (h : ∀ j ∈ S, j < n) (hl : S.length = n) : ∀ q, q < n → q ∈ S := by
  intro q hq
  by_cases hm : q ∈ S
  · exact hm
  · exfalso
    have := nodup_le n (q :: S) (List.nodup_cons.2 ⟨hm, hn⟩) (fun j hj => by
      rcases List.mem_cons.1 hj with rfl | hj
      · exact hq
      · exact h j hj)
    simp at this
    omega

section
variable {P : Program} {ng base : Nat} {tab : Tab P} {fr : Fr} {ops : Array Oper} {N : Nat} {R : Nat → Tr} {tm : Nat → T V} {ds : Nat → List ADef} {u : Nat → U} {σ : Nat → St}
variable {b : Frame} {e0 : Env} {w0 : World} {cs0 : List Frame}

/-- one operation more -/
theorem Inv.exec {S : List Nat} {m : Nat} {e : Env} {a : Act} {cs : List Frame} {w : World} (h : Inv P ng base fr b N R tm ds u σ e0 w0 cs0 S m e a cs w) (hR : Rec P ng tab fr ops.toList N R tm ds u σ) (h0 : ∀ i, e0.M i → i < (σ 0).next) (hnb : ng ≤ base) (hst : staticB ops.toList = true) (hcl : Cl ops S)
    {i : Nat} (hi : i < N) (hS : i ∉ S) (hpre : Pre ops S i) (rest : List Nat) (k : List Item) :
    ∃ m' e' a' cs' w', Steps P (lone (b.atR a (.inRegion ops (i :: rest) :: k)) cs w) (lone (b.atR a' (.inRegion ops rest :: k)) cs' w') ∧ Inv P ng base fr b N R tm ds u σ e0 w0 cs0 (i :: S) m' e' a' cs' w' := by
  have ho := hR.oper hi
  obtain ⟨x1, x2, x3, x4, x5⟩ := hR.idx i hi
  obtain ⟨_, _, _, _, _, h6⟩ := hR.step i hi
  have hwant := fun r hw => h.wants (r := r) hR hst hcl (Nat.le_of_lt hi) ho hS hpre hw
  cases hk : (R i).kd with
  | skip =>
    rw [hk] at h6
    simp only at h6
    obtain ⟨hw, hv, _⟩ := h6
    rw [x2] at hw
    have hsk := stepR_op_skip (P := P) (b := b) (a := a) (k := k) (cs := cs) (w := w) (ops := ops) (i := i) (rest := rest) (by rw [ho]; exact hwant false hw)
    have hdst : (ops[i]?).bind (·.dst) = (R i).o.dst := by rw [ho]; rfl
    rw [hdst] at hsk
    exact ⟨m, e, _, cs, w, .one hsk, h.still hR hst hi hS (by rintro ⟨l, hl⟩; rw [hk] at hl; cases hl) (by intro ob hl; rw [hk] at hl; cases hl) (by rw [hv]; simp only [VR]; exact ⟨_, rfl, VRs.nil⟩)⟩
  | quiet =>
    rw [hk] at h6
    simp only at h6
    obtain ⟨hw, hnd, hpa, _⟩ := h6
    unfold Want at hw
    rw [x2] at hw hpa
    rw [pureA_congr _ restr_eq] at hpa
    obtain ⟨z, z1, z2⟩ := pureA_sound hpa (h.operand hR hst hcl (Nat.le_of_lt hi) ho hS hpre)
    exact ⟨m, e, _, cs, w, .one (stepR_value ho (hwant true hw) hnd (.inl rfl) (z2 w)), h.still hR hst hi hS (by rintro ⟨l, hl⟩; rw [hk] at hl; cases hl) (by intro ob hl; rw [hk] at hl; cases hl) z1⟩
  | load bl x n =>
    rw [hk] at h6
    simp only at h6
    obtain ⟨hw, ⟨t, y, hop, _⟩, _⟩ := h6
    unfold Want at hw
    rw [x2] at hw
    obtain ⟨z, z1, z2⟩ := h.loads hR h0 hst hcl hi hS hpre hk
    exact ⟨m, e, _, cs, w, .one (stepR_value ho (hwant true hw) (by intro c; rw [hop]; simp) (.inl rfl) z2), h.still hR hst hi hS (by rintro ⟨l, hl⟩; rw [hk] at hl; cases hl) (by intro ob hl; rw [hk] at hl; cases hl) z1⟩
  | new ob =>
    rw [hk] at h6
    simp only at h6
    obtain ⟨hw, hnd, _⟩ := h6
    unfold Want at hw
    rw [x2] at hw
    obtain ⟨e', z, w', z1, z2⟩ := h.news hR h0 hst hcl hi hS hpre hk
    exact ⟨m, e', _, cs, w', .one (stepR_value ho (hwant true hw) hnd (.inl rfl) z1), z2⟩
  | eff log =>
    obtain ⟨e', a', cs', w', z1, z2⟩ := h.effs hR h0 hnb hst hcl hi hS hpre hk rest k
    exact ⟨i + 1, e', a', cs', w', z1, z2⟩

theorem draw_all (hR : Rec P ng tab fr ops.toList N R tm ds u σ) (h0 : ∀ i, e0.M i → i < (σ 0).next) (hnb : ng ≤ base) (hst : staticB ops.toList = true) (hN : N ≤ ops.size)
    (hang : ∀ q oq, N < q → ops[q]? = some oq → ∃ ed ∈ oq.after, Region.binds .any ed = true ∧ N ≤ ed.on) (k : List Item) :
    ∀ (fuel t : Nat) (listed : Array Bool) (S : List Nat) (m : Nat) (e : Env) (a : Act) (cs : List Frame) (w : World), S.length + fuel = ops.size → S.Nodup → (∀ j ∈ S, j < N) → Cl ops S → (∀ j, listed.getD j false = decide (j ∈ S)) → (∀ j, j < ops.size → listed.getD j true = decide (j ∈ S)) → listed.size = ops.size →
      Inv P ng base fr b N R tm ds u σ e0 w0 cs0 S m e a cs w →
      (∃ S' m' e' a' cs' w', (∀ q, q < ops.size → q ∈ S') ∧ (∀ j ∈ S', j < N) ∧ Steps P (lone (b.atR a (.inRegion ops (Region.linearise.go .any ops fuel t listed []) :: k)) cs w) (lone (b.atR a' (.inRegion ops [] :: k)) cs' w') ∧ Inv P ng base fr b N R tm ds u σ e0 w0 cs0 S' m' e' a' cs' w') ∨
      (∃ S' m' e' a' cs' w' rest, N < ops.size ∧ N ∉ S' ∧ (∀ j ∈ S', j < N) ∧ Cl ops S' ∧ Pre ops S' N ∧ Steps P (lone (b.atR a (.inRegion ops (Region.linearise.go .any ops fuel t listed []) :: k)) cs w) (lone (b.atR a' (.inRegion ops (N :: rest) :: k)) cs' w') ∧ Inv P ng base fr b N R tm ds u σ e0 w0 cs0 S' m' e' a' cs' w') := by
  intro fuel
  induction fuel with
  | zero =>
    intro t listed S m e a cs w hl hnd hlt hcl hf ht hsz h
    exact .inl ⟨S, m, e, a, cs, w, nodup_all hnd (fun j hj => Nat.lt_of_lt_of_le (hlt j hj) hN) (by omega), hlt, .refl P _, h⟩
  | succ fuel ih =>
    intro t listed S m e a cs w hl hnd hlt hcl hf ht hsz h
    have hgo : Region.linearise.go .any ops (fuel + 1) t listed [] = match (Region.ready .any ops listed)[t % (Region.ready .any ops listed).length]? with
        | some i => Region.linearise.go .any ops fuel (t / (Region.ready .any ops listed).length) (listed.setIfInBounds i true) [i]
        | none => [].reverse := rfl
    have hready : ∀ i, i ∈ Region.ready .any ops listed ↔ i < ops.size ∧ i ∉ S ∧ Pre ops S i := by
      intro i
      unfold Region.ready
      rw [List.mem_filter, List.mem_range]
      constructor
      · rintro ⟨h1, h2⟩
        simp only [Bool.and_eq_true, Bool.not_eq_true'] at h2
        obtain ⟨h3, h4⟩ := h2
        rw [ht i h1] at h3
        refine ⟨h1, by simpa using h3, fun o ho ed he hb => ?_⟩
        rw [ho] at h4
        simp only [Option.map_some, Option.getD_some, Array.all_eq_true_iff_forall_mem] at h4
        have := h4 ed he
        rw [hb] at this
        simp only [Bool.not_true, Bool.false_or] at this
        rw [hf] at this
        simpa using this
      · rintro ⟨h1, h2, h3⟩
        refine ⟨h1, ?_⟩
        simp only [Bool.and_eq_true, Bool.not_eq_true']
        refine ⟨by rw [ht i h1]; simpa using h2, ?_⟩
        have ho : ops[i]? = some ops[i] := Array.getElem?_eq_getElem h1
        rw [ho]
        simp only [Option.map_some, Option.getD_some, Array.all_eq_true_iff_forall_mem]
        intro ed he
        cases hb : Region.binds .any ed with
        | false => rfl
        | true =>
          simp only [Bool.not_true, Bool.false_or]
          rw [hf]
          simpa using h3 _ ho ed he hb
    rw [hgo]
    cases hi : (Region.ready .any ops listed)[t % (Region.ready .any ops listed).length]? with
    | none =>
      have hnil : Region.ready .any ops listed = [] := by
        cases hr : Region.ready .any ops listed with
        | nil => rfl
        | cons x xs =>
          rw [hr] at hi
          have hlt' : t % (x :: xs).length < (x :: xs).length := Nat.mod_lt _ (by simp)
          rw [List.getElem?_eq_getElem hlt'] at hi
          cases hi
      left
      refine ⟨S, m, e, a, cs, w, ?_, hlt, .refl P _, h⟩
      intro q
      induction q using Nat.strongRecOn with
      | _ q ihq =>
        intro hq
        by_cases hm : q ∈ S
        · exact hm
        · exfalso
          have : q ∈ Region.ready .any ops listed := (hready q).2 ⟨hq, hm, fun o ho ed he hb => by
            have hback := staticB_back hst (i := q) (o := o) (by rw [Array.getElem?_toList]; exact ho) ed he hb
            exact ihq _ hback (by omega)⟩
          rw [hnil] at this
          cases this
    | some i =>
      obtain ⟨h1, h2, h3⟩ := (hready i).1 (List.mem_of_getElem? hi)
      simp only []
      rw [linearise_go_acc, List.reverse_singleton, List.singleton_append]
      rcases Nat.lt_trichotomy i N with hiN | hiN | hiN
      · obtain ⟨m1, e1, a1, cs1, w1, s1, i1⟩ := h.exec hR h0 hnb hst hcl hiN h2 h3 (Region.linearise.go .any ops fuel (t / (Region.ready .any ops listed).length) (listed.setIfInBounds i true) []) k
        have hcl' : Cl ops (i :: S) := by
          intro j hj o ho ed he hb
          rcases List.mem_cons.1 hj with rfl | hj
          · exact List.mem_cons_of_mem _ (h3 o ho ed he hb)
          · exact List.mem_cons_of_mem _ (hcl j hj o ho ed he hb)
        have hget : ∀ (d : Bool) j, (listed.setIfInBounds i true).getD j d = if j = i then true else listed.getD j d := by
          intro d j
          simp only [Array.getD_eq_getD_getElem?, Array.getElem?_setIfInBounds]
          by_cases hji : i = j
          · subst hji
            rw [if_pos rfl, if_pos rfl, if_pos (by rw [hsz]; exact h1)]
            rfl
          · rw [if_neg hji, if_neg (Ne.symm hji)]
        rcases ih (t / (Region.ready .any ops listed).length) (listed.setIfInBounds i true) (i :: S) m1 e1 a1 cs1 w1 (by simp; omega) (List.nodup_cons.2 ⟨h2, hnd⟩)
            (fun j hj => by rcases List.mem_cons.1 hj with rfl | hj; exact hiN; exact hlt j hj) hcl' (fun j => by rw [hget]; by_cases hji : j = i <;> simp [hji, hf j]) (fun j hj => by rw [hget]; by_cases hji : j = i <;> simp [hji, ht j hj]) (by simp [hsz]) i1 with
          ⟨S', m', e', a', cs', w', y1, y1', y2, y3⟩ | ⟨S', m', e', a', cs', w', rest, y1, y2, y2', y3, y4, y5, y6⟩
        · exact .inl ⟨S', m', e', a', cs', w', y1, y1', Steps.trans s1 y2, y3⟩
        · exact .inr ⟨S', m', e', a', cs', w', rest, y1, y2, y2', y3, y4, Steps.trans s1 y5, y6⟩
      · subst hiN
        exact .inr ⟨S, m, e, a, cs, w, _, h1, h2, hlt, hcl, h3, .refl P _, h⟩
      · exfalso
        have ho : ops[i]? = some ops[i] := Array.getElem?_eq_getElem h1
        obtain ⟨ed, y1, y2, y3⟩ := hang i _ hiN ho
        have := hlt _ (h3 _ ho ed y1 y2)
        omega
end
end Go.Proofs.YthagammlhhnpnaaGreatDoor.Ev

/-
  The evaluator's drawn regions: their law.
-/
namespace Go.Proofs.YthagammlhhnpnaaGreatDoor.Ev
section
variable {P : Program} {ng : Nat} {C : CallT}

noncomputable def drawnK (C : CallT) (ng : Nat) (tab : Tab P) (fr : Fr) (L : List Oper) (κ : OutT) (κp : List (V × Bool) → OutT) : OutT := fun tm ds u σ =>
  bif staticB L then drawK C ng tab fr L κ κp L 0 [] tm ds u σ else false

theorem tget_junk {t : Nat} (ht : t < 2 ^ dt) : ∀ (L : List Oper) (tm : T V), (∀ o ∈ L, ∀ d, o.dst = some d → d < 2 ^ dt) → tget (junkP L tm) t = .junk ∨ ((∀ o ∈ L, o.dst ≠ some t) ∧ tget (junkP L tm) t = tget tm t)
  | [], tm, _ => .inr ⟨by simp, rfl⟩
  | o :: L, tm, hd => by
    have hL : ∀ o ∈ L, ∀ d, o.dst = some d → d < 2 ^ dt := fun o ho => hd o (by simp [ho])
    cases hod : o.dst with
    | none =>
      have hj : junkP (o :: L) tm = junkP L tm := by simp only [junkP, hod]
      rw [hj]
      rcases tget_junk ht L tm hL with h | ⟨h1, h2⟩
      · exact .inl h
      · refine .inr ⟨fun x hx => ?_, h2⟩
        rcases List.mem_cons.1 hx with rfl | hx
        · rw [hod]; simp
        · exact h1 x hx
    | some d =>
      have hj : junkP (o :: L) tm = junkP L (T.set V.undefV V.junk dt d tm) := by simp only [junkP, hod]
      rw [hj]
      have hd1 := hd o (by simp) d hod
      have hg : tget (T.set V.undefV V.junk dt d tm) t = if t = d then .junk else tget tm t := T.get_set _ _ _ _ _ _ hd1 ht
      rcases tget_junk ht L (T.set V.undefV V.junk dt d tm) hL with h | ⟨h1, h2⟩
      · exact .inl h
      · by_cases he : t = d
        · left; rw [h2, hg, if_pos he]
        · rw [if_neg he] at hg
          refine .inr ⟨fun x hx => ?_, by rw [h2, hg]⟩
          rcases List.mem_cons.1 hx with rfl | hx
          · rw [hod]; simp only [ne_eq, Option.some.injEq]; exact fun h => he h.symm
          · exact h1 x hx

theorem AExt.nolog {σ σ' : St} (h : AExt { σ with log := [] } σ') : AExt σ { σ' with log := σ'.log ++ σ.log } :=
  ⟨h.next, fun _ hp _ => List.mem_append_right _ hp, fun i n hi hc => h.looks i n hi fun p hp => hc p (List.mem_append_left _ hp), fun i hi hc => h.keeps i hi fun p hp => hc p (List.mem_append_left _ hp)⟩

theorem Ext.relog {e e2 : Env} {σ σ' : St} {w w2 : World} {l : List (Nat × Nat × Nat)} (h : Ext ng e { σ with log := [] } w e2 σ' w2) (hx : AExt σ { σ' with log := l }) : Ext ng e σ w e2 { σ' with log := l } w2 :=
  ⟨h.le, h.next, h.size, h.newer, h.kept, h.orig, hx.logs, hx.looks, h.os, h.output, h.tape⟩

/-- all that is known is old enough -/
theorem Inv.all_cut {base : Nat} {tab : Tab P} {fr : Fr} {ops : Array Oper} {N : Nat} {R : Nat → Tr} {tm : Nat → T V} {ds : Nat → List ADef} {u : Nat → U} {σ : Nat → St} {b : Frame} {e0 : Env} {w0 : World} {cs0 : List Frame} {S : List Nat} {m : Nat} {e : Env} {a : Act} {cs : List Frame} {w : World}
    (h : Inv P ng base fr b N R tm ds u σ e0 w0 cs0 S m e a cs w) (hR : Rec P ng tab fr ops.toList N R tm ds u σ) (h0 : ∀ i, e0.M i → i < (σ 0).next) : e.le (e.cut (σ N).next) := by
  refine ⟨fun i hi => ⟨⟨hi, ?_⟩, rfl, rfl⟩⟩
  rcases h.ids i hi with h1 | ⟨q, q1, _, _, q4⟩
  · exact Nat.lt_of_lt_of_le (h0 i h1) (hR.next (Nat.zero_le _) (Nat.le_refl _))
  · exact Nat.lt_of_lt_of_le q4 (hR.next (by omega) (Nat.le_refl _))

theorem Inv.ext {base : Nat} {tab : Tab P} {fr : Fr} {ops : Array Oper} {N : Nat} {R : Nat → Tr} {tm : Nat → T V} {ds : Nat → List ADef} {u : Nat → U} {σ : Nat → St} {b : Frame} {e0 : Env} {w0 : World} {cs0 : List Frame} {S : List Nat} {e : Env} {a : Act} {cs : List Frame} {w : World}
    (h : Inv P ng base fr b N R tm ds u σ e0 w0 cs0 S N e a cs w) (hR : Rec P ng tab fr ops.toList N R tm ds u σ) (h0 : ∀ i, e0.M i → i < (σ 0).next) (hx : AExt (σ 0) (σ N)) : Ext ng e0 (σ 0) w0 (e.cut (σ N).next) (σ N) w where
  le := h.le0.trans (h.all_cut hR h0)
  next := hx.next
  size := h.wsize
  newer := fun i hi hn => by
    rcases h.ids i hi.1 with h1 | ⟨q, q1, _, q3, _⟩
    · exact absurd h1 hn
    · exact Nat.le_trans (hR.next (Nat.zero_le _) (by omega)) q3
  kept := h.kept
  orig := h.orig
  logs := hx.logs
  looks := hx.looks
  os := h.os
  output := h.output
  tape := h.tape

theorem drawnK_sound {tab : Tab P} (hC : CallOk P ng C) (hmix : P.follows .mixedOrders = true) {fr : Fr} {ops : Array Oper} {κ : OutT} {κp : List (V × Bool) → OutT} {tm : T V} {ds : List ADef} {u : U} {σ : St} (hwf : AWf σ)
    (h : drawnK C ng tab fr ops.toList κ κp tm ds u σ = true) :
    (∃ tm' ds' u' σ', κ tm' ds' u' σ' = true ∧ AWf σ' ∧ AExt σ σ' ∧ ∀ base e (b : Frame) a cs w k id, ng ≤ base → SR ng base fr e tm ds u σ b a cs w →
      To P ng base fr b e σ w cs (lone (b.atR a (.code (.region id ops true) :: k)) cs w) k tm' ds' u' σ') ∨
    (∃ ch tm' ds' u' σ', κp ch tm' ds' u' σ' = true ∧ AWf σ' ∧ AExt σ σ' ∧ ∀ base e (b : Frame) a cs w k id, ng ≤ base → SR ng base fr e tm ds u σ b a cs w →
      Pan P ng base fr b e σ w cs (lone (b.atR a (.code (.region id ops true) :: k)) cs w) ch tm' ds' u' σ') := by
  unfold drawnK at h
  rw [cond_eq_ite] at h
  split at h
  · rename_i hst
    -- entering
    have enter : ∀ {N : Nat} {R : Nat → Tr} {tmF : Nat → T V} {dsF : Nat → List ADef} {uF : Nat → U} {σF : Nat → St}, Rec P ng tab fr ops.toList N R tmF dsF uF σF → tmF 0 = tm → dsF 0 = ds → uF 0 = u → σF 0 = σ → N ≤ ops.size →
        (∀ q oq, N < q → ops[q]? = some oq → ∃ ed ∈ oq.after, Region.binds .any ed = true ∧ N ≤ ed.on) → ∀ base e (b : Frame) a cs w k id, ng ≤ base → SR ng base fr e tm ds u σ b a cs w →
        (∃ S' m' e' a' cs' w', (∀ q, q < ops.size → q ∈ S') ∧ (∀ j ∈ S', j < N) ∧ Steps P (lone (b.atR a (.code (.region id ops true) :: k)) cs w) (lone (b.atR a' (.inRegion ops [] :: k)) cs' w') ∧ Inv P ng base fr b N R tmF dsF uF σF e w cs S' m' e' a' cs' w') ∨
        (∃ S' m' e' a' cs' w' rest, N < ops.size ∧ N ∉ S' ∧ (∀ j ∈ S', j < N) ∧ Cl ops S' ∧ Pre ops S' N ∧ Steps P (lone (b.atR a (.code (.region id ops true) :: k)) cs w) (lone (b.atR a' (.inRegion ops (N :: rest) :: k)) cs' w') ∧ Inv P ng base fr b N R tmF dsF uF σF e w cs S' m' e' a' cs' w') := by
      intro N R tmF dsF uF σF hR a1 a2 a3 a4 hN hang base e b a cs w k id hnb hs
      have h0 : ∀ i, e.M i → i < (σF 0).next := fun i hi => by rw [a4]; exact hs.rel.lim i hi
      have hcut : e.le (e.cut (σF 0).next) := ⟨fun i hi => ⟨⟨hi, h0 i hi⟩, rfl, rfl⟩⟩
      have hinv : Inv P ng base fr b N R tmF dsF uF σF e w cs [] 0 e a cs { w with drawn := w.drawn + 1 } :=
        ⟨Nat.zero_le _, fun p _ _ => by simp, hs.room, by rw [a4] at hcut ⊢; exact (Rel.gc (w' := { w with drawn := w.drawn + 1 }) hs.rel rfl).congr hcut (fun i hi => hi.1), hs.glob.mono hcut, hs.bf.mono hcut, by rw [a2]; exact hs.ds.mono hcut, by rw [a3]; exact .refl (hs.kr.mono hcut), .refl e, fun i hi => .inl hi, fun q _ hq => by simp at hq, fun q _ hq => by simp at hq,
          fun t ht _ => by rw [a1]; exact hs.tm.rel t ht, hs.tm.size, Nat.le_refl _, fun _ _ _ => rfl, fun i hi hn hg _ => ⟨i, hi.1, by rw [a4] at hn ⊢; exact hn, hg, rfl⟩, rfl, rfl, rfl⟩
      have hstep := stepR_region_draw (P := P) (b := b) (a := a) (k := k) (cs := cs) (w := w) (ops := ops) (id := id)
      have hsch : Region.schedule (P.follows .mixedOrders) ops (w.tape w.drawn (.order b.fn id)) = Region.linearise.go .any ops ops.size (w.tape w.drawn (.order b.fn id)) (Array.replicate ops.size false) [] := by
        simp only [Region.schedule, hmix, Bool.true_or, if_true, Region.linearise]
      rw [hsch] at hstep
      rcases draw_all hR h0 hnb hst hN hang k ops.size (w.tape w.drawn (.order b.fn id)) (Array.replicate ops.size false) [] 0 e a cs _ (by simp) (by simp) (by simp) (by intro i hi; simp at hi)
          (fun j => by simp [Array.getD_eq_getD_getElem?, Array.getElem?_replicate]; split <;> rfl) (fun j hj => by simp [Array.getD_eq_getD_getElem?, Array.getElem?_replicate, hj]) (by simp) hinv with
        ⟨S', m', e', a', cs', w', y1, y1', y2, y3⟩ | ⟨S', m', e', a', cs', w', rest, y1, y2, y2', y3, y4, y5, y6⟩
      · exact .inl ⟨S', m', e', a', cs', w', y1, y1', .head hstep y2, y3⟩
      · exact .inr ⟨S', m', e', a', cs', w', rest, y1, y2, y2', y3, y4, .head hstep y5, y6⟩
    rcases drawK_sound hC ops.toList [] tm ds u σ rfl hwf .nil h with ⟨hist, tm', ds', u', σ', g1, g2, g3, g4⟩ | ⟨hist, tm1, ds1, u1, σ1, o, ch, u', σ', g1, g2, g3, g4, g5, g6, g7, g8, g9, g10, g11, g12, hdall⟩
    · left
      refine ⟨tm', ds', u', σ', g1, g2, g4.aext, ?_⟩
      obtain ⟨R, tmF, dsF, uF, σF, hR, a1, a2, a3, a4, b1, b2, b3, b4, _⟩ := g4.record hwf
      have hlen : hist.length = ops.size := by rw [g3]; simp
      rw [hlen] at hR b1 b2 b3 b4
      intro base e b a cs w k id hnb hs
      have h0 : ∀ i, e.M i → i < (σF 0).next := fun i hi => by rw [a4]; exact hs.rel.lim i hi
      rcases enter hR a1 a2 a3 a4 (Nat.le_refl _) (fun q oq hq hoq => by have := (Array.getElem?_eq_some_iff.1 hoq).1; omega) base e b a cs w k id hnb hs with ⟨S', m', e', a', cs', w', y1, y1', y2, y3⟩ | ⟨S', m', e', a', cs', w', rest, y1, _⟩
      · have y4 := y3.upto hR h0 (Nat.le_refl _) y3.mN (fun k k1 k2 hk => by
          have := (y3.eff k k2 hk).1 (y1 k k2); omega)
        have hall := y4.all_cut hR h0
        have hx : AExt (σF 0) (σF ops.size) := by rw [a4, b4]; exact g4.aext
        refine ⟨e'.cut (σF ops.size).next, a', cs', w', Steps.trans y2 (.one stepR_region_end), ⟨y4.room, by rw [← b4]; exact y4.main, y4.glob, y4.bf, ⟨y4.size, fun t ht => ?_⟩, by rw [← b2]; exact y4.dl, by rw [← b3]; exact y4.ks.kr⟩, by rw [← a4, ← b4]; exact y4.ext hR h0 hx, by rw [← b3]; exact y4.ks⟩
        rw [← b1]
        rcases hR.tget ht (Nat.le_refl _) with ⟨j, j1, j2, j3⟩ | ⟨j1, j2⟩
        · rw [j3]; exact VR.mono hall _ _ (y4.vals j j1 (y1 j j1) t j2)
        · rw [j2]; exact VR.mono hall _ _ (y4.rest t ht fun q q1 _ => j1 q q1)
      · omega
    · right
      refine ⟨ch, junkP ops.toList tm1, ds1, u', _, g1, ⟨g2.next, g2.fresh⟩, g3.aext.trans g8.nolog, ?_⟩
      obtain ⟨R, tmF, dsF, uF, σF, hR, a1, a2, a3, a4, b1, b2, b3, b4, _, hmem, hlast⟩ := g3.record hwf
      have hNlt : hist.length < ops.size := by have := (List.getElem?_eq_some_iff.1 g5).1; simpa using this
      have hoN : ops[hist.length]? = some o := by rw [← Array.getElem?_toList]; exact g5
      intro base e b a cs w k id hnb hs
      have h0 : ∀ i, e.M i → i < (σF 0).next := fun i hi => by rw [a4]; exact hs.rel.lim i hi
      rcases enter hR a1 a2 a3 a4 (Nat.le_of_lt hNlt) (fun q oq hq hoq => g12 q oq hq (by rw [Array.getElem?_toList]; exact hoq)) base e b a cs w k id hnb hs with ⟨S', m', e', a', cs', w', y1, y1', _⟩ | ⟨S', m', e', a', cs', w', rest, _, y2, y2', y3, y4, y5, y6⟩
      · have := y1' _ (y1 _ hNlt); omega
      · have z1 := y6.upto hR h0 (Nat.le_refl _) y6.mN (y6.noEff (Nat.le_refl _) hoN y3 y4 fun j j1 j2 j3 => g11 j (hlast j j1 j2 j3))
        have hall := z1.all_cut hR h0
        have hoper0 := z1.operand hR hst y3 (Nat.le_refl _) hoN y2 y4
        have hoper := opsBd_cut (n := (σF hist.length).next) (by rw [b1, b4]; exact g7) hoper0
        have hwant := z1.wants hR hst y3 (Nat.le_refl _) hoN y2 y4 (by rw [b1]; exact g6)
        have hx : AExt (σF 0) (σF hist.length) := by rw [a4, b4]; exact g3.aext
        have hext := z1.ext hR h0 hx
        rw [b1] at hoper
        obtain ⟨e2, cs2, w2, CH, r1, r2, r3, r4, r5⟩ := g9 base (e'.cut (σF hist.length).next) b a' cs' w' ops hist.length rest k z1.room hnb (by rw [← b4]; exact z1.main.log []) z1.glob z1.bf hoper (by rw [← b3]; exact z1.ks.kr) hoN hwant
        refine ⟨e2, a', cs2, w2, _, CH, Steps.trans y5 r1, r2, ⟨Nat.le_trans z1.room r4.size, r3.log _, z1.glob.mono r4.le, z1.bf.mono r4.le, ⟨z1.size, fun t ht => ?_⟩, by rw [← b2]; exact z1.dl.mono r4.le, r5.kr⟩, ?_, by rw [b3] at *; exact z1.ks.trans r5⟩
        · rcases tget_junk ht ops.toList tm1 hdall with hj | ⟨hj1, hj2⟩
          · rw [hj]; simp only [VR]
          · rw [hj2, ← b1]
            rcases hR.tget ht (Nat.le_refl _) with ⟨j, j1, j2, _⟩ | ⟨j1, j2⟩
            · exact absurd j2 (hj1 _ (by have := hR.oper j1; rw [← Array.getElem?_toList] at this; exact List.mem_of_getElem? this))
            · rw [j2]; exact VR.mono (hall.trans r4.le) _ _ (z1.rest t ht fun q q1 _ => j1 q q1)
        · have r4' := Ext.relog (σ := σ1) r4 g8.nolog
          rw [a4, b4] at hext
          rw [b4] at r4'
          exact hext.trans r4'
  · cases h
end
end Go.Proofs.YthagammlhhnpnaaGreatDoor.Ev

/-
  The evaluator's loops over functions: entering, the rounds, leaving; the mark for calls that are deferred in rounds.
-/
namespace Go.Proofs.YthagammlhhnpnaaGreatDoor.Ev
section
variable {P : Program} {ng : Nat}

/-- a loop's record, turned -/
noncomputable def turnK (ng : Nat) (σ : St) (l : Nat) (ok : LoopState → Bool) (st' : LoopState → LoopState) (pd' : Option Code → Option Code) (κ : Option Code → St → Bool) : Bool :=
  match σ.at l with
  | .loop st pd fn tm nt ps as bd d => bif ok st then obK ng σ l (.loop (st' st) (pd' pd) fn tm nt ps as bd d) fun σ' => κ pd σ' else false
  | _ => false

theorem turnK_goes {σ : St} (hwf : AWf σ) {l : Nat} {ok : LoopState → Bool} {st' : LoopState → LoopState} {pd' : Option Code → Option Code} {κ : Option Code → St → Bool} (h : turnK ng σ l ok st' pd' κ = true) :
    ∃ pd σ', κ pd σ' = true ∧ AWf σ' ∧ AExt σ σ' ∧ ∀ base e w, Rel ng base e σ w → e.M l → ∃ r w', w.heap[e.blk l]? = some (.loop r) ∧ ok r.state = true ∧ r.pending = pd ∧
      (setObj (e.blk l) (.loop { r with state := st' r.state, pending := pd' r.pending })).run P w = .ok () w' ∧ Rel ng base e σ' w' ∧ Ext ng e σ w e σ' w' := by
  unfold turnK at h
  split at h
  · rename_i st pd fn tm nt ps as bd d hat
    rw [cond_eq_ite] at h
    split at h
    · rename_i hok
      obtain ⟨σ', h1, h2, h3, h4⟩ := obK_goes (P := P) hwf hat rfl rfl h
      refine ⟨pd, σ', h1, h2, h3, fun base e w hr hm => ?_⟩
      obtain ⟨o, g1, ⟨g2, ts, g3, g4, g5⟩, _⟩ := ob_sound hr hm hat rfl
      subst g3
      obtain ⟨w', k1, k2, k3⟩ := h4 base e w _ hr hm ⟨g2, ts, rfl, g4, g5⟩
      exact ⟨_, w', g1, hok, rfl, k1, k2, k3⟩
    · cases h
  · cases h

/-- the statement's end -/
noncomputable def leaveK (ng : Nat) (σ : St) (l : Nat) (κ : Option Code → St → Bool) : Bool :=
  turnK ng σ l (fun s => match s with | .busy => false | _ => true) (fun _ => .exhausted) (fun p => p) κ

theorem leaveK_goes {σ : St} (hwf : AWf σ) {l : Nat} {κ : Option Code → St → Bool} (h : leaveK ng σ l κ = true) :
    ∃ pd σ', κ pd σ' = true ∧ AWf σ' ∧ AExt σ σ' ∧ ∀ base e w, Rel ng base e σ w → e.M l → ∃ w', (Instr.endLoop (e.blk l)).run P w = .ok pd w' ∧ Rel ng base e σ' w' ∧ Ext ng e σ w e σ' w' := by
  obtain ⟨pd, σ', h1, h2, h3, h4⟩ := turnK_goes (P := P) hwf h
  refine ⟨pd, σ', h1, h2, h3, fun base e w hr hm => ?_⟩
  obtain ⟨r, w', g1, g2, g3, g4, g5, g6⟩ := h4 base e w hr hm
  refine ⟨w', ?_, g5, g6⟩
  have hb : r.state ≠ .busy := by intro hb; rw [hb] at g2; cases g2
  rw [← g3]
  simp [Instr.endLoop, Sem.run_bind, run_getLoop g1, hb, g4, Result.andThen]

/-- a round begins -/
noncomputable def beginK (ng : Nat) (σ : St) (l : Nat) (κ : St → Bool) : Bool :=
  turnK ng σ l (fun s => match s with | .ready => true | _ => false) (fun _ => .busy) (fun p => p) fun _ σ' => κ σ'

theorem beginK_goes {σ : St} (hwf : AWf σ) {l : Nat} {κ : St → Bool} (h : beginK ng σ l κ = true) :
    ∃ σ', κ σ' = true ∧ AWf σ' ∧ AExt σ σ' ∧ ∀ base e w, Rel ng base e σ w → e.M l → ∃ w', (Instr.beginRound (e.blk l)).run P w = .ok () w' ∧ Rel ng base e σ' w' ∧ Ext ng e σ w e σ' w' := by
  obtain ⟨pd, σ', h1, h2, h3, h4⟩ := turnK_goes (P := P) hwf h
  refine ⟨σ', h1, h2, h3, fun base e w hr hm => ?_⟩
  obtain ⟨r, w', g1, g2, g3, g4, g5, g6⟩ := h4 base e w hr hm
  refine ⟨w', ?_, g5, g6⟩
  have hs : r.state = .ready := by cases hs : r.state <;> rw [hs] at g2 <;> first | rfl | cases g2
  simp [Instr.beginRound, Sem.run_bind, run_getLoop g1, g4, hs, Result.andThen]

/-- a round ends -/
noncomputable def endRdK (ng : Nat) (σ : St) (l : Nat) (jump : Option Code) (κ : St → Bool) : Bool :=
  turnK ng σ l (fun _ => true) (fun _ => if jump.isNone then .ready else .done) (fun _ => jump) fun _ σ' => κ σ'

theorem endRdK_goes {σ : St} (hwf : AWf σ) {l : Nat} {jump : Option Code} {κ : St → Bool} (h : endRdK ng σ l jump κ = true) :
    ∃ σ', κ σ' = true ∧ AWf σ' ∧ AExt σ σ' ∧ ∀ base e w, Rel ng base e σ w → e.M l → ∃ w', (Instr.endRound (e.blk l) jump).run P w = .ok (.bool jump.isNone) w' ∧ Rel ng base e σ' w' ∧ Ext ng e σ w e σ' w' := by
  obtain ⟨pd, σ', h1, h2, h3, h4⟩ := turnK_goes (P := P) hwf h
  refine ⟨σ', h1, h2, h3, fun base e w hr hm => ?_⟩
  obtain ⟨r, w', g1, g2, g3, g4, g5, g6⟩ := h4 base e w hr hm
  refine ⟨w', ?_, g5, g6⟩
  simp only [Instr.endRound, Sem.run_bind, run_getLoop g1, Result.andThen_ok, g4, Sem.run_pure]

/-- the statement's beginning: the record, and for a loop that is in no round the block of deferred calls with its mark -/
noncomputable def enterK (fr : Fr) (tm : T V) (ps : List Tmp) (as bd : Code) (σ : St) (κ : Nat → List ADef → St → Bool) : Bool :=
  match fr.rd with
  | none => σ.newK (.dfd []) fun d σ1 => σ1.newK (.loop .ready none fr.fn tm fr.nt ps as bd d) fun l σ2 => κ l [{ fn := .func 0, captured := [], args := [], mark := some d }] σ2
  | some l0 =>
    match σ.at l0 with
    | .loop _ _ _ _ _ _ _ _ d => σ.newK (.loop .ready none fr.fn tm fr.nt ps as bd d) fun l σ1 => κ l [] σ1
    | _ => false

theorem enterK_goes {fr : Fr} {tm : T V} {ps : List Tmp} {as bd : Code} {σ : St} (hwf : AWf σ) {κ : Nat → List ADef → St → Bool} (h : enterK fr tm ps as bd σ κ = true) :
    ∃ l mk σ', κ l mk σ' = true ∧ AWf σ' ∧ AExt σ σ' ∧ ∀ base e ds u (b : Frame) a cs w, SR ng base fr e tm ds u σ b a cs w →
      ∃ e' w' ms, (Instr.enterLoop b.fn a.tmps ps.toArray as bd b.roundOf).run P w = .ok (e'.blk l, ms) w' ∧ e'.M l ∧ DRs e' mk ms ∧ Rel ng base e' σ' w' ∧ Ext ng e σ w e' σ' w' := by
  unfold enterK at h
  split at h
  · rename_i hrd
    obtain ⟨h1, h2, h3, h4⟩ := newK_goes (P := P) (ng := ng) hwf h
    obtain ⟨k1, k2, k3, k4⟩ := newK_goes (P := P) (ng := ng) h2 h1
    refine ⟨_, _, _, k1, k2, h3.trans k3, fun base e ds u b a cs w hs => ?_⟩
    obtain ⟨w1, g1, g2, g3⟩ := h4 base e w (.deferred (some [])) 0 hs.room hs.rel ⟨[], rfl, trivial⟩
    have hro : b.roundOf = none := by have := hs.bf.2.2; rw [hrd] at this; exact this
    have hnm : ¬ (e.more σ.next w.heap.size 0).M (σ.more (.dfd [])).next := fun hm => Nat.lt_irrefl _ (g2.lim _ hm)
    have hle := Env.le_more (e.more σ.next w.heap.size 0) (σ.more (.dfd [])).next w1.heap.size 0 hnm
    obtain ⟨hd1, hd2, _⟩ := hle.mono σ.next (.inr rfl)
    have hd0 : (e.more σ.next w.heap.size 0).blk σ.next = w.heap.size := by simp [Env.more]
    obtain ⟨w2, q1, q2, q3⟩ := k4 base _ w1 (.loop { state := .ready, pending := none, fn := b.fn, tmps := a.tmps, params := ps.toArray, assign := as, body := bd, defers := w.heap.size }) 0 (Nat.le_trans hs.room g3.size) g2
      ⟨hd1, a.tmps, by rw [hd2, hd0, hs.bf.1], hs.tm.size, fun t ht => VR.mono (g3.le.trans hle) _ _ (hs.tm.rel t ht)⟩
    refine ⟨(e.more σ.next w.heap.size 0).more (σ.more (.dfd [])).next w1.heap.size 0, w2, [{ target := .collected w.heap.size, args := #[] }], ?_, .inr rfl, ⟨⟨hd1, by rw [hd2, hd0]⟩, trivial⟩, q2, g3.trans q3⟩
    have hl : ((e.more σ.next w.heap.size 0).more (σ.more (.dfd [])).next w1.heap.size 0).blk (σ.more (.dfd [])).next = w1.heap.size := by simp [Env.more]
    rw [hl, hro]
    simp only [Instr.enterLoop, Sem.run_bind, g1, Result.andThen_ok, Sem.run_pure, q1]
  · rename_i l0 hrd
    split at h
    · rename_i _ _ _ _ _ _ _ _ d hat
      obtain ⟨k1, k2, k3, k4⟩ := newK_goes (P := P) (ng := ng) hwf h
      refine ⟨_, _, _, k1, k2, k3, fun base e ds u b a cs w hs => ?_⟩
      have hro := hs.bf.2.2
      rw [hrd] at hro
      obtain ⟨hm, hro⟩ := hro
      obtain ⟨o, g1, ⟨g2, ts, g3, _⟩, _⟩ := ob_sound hs.rel hm hat rfl
      subst g3
      have hnm : ¬ e.M σ.next := fun hm => Nat.lt_irrefl _ (hs.rel.lim _ hm)
      have hle := Env.le_more e σ.next w.heap.size 0 hnm
      obtain ⟨hd1, hd2, _⟩ := hle.mono d g2
      obtain ⟨w2, q1, q2, q3⟩ := k4 base e w (.loop { state := .ready, pending := none, fn := b.fn, tmps := a.tmps, params := ps.toArray, assign := as, body := bd, defers := e.blk d }) 0 hs.room hs.rel
        ⟨hd1, a.tmps, by rw [hd2, hs.bf.1], hs.tm.size, fun t ht => VR.mono hle _ _ (hs.tm.rel t ht)⟩
      refine ⟨e.more σ.next w.heap.size 0, w2, [], ?_, .inr rfl, trivial, q2, q3⟩
      have hl : (e.more σ.next w.heap.size 0).blk σ.next = w.heap.size := by simp [Env.more]
      rw [hl, hro]
      simp only [Instr.enterLoop, Sem.run_bind, run_getLoop g1, Result.andThen_ok, Sem.run_pure, q1]
    · cases h
end
end Go.Proofs.YthagammlhhnpnaaGreatDoor.Ev

/-
  The evaluator's loop over a frame's items.
-/
namespace Go.Proofs.YthagammlhhnpnaaGreatDoor.Ev

/-- how a frame's code is left: by its end or 'ret'; in a round, by a jump; by a panic -/
inductive FOut where
  | fin
  | left (jump : Option Code)
  | pan (ch : List (V × Bool))

section
variable {P : Program} {ng : Nat} {C : CallT}

noncomputable def exitA (id : Nat) : List Item → Option (List Item) :=
  fun l => List.rec (motive := fun _ => Option (List Item)) none (fun x k ih => match x with | .inBlock id' => Bool.rec (motive := fun _ => Option (List Item)) ih (some k) (Nat.beq id' id) | _ => ih) l
theorem exitA_eq (id : Nat) : ∀ l : List Item, exitA id l = exitTo id l
  | [] => rfl
  | x :: k => by
    have ih := exitA_eq id k
    cases x with
    | inBlock id' =>
      have h : exitA id (.inBlock id' :: k) = Bool.rec (motive := fun _ => Option (List Item)) (exitA id k) (some k) (Nat.beq id' id) := rfl
      rw [h, ih]
      simp only [exitTo]
      cases hb : Nat.beq id' id with
      | true => have := Nat.eq_of_beq_eq_true hb; simp [this]
      | false => have := Nat.ne_of_beq_eq_false hb; simp [this]
    | _ => exact ih

/-- one item of a frame -/
noncomputable def itemK (C : CallT) (ng : Nat) (tab : Tab P) (fr : Fr) (κ : FOut → OutT) (next : List Item → OutT) (todo : List Item) : OutT := fun tm ds u σ =>
  match todo with
  | [] => match fr.rd with | none => κ .fin tm ds u σ | some _ => κ (.left none) tm ds u σ
  | .code c :: k =>
    match c with
    | .skip => next k tm ds u σ
    | .label _ => next k tm ds u σ
    | .seq a b => next (.code a :: .code b :: k) tm ds u σ
    | .cond c x y => match evalA ng tm c with | .bool true => next (.code x :: k) tm ds u σ | .bool false => next (.code y :: k) tm ds u σ | _ => false
    | .block id body => next (.code body :: .inBlock id :: k) tm ds u σ
    | .loop body => next (.code body :: .inLoop body :: k) tm ds u σ
    | .scope body => next (.code body :: .inScope body :: k) tm ds u σ
    | .exit id => match exitA id k with | some k' => next k' tm ds u σ | none => match fr.rd with | some _ => κ (.left (some (.exit id))) tm ds u σ | none => false
    | .ret => match fr.rd with | none => κ .fin tm ds u σ | some _ => κ (.left (some .ret)) tm ds u σ
    | .region _ ops true => drawnK C ng tab fr ops.toList (next k) (fun ch => κ (.pan ch)) tm ds u σ
    | .region _ ops false => opsK C ng tab fr ops.toList (next k) (fun ch => κ (.pan ch)) ops.toList tm ds u σ
    | .rangeFunc f ps as bd =>
      match evalA ng tm f with
      | .func (.func g) first captured =>
        match tab.fn g with
        | some _ => enterK fr tm ps.toList as bd σ fun l mk σ1 => lappK first (.yieldf l :: captured) fun all => C (.fn g all false) .none σ1 fun out _ σ2 =>
          match out with
          | .ret _ => leaveK ng σ2 l fun jump σ3 => lappK mk ds fun ds' =>
            match jump with
            | none => next k tm ds' u σ3
            | some c => next (.code c :: k) tm ds' u σ3
          | .pan ch => lappK mk ds fun ds' => κ (.pan ch) tm ds' u σ2
        | none => false
      | _ => false
    | _ => false
  | .inBlock _ :: k => next k tm ds u σ
  | .inScope _ :: k => next k tm ds u σ
  | .inLoop c :: k => next (.code c :: .inLoop c :: k) tm ds u σ
  | .beginRound :: k => match fr.rd with | some l => beginK ng σ l fun σ' => next k tm ds u σ' | none => false
  | _ => false

noncomputable def runF (C : CallT) (ng : Nat) (tab : Tab P) (fr : Fr) (κ : FOut → OutT) (n : Nat) : List Item → OutT :=
  Nat.rec (motive := fun _ => List Item → OutT) (fun _ _ _ _ _ => false) (fun _ ih todo => itemK C ng tab fr κ ih todo) n

/-- where a round's code is left by a jump -/
def Leaves? (jump : Option Code) (todo : List Item) : Prop :=
  match jump with
  | none => todo = []
  | some .ret => ∃ k, todo = .code .ret :: k
  | some (.exit id) => ∃ k, todo = .code (.exit id) :: k ∧ exitTo id k = none
  | _ => False

def FDone (P : Program) (ng base : Nat) (fr : Fr) (b : Frame) (e : Env) (σ : St) (w : World) (cs : List Frame) (m : Machine) (out : FOut) (tm' : T V) (ds' : List ADef) (u' : U) (σ' : St) : Prop :=
  match out with
  | .fin => ∃ e' a' cs' w' todo, Steps P m (lone { b.atR a' todo with mode := .returning } cs' w') ∧ SR ng base fr e' tm' ds' u' σ' b a' cs' w' ∧ Ext ng e σ w e' σ' w' ∧ KS e' fr u' cs cs'
  | .left jump => ∃ todo, Leaves? jump todo ∧ To P ng base fr b e σ w cs m todo tm' ds' u' σ'
  | .pan ch => Pan P ng base fr b e σ w cs m ch tm' ds' u' σ'

theorem FDone.after {base : Nat} {fr : Fr} {b : Frame} {e : Env} {σ : St} {w : World} {cs : List Frame} {m : Machine} {todo : List Item} {tm' : T V} {ds' : List ADef} {u' : U} {σ' : St} (h : To P ng base fr b e σ w cs m todo tm' ds' u' σ')
    {out : FOut} {tm2 : T V} {ds2 : List ADef} {u2 : U} {σ2 : St} (k : ∀ e a cs w, SR ng base fr e tm' ds' u' σ' b a cs w → FDone P ng base fr b e σ' w cs (lone (b.atR a todo) cs w) out tm2 ds2 u2 σ2) : FDone P ng base fr b e σ w cs m out tm2 ds2 u2 σ2 := by
  obtain ⟨e1, a1, cs1, w1, h1, h2, h3, h4⟩ := h
  have hk := k e1 a1 cs1 w1 h2
  cases out with
  | fin =>
    obtain ⟨e2, a2, cs2, w2, td, k1, k2, k3, k4⟩ := hk
    exact ⟨e2, a2, cs2, w2, td, Steps.trans h1 k1, k2, h3.trans k3, h4.trans k4⟩
  | left jump =>
    obtain ⟨td, j1, e2, a2, cs2, w2, k1, k2, k3, k4⟩ := hk
    exact ⟨td, j1, e2, a2, cs2, w2, Steps.trans h1 k1, k2, h3.trans k3, h4.trans k4⟩
  | pan ch =>
    obtain ⟨e2, a2, cs2, w2, td, CH, k1, k2, k3, k4, k5⟩ := hk
    exact ⟨e2, a2, cs2, w2, td, CH, Steps.trans h1 k1, k2, k3, h3.trans k4, h4.trans k5⟩

def FGoes (P : Program) (ng : Nat) (fr : Fr) (κ : FOut → OutT) (todo : List Item) (tm : T V) (ds : List ADef) (u : U) (σ : St) : Prop :=
  ∃ out tm' ds' u' σ', κ out tm' ds' u' σ' = true ∧ AWf σ' ∧ AExt σ σ' ∧ ∀ base e (b : Frame) a cs w, ng ≤ base → SR ng base fr e tm ds u σ b a cs w → FDone P ng base fr b e σ w cs (lone (b.atR a todo) cs w) out tm' ds' u' σ'

theorem stepR_scope {b : Frame} {a : Act} {k : List Item} {cs : List Frame} {w : World} {c : Code} : step P (lone (b.atR a (.code (.scope c) :: k)) cs w) = .next (lone (b.atR a (.code c :: .inScope c :: k)) cs w) :=
  step_lone_go (by simp [stepG, stepG.exec, Frame.atR])
theorem stepR_inScope {b : Frame} {a : Act} {k : List Item} {cs : List Frame} {w : World} {c : Code} : step P (lone (b.atR a (.inScope c :: k)) cs w) = .next (lone (b.atR a k) cs w) :=
  step_lone_go (by simp [stepG, stepG.exec, Frame.atR])

theorem FGoes.next {fr : Fr} {κ : FOut → OutT} {todo todo' : List Item} {tm : T V} {ds : List ADef} {u : U} {σ : St} (h : FGoes P ng fr κ todo' tm ds u σ)
    (hs : ∀ base e (b : Frame) a cs w, SR ng base fr e tm ds u σ b a cs w → step P (lone (b.atR a todo) cs w) = .next (lone (b.atR a todo') cs w)) : FGoes P ng fr κ todo tm ds u σ := by
  obtain ⟨out, tm', ds', u', σ', h1, h2, h3, h4⟩ := h
  exact ⟨out, tm', ds', u', σ', h1, h2, h3, fun base e b a cs w hnb hsr => FDone.after (To.one hsr (hs base e b a cs w hsr)) fun e a cs w h' => h4 base e b a cs w hnb h'⟩

theorem FGoes.to {fr : Fr} {κ : FOut → OutT} {todo todo' : List Item} {tm tm1 : T V} {ds ds1 : List ADef} {u u1 : U} {σ σ1 : St} (h : FGoes P ng fr κ todo' tm1 ds1 u1 σ1) (hx : AExt σ σ1)
    (hs : ∀ base e (b : Frame) a cs w, ng ≤ base → SR ng base fr e tm ds u σ b a cs w → To P ng base fr b e σ w cs (lone (b.atR a todo) cs w) todo' tm1 ds1 u1 σ1) : FGoes P ng fr κ todo tm ds u σ := by
  obtain ⟨out, tm', ds', u', σ', h1, h2, h3, h4⟩ := h
  exact ⟨out, tm', ds', u', σ', h1, h2, hx.trans h3, fun base e b a cs w hnb hsr => FDone.after (hs base e b a cs w hnb hsr) fun e a cs w h' => h4 base e b a cs w hnb h'⟩

theorem BR.norm {e : Env} {fr : Fr} {b : Frame} (h : BR e fr b) (hr : fr.rd = none) : b.roundOf = none := by
  have := h.2.2
  rw [hr] at this
  exact this

theorem SR.less {base : Nat} {fr : Fr} {e e' : Env} {tm : T V} {ds : List ADef} {u : U} {σ σ' : St} {b : Frame} {a : Act} {cs : List Frame} {w w' : World} (h : SR ng base fr e tm ds u σ b a cs w) (hr : Rel ng base e' σ' w') (hx : Ext ng e σ w e' σ' w') : SR ng base fr e' tm ds u σ' b a cs w' :=
  ⟨Nat.le_trans h.room hx.size, hr, h.glob.mono hx.le, h.bf.mono hx.le, h.tm.mono hx.le, h.ds.mono hx.le, h.kr.mono hx.le⟩

/-- a loop over a function: what the called function does, and the rest -/
theorem rangeFunc_run {tab : Tab P} (hC : CallOk P ng C) {fr : Fr} {f : Operand} {ps : Array Tmp} {as bd : Code} {tm : T V} {ds : List ADef} {u : U} {σ : St} {g : FuncId} {fn : Func} {first captured : List V} (hwf : AWf σ)
    (hv : evalA ng tm f = .func (.func g) first captured) (hg : tab.fn g = some fn) {κ : Nat → List ADef → COut → St → Bool}
    (h : (enterK fr tm ps.toList as bd σ fun l mk σ1 => C (.fn g (first ++ (.yieldf l :: captured)) false) .none σ1 fun out _ σ2 => κ l mk out σ2) = true) :
    ∃ l mk out σ2, κ l mk out σ2 = true ∧ AWf σ2 ∧ AExt σ σ2 ∧ ∀ base e (b : Frame) a cs w k, ng ≤ base → SR ng base fr e tm ds u σ b a cs w →
      ∃ e' w' ms fr' E, Steps P (lone (b.atR a (.code (.rangeFunc f ps as bd) :: k)) cs w) (lone fr' (b.atR { a with defers := ms ++ a.defers } (.inRangeFunc (e'.blk l) :: k) :: cs) w') ∧ fr'.leaving P w' E ∧ ER e' out E ∧ e'.M l ∧ DRs e' mk ms ∧
        SR ng base fr e' tm (mk ++ ds) u σ2 b { a with defers := ms ++ a.defers } cs w' ∧ Ext ng e σ w e' σ2 w' := by
  obtain ⟨l, mk, σ1, h1, h2, h3, h4⟩ := enterK_goes (P := P) (ng := ng) hwf h
  obtain ⟨out, _, σ2, k1, k2, k3, k4⟩ := hC _ _ _ _ h2 h1
  refine ⟨l, mk, out, σ2, k1, k2, h3.trans k3, fun base e b a cs w k hnb hs => ?_⟩
  obtain ⟨e1, w1, ms, g1, g2, g3, g4, g5⟩ := h4 base e ds u b a cs w hs
  rw [Array.toArray_toList] at g1
  have hs1 := hs.less g4 g5
  have hx := evalA_sound hs.glob hs.tm f
  rw [hv] at hx
  simp only [VR] at hx
  obtain ⟨_, fa, ca, he, hf1, hf2⟩ := hx
  have hres : (resolve a.eval (rangeCall f (e1.blk l)) 0).run P w1 = .ok { target := .fn (.func g) ca, args := fa ++ #[Value.func (.yield (e1.blk l)) #[] #[]] } w1 := by
    rw [resolve_value a.eval f _ _ _ he]
    simp [Act.eval]
  have hinv : (invoke (Target.fn (.func g) ca) (fa ++ #[Value.func (.yield (e1.blk l)) #[] #[]])).run P w1 = .ok (.enter g (fa ++ #[Value.func (.yield (e1.blk l)) #[] #[]] ++ ca)) w1 := run_callFunc hg _ w1
  have hst := stepR_rangeFunc (cs := cs) (k := k) (ps := ps) (assign := as) (body := bd) g1 hres hinv
  have hall : VRs e1 (first ++ (.yieldf l :: captured)) (fa ++ #[Value.func (.yield (e1.blk l)) #[] #[]] ++ ca).toList := by
    have : (fa ++ #[Value.func (.yield (e1.blk l)) #[] #[]] ++ ca).toList = fa.toList ++ (Value.func (.yield (e1.blk l)) #[] #[] :: ca.toList) := by simp
    rw [this]
    exact (VRs.mono g5.le _ _ hf1).app (VRs.cons (by simp only [VR]; exact ⟨g2, trivial⟩) (VRs.mono g5.le _ _ hf2))
  obtain ⟨e2, w2, fr', E, y1, _, y3, y4, y5, y6⟩ := k4 base e1 w1 _ hs1.room hnb g4 hs1.glob hall (b.atR { a with defers := ms ++ a.defers } (.inRangeFunc (e1.blk l) :: k) :: cs)
  obtain ⟨m1, m2, _⟩ := y6.le.mono l g2
  have hs2 := hs1.less y5 y6
  refine ⟨e2, w2, ms, fr', E, by rw [m2]; exact .head hst y1, y3, y4, m1, g3.mono y6.le, ?_, g5.trans y6⟩
  exact ⟨hs2.room, hs2.rel, hs2.glob, hs2.bf, hs2.tm, (g3.mono y6.le).app hs2.ds, hs2.kr⟩

theorem runF_sound {tab : Tab P} (hC : CallOk P ng C) (hmix : P.follows .mixedOrders = true) {fr : Fr} {κ : FOut → OutT} : ∀ (n : Nat) (todo : List Item) (tm : T V) (ds : List ADef) (u : U) (σ : St), AWf σ → runF C ng tab fr κ n todo tm ds u σ = true → FGoes P ng fr κ todo tm ds u σ := by
  intro n
  induction n with
  | zero => intro todo tm ds u σ _ h; cases h
  | succ n ih =>
    intro todo tm ds u σ hwf h
    have h' : itemK C ng tab fr κ (runF C ng tab fr κ n) todo tm ds u σ = true := h
    clear h
    unfold itemK at h'
    split at h'
    · -- the end
      split at h'
      · rename_i hr
        refine ⟨.fin, tm, ds, u, σ, h', hwf, .refl σ, fun base e b a cs w _ hs => ⟨e, a, cs, w, _, .one (stepR_end (hs.bf.norm hr)), hs, .refl .., .refl hs.kr⟩⟩
      · exact ⟨.left none, tm, ds, u, σ, h', hwf, .refl σ, fun base e b a cs w _ hs => ⟨[], rfl, e, a, cs, w, .refl P _, hs, .refl .., .refl hs.kr⟩⟩
    · split at h'
      · exact (ih _ _ _ _ _ hwf h').next fun base e b a cs w hs => stepR_skip
      · exact (ih _ _ _ _ _ hwf h').next fun base e b a cs w hs => stepR_label
      · exact (ih _ _ _ _ _ hwf h').next fun base e b a cs w hs => stepR_seq
      · rename_i c x y
        split at h'
        · rename_i hc
          refine (ih _ _ _ _ _ hwf h').next fun base e b a cs w hs => ?_
          have hv := evalA_sound hs.glob hs.tm c
          rw [hc] at hv
          simp only [VR] at hv
          exact stepR_cond (t := true) hv
        · rename_i hc
          refine (ih _ _ _ _ _ hwf h').next fun base e b a cs w hs => ?_
          have hv := evalA_sound hs.glob hs.tm c
          rw [hc] at hv
          simp only [VR] at hv
          exact stepR_cond (t := false) hv
        · cases h'
      · exact (ih _ _ _ _ _ hwf h').next fun base e b a cs w hs => stepR_block
      · exact (ih _ _ _ _ _ hwf h').next fun base e b a cs w hs => stepR_loop
      · exact (ih _ _ _ _ _ hwf h').next fun base e b a cs w hs => stepR_scope
      · split at h'
        · rename_i hk
          rw [exitA_eq] at hk
          exact (ih _ _ _ _ _ hwf h').next fun base e b a cs w hs => stepR_exit hk
        · rename_i hk
          rw [exitA_eq] at hk
          split at h'
          · exact ⟨_, tm, ds, u, σ, h', hwf, .refl σ, fun base e b a cs w _ hs => ⟨_, ⟨_, rfl, hk⟩, e, a, cs, w, .refl P _, hs, .refl .., .refl hs.kr⟩⟩
          · cases h'
      · split at h'
        · rename_i hr
          exact ⟨.fin, tm, ds, u, σ, h', hwf, .refl σ, fun base e b a cs w _ hs => ⟨e, a, cs, w, _, .one (stepR_ret (hs.bf.norm hr)), hs, .refl .., .refl hs.kr⟩⟩
        · exact ⟨_, tm, ds, u, σ, h', hwf, .refl σ, fun base e b a cs w _ hs => ⟨_, ⟨_, rfl⟩, e, a, cs, w, .refl P _, hs, .refl .., .refl hs.kr⟩⟩
      · rcases drawnK_sound hC hmix hwf h' with ⟨tm1, ds1, u1, σ1, h1, h2, h3, h4⟩ | ⟨ch, tm1, ds1, u1, σ1, h1, h2, h3, h4⟩
        · exact (ih _ _ _ _ _ h2 h1).to h3 fun base e b a cs w hnb hs => h4 base e b a cs w _ _ hnb hs
        · exact ⟨.pan ch, tm1, ds1, u1, σ1, h1, h2, h3, fun base e b a cs w hnb hs => h4 base e b a cs w _ _ hnb hs⟩
      · rename_i k0 c0 id0 ops0
        rcases opsK_sound hC ops0.toList 0 _ _ _ _ List.drop_zero hwf h' with ⟨tm1, ds1, u1, σ1, h1, h2, h3, h4⟩ | ⟨ch, tm1, ds1, u1, σ1, h1, h2, h3, h4⟩
        · refine (ih _ _ _ _ _ h2 h1).to h3 fun base e b a cs w hnb hs => (To.one hs stepR_region).trans fun e a cs w hs => ?_
          have := h4 base e b a cs w k0 hnb hs
          rw [Array.length_toList, ← List.range_eq_range'] at this
          exact this
        · refine ⟨.pan ch, tm1, ds1, u1, σ1, h1, h2, h3, fun base e b a cs w hnb hs => (To.one hs stepR_region).pan fun e a cs w hs => ?_⟩
          have := h4 base e b a cs w k0 hnb hs
          rw [Array.length_toList, ← List.range_eq_range'] at this
          exact this
      · -- a loop over a function
        rename_i k0 c0 f ps as bd
        split at h'
        · rename_i g first captured hv
          split at h'
          · rename_i fn hg
            simp only [lappK_eq] at h'
            obtain ⟨l, mk, out, σ2, h1, h2, h3, h4⟩ := rangeFunc_run (ds := ds) (u := u) (κ := fun l mk out σ2 => match out with
              | .ret _ => leaveK ng σ2 l fun jump σ3 =>
                match jump with
                | none => runF C ng tab fr κ n k0 tm (mk ++ ds) u σ3
                | some c => runF C ng tab fr κ n (.code c :: k0) tm (mk ++ ds) u σ3
              | .pan ch => κ (.pan ch) tm (mk ++ ds) u σ2) hC hwf hv hg h'
            cases out with
            | ret v =>
              simp only at h1
              obtain ⟨jump, σ3, k1, k2, k3, k4⟩ := leaveK_goes (P := P) h2 h1
              have first : ∀ base e (b : Frame) a cs w, ng ≤ base → SR ng base fr e tm ds u σ b a cs w → To P ng base fr b e σ w cs (lone (b.atR a (.code (.rangeFunc f ps as bd) :: k0)) cs w) ((jump.map Item.code).toList ++ k0) tm (mk ++ ds) u σ3 := by
                intro base e b a cs w hnb hs
                obtain ⟨e1, w1, ms, fr', E, y1, y2, y3, y4, y5, y6, y7⟩ := h4 base e b a cs w k0 hnb hs
                cases E with
                | returned z =>
                  have hst := step_leave_returned (c := b.atR { a with defers := ms ++ a.defers } (.inRangeFunc (e1.blk l) :: k0)) (cs := cs) y2
                  rw [finish_atR_inRangeFunc] at hst
                  obtain ⟨w2, z1, z2, z3⟩ := k4 base e1 w1 y6.rel y4
                  exact ⟨e1, _, cs, w2, Steps.trans y1 (.head hst (.one (stepR_endRangeFunc z1))), y6.less z2 z3, y7.trans z3, .refl (y6.less z2 z3).kr⟩
                | panicked _ => exact y3.elim
                | outgrown => exact y3.elim
              cases jump with
              | none => exact (ih _ _ _ _ _ k2 k1).to (h3.trans k3) fun base e b a cs w hnb hs => first base e b a cs w hnb hs
              | some c => exact (ih _ _ _ _ _ k2 k1).to (h3.trans k3) fun base e b a cs w hnb hs => first base e b a cs w hnb hs
            | pan ch =>
              simp only at h1
              refine ⟨.pan ch, tm, mk ++ ds, u, σ2, h1, h2, h3, fun base e b a cs w hnb hs => ?_⟩
              obtain ⟨e1, w1, ms, fr', E, y1, y2, y3, y4, y5, y6, y7⟩ := h4 base e b a cs w k0 hnb hs
              cases E with
              | returned z => exact y3.elim
              | panicked CH =>
                have hst := step_leave_panicked (c := b.atR { a with defers := ms ++ a.defers } (.inRangeFunc (e1.blk l) :: k0)) (cs := cs) y2
                rw [Frame.raise_atR] at hst
                exact ⟨e1, _, cs, w1, _, CH, Steps.trans y1 (.one hst), y3, y6, y7, .refl y6.kr⟩
              | outgrown => exact y3.elim
          · cases h'
        · cases h'
      · cases h'
    · exact (ih _ _ _ _ _ hwf h').next fun base e b a cs w hs => stepR_inBlock
    · exact (ih _ _ _ _ _ hwf h').next fun base e b a cs w hs => stepR_inScope
    · exact (ih _ _ _ _ _ hwf h').next fun base e b a cs w hs => stepR_inLoop
    · -- a round begins
      split at h'
      · rename_i l hrd
        obtain ⟨σ1, k1, k2, k3, k4⟩ := beginK_goes (P := P) hwf h'
        refine (ih _ _ _ _ _ k2 k1).to k3 fun base e b a cs w hnb hs => ?_
        have hro := hs.bf.2.2
        rw [hrd] at hro
        obtain ⟨w1, z1, z2, z3⟩ := k4 base e w hs.rel hro.1
        exact ⟨e, a, cs, w1, .one (stepR_beginRound hro.2 z1), hs.less z2 z3, z3, .refl hs.kr⟩
      · cases h'
    · cases h'
end
end Go.Proofs.YthagammlhhnpnaaGreatDoor.Ev

