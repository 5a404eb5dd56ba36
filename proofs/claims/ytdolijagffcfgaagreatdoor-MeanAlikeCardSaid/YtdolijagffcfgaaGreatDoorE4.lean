/-
  The evaluator, part 5 of 6: a program of the model is run by the kernel, piece by piece, and what it computes is proved of the run itself. No condition.
-/
import Derived.Orders
import Derived.RangeFuncNested
import Derived.RangeFuncLeaves
import Derived.Defers
import Derived.Test.YtdolijagffcfgaaGreatDoorE3
set_option linter.unusedVariables false
set_option linter.unusedSimpArgs false
/-
  Every order of a drawn region comes to the same: the law.
-/
namespace Go.Proofs.YtdolijagffcfgaaGreatDoor.Ev

theorem nodup_le : ∀ (n : Nat) (S : List Nat), S.Nodup → (∀ j ∈ S, j < n) → S.length ≤ n
  | 0, S, _, h => by cases S with
    | nil => simp
    | cons a S => have := h a (by simp); omega
  | n + 1, S, hn, h => by
    by_cases hm : n ∈ S
    · have h1 := nodup_le n (S.erase n) (hn.erase n) (fun j hj => by
        have hj' := (hn.mem_erase_iff).1 hj
        have := h j hj'.2
        have := hj'.1
        omega)
      rw [List.length_erase_of_mem hm] at h1
      omega
    · have := nodup_le n S hn (fun j hj => by
        have h1 := h j hj
        have : j ≠ n := fun he => hm (he ▸ hj)
        omega)
      omega

theorem nodup_all {n : Nat} {S : List Nat} (hn : S.Nodup) (h : ∀ j ∈ S, j < n) (hl : S.length = n) : ∀ q, q < n → q ∈ S := by
  intro q hq
  by_cases hm : q ∈ S
  · exact hm
  · exfalso
    have := nodup_le n (q :: S) (List.nodup_cons.2 ⟨hm, hn⟩) (fun j hj => by
      rcases List.mem_cons.1 hj with rfl | hj
      · exact hq
      · exact h j hj)
    simp at this
    omega

section
variable {P : Program} {ng base : Nat} {tab : Tab P} {fr : Fr} {ops : Array Oper} {N : Nat} {R : Nat → Tr} {tm : Nat → T V} {ds : Nat → List ADef} {u : Nat → U} {σ : Nat → St}
variable {b : Frame} {e0 : Env} {w0 : World} {cs0 : List Frame}

/-- one operation more -/
theorem Inv.exec {S : List Nat} {m : Nat} {e : Env} {a : Act} {cs : List Frame} {w : World} (h : Inv P ng base fr b N R tm ds u σ e0 w0 cs0 S m e a cs w) (hR : Rec P ng tab fr ops.toList N R tm ds u σ) (h0 : ∀ i, e0.M i → i < (σ 0).next) (hnb : ng ≤ base) (hst : staticB ops.toList = true) (hcl : Cl ops S)
    {i : Nat} (hi : i < N) (hS : i ∉ S) (hpre : Pre ops S i) (rest : List Nat) (k : List Item) :
    ∃ m' e' a' cs' w', Steps P (lone (b.atR a (.inRegion ops (i :: rest) :: k)) cs w) (lone (b.atR a' (.inRegion ops rest :: k)) cs' w') ∧ Inv P ng base fr b N R tm ds u σ e0 w0 cs0 (i :: S) m' e' a' cs' w' := by
  have ho := hR.oper hi
  obtain ⟨x1, x2, x3, x4, x5⟩ := hR.idx i hi
  obtain ⟨_, _, _, _, _, h6⟩ := hR.step i hi
  have hwant := fun r hw => h.wants (r := r) hR hst hcl (Nat.le_of_lt hi) ho hS hpre hw
  cases hk : (R i).kd with
  | skip =>
    rw [hk] at h6
    simp only at h6
    obtain ⟨hw, hv, _⟩ := h6
    rw [x2] at hw
    have hsk := stepR_op_skip (P := P) (b := b) (a := a) (k := k) (cs := cs) (w := w) (ops := ops) (i := i) (rest := rest) (by rw [ho]; exact hwant false hw)
    have hdst : (ops[i]?).bind (·.dst) = (R i).o.dst := by rw [ho]; rfl
    rw [hdst] at hsk
    exact ⟨m, e, _, cs, w, .one hsk, h.still hR hst hi hS (by rintro ⟨l, hl⟩; rw [hk] at hl; cases hl) (by intro ob hl; rw [hk] at hl; cases hl) (by rw [hv]; simp only [VR]; exact ⟨_, rfl, VRs.nil⟩)⟩
  | quiet =>
    rw [hk] at h6
    simp only at h6
    obtain ⟨hw, hnd, hpa, _⟩ := h6
    unfold Want at hw
    rw [x2] at hw hpa
    rw [pureA_congr _ restr_eq] at hpa
    obtain ⟨z, z1, z2⟩ := pureA_sound hpa (h.operand hR hst hcl (Nat.le_of_lt hi) ho hS hpre)
    exact ⟨m, e, _, cs, w, .one (stepR_value ho (hwant true hw) hnd (.inl rfl) (z2 w)), h.still hR hst hi hS (by rintro ⟨l, hl⟩; rw [hk] at hl; cases hl) (by intro ob hl; rw [hk] at hl; cases hl) z1⟩
  | load bl x n =>
    rw [hk] at h6
    simp only at h6
    obtain ⟨hw, ⟨t, y, hop, _⟩, _⟩ := h6
    unfold Want at hw
    rw [x2] at hw
    obtain ⟨z, z1, z2⟩ := h.loads hR h0 hst hcl hi hS hpre hk
    exact ⟨m, e, _, cs, w, .one (stepR_value ho (hwant true hw) (by intro c; rw [hop]; simp) (.inl rfl) z2), h.still hR hst hi hS (by rintro ⟨l, hl⟩; rw [hk] at hl; cases hl) (by intro ob hl; rw [hk] at hl; cases hl) z1⟩
  | new ob =>
    rw [hk] at h6
    simp only at h6
    obtain ⟨hw, hnd, _⟩ := h6
    unfold Want at hw
    rw [x2] at hw
    obtain ⟨e', z, w', z1, z2⟩ := h.news hR h0 hst hcl hi hS hpre hk
    exact ⟨m, e', _, cs, w', .one (stepR_value ho (hwant true hw) hnd (.inl rfl) z1), z2⟩
  | eff log =>
    obtain ⟨e', a', cs', w', z1, z2⟩ := h.effs hR h0 hnb hst hcl hi hS hpre hk rest k
    exact ⟨i + 1, e', a', cs', w', z1, z2⟩

theorem draw_all (hR : Rec P ng tab fr ops.toList N R tm ds u σ) (h0 : ∀ i, e0.M i → i < (σ 0).next) (hnb : ng ≤ base) (hst : staticB ops.toList = true) (hN : N ≤ ops.size)
    (hang : ∀ q oq, N < q → ops[q]? = some oq → ∃ ed ∈ oq.after, Region.binds .any ed = true ∧ N ≤ ed.on) (k : List Item) :
    ∀ (fuel t : Nat) (listed : Array Bool) (S : List Nat) (m : Nat) (e : Env) (a : Act) (cs : List Frame) (w : World), S.length + fuel = ops.size → S.Nodup → (∀ j ∈ S, j < N) → Cl ops S → (∀ j, listed.getD j false = decide (j ∈ S)) → (∀ j, j < ops.size → listed.getD j true = decide (j ∈ S)) → listed.size = ops.size →
      Inv P ng base fr b N R tm ds u σ e0 w0 cs0 S m e a cs w →
      (∃ S' m' e' a' cs' w', (∀ q, q < ops.size → q ∈ S') ∧ (∀ j ∈ S', j < N) ∧ Steps P (lone (b.atR a (.inRegion ops (Region.linearise.go .any ops fuel t listed []) :: k)) cs w) (lone (b.atR a' (.inRegion ops [] :: k)) cs' w') ∧ Inv P ng base fr b N R tm ds u σ e0 w0 cs0 S' m' e' a' cs' w') ∨
      (∃ S' m' e' a' cs' w' rest, N < ops.size ∧ N ∉ S' ∧ (∀ j ∈ S', j < N) ∧ Cl ops S' ∧ Pre ops S' N ∧ Steps P (lone (b.atR a (.inRegion ops (Region.linearise.go .any ops fuel t listed []) :: k)) cs w) (lone (b.atR a' (.inRegion ops (N :: rest) :: k)) cs' w') ∧ Inv P ng base fr b N R tm ds u σ e0 w0 cs0 S' m' e' a' cs' w') := by
  intro fuel
  induction fuel with
  | zero =>
    intro t listed S m e a cs w hl hnd hlt hcl hf ht hsz h
    exact .inl ⟨S, m, e, a, cs, w, nodup_all hnd (fun j hj => Nat.lt_of_lt_of_le (hlt j hj) hN) (by omega), hlt, .refl P _, h⟩
  | succ fuel ih =>
    intro t listed S m e a cs w hl hnd hlt hcl hf ht hsz h
    have hgo : Region.linearise.go .any ops (fuel + 1) t listed [] = match (Region.ready .any ops listed)[t % (Region.ready .any ops listed).length]? with
        | some i => Region.linearise.go .any ops fuel (t / (Region.ready .any ops listed).length) (listed.setIfInBounds i true) [i]
        | none => [].reverse := rfl
    have hready : ∀ i, i ∈ Region.ready .any ops listed ↔ i < ops.size ∧ i ∉ S ∧ Pre ops S i := by
      intro i
      unfold Region.ready
      rw [List.mem_filter, List.mem_range]
      constructor
      · rintro ⟨h1, h2⟩
        simp only [Bool.and_eq_true, Bool.not_eq_true'] at h2
        obtain ⟨h3, h4⟩ := h2
        rw [ht i h1] at h3
        refine ⟨h1, by simpa using h3, fun o ho ed he hb => ?_⟩
        rw [ho] at h4
        simp only [Option.map_some, Option.getD_some, Array.all_eq_true_iff_forall_mem] at h4
        have := h4 ed he
        rw [hb] at this
        simp only [Bool.not_true, Bool.false_or] at this
        rw [hf] at this
        simpa using this
      · rintro ⟨h1, h2, h3⟩
        refine ⟨h1, ?_⟩
        simp only [Bool.and_eq_true, Bool.not_eq_true']
        refine ⟨by rw [ht i h1]; simpa using h2, ?_⟩
        have ho : ops[i]? = some ops[i] := Array.getElem?_eq_getElem h1
        rw [ho]
        simp only [Option.map_some, Option.getD_some, Array.all_eq_true_iff_forall_mem]
        intro ed he
        cases hb : Region.binds .any ed with
        | false => rfl
        | true =>
          simp only [Bool.not_true, Bool.false_or]
          rw [hf]
          simpa using h3 _ ho ed he hb
    rw [hgo]
    cases hi : (Region.ready .any ops listed)[t % (Region.ready .any ops listed).length]? with
    | none =>
      have hnil : Region.ready .any ops listed = [] := by
        cases hr : Region.ready .any ops listed with
        | nil => rfl
        | cons x xs =>
          rw [hr] at hi
          have hlt' : t % (x :: xs).length < (x :: xs).length := Nat.mod_lt _ (by simp)
          rw [List.getElem?_eq_getElem hlt'] at hi
          cases hi
      left
      refine ⟨S, m, e, a, cs, w, ?_, hlt, .refl P _, h⟩
      intro q
      induction q using Nat.strongRecOn with
      | _ q ihq =>
        intro hq
        by_cases hm : q ∈ S
        · exact hm
        · exfalso
          have : q ∈ Region.ready .any ops listed := (hready q).2 ⟨hq, hm, fun o ho ed he hb => by
            have hback := staticB_back hst (i := q) (o := o) (by rw [Array.getElem?_toList]; exact ho) ed he hb
            exact ihq _ hback (by omega)⟩
          rw [hnil] at this
          cases this
    | some i =>
      obtain ⟨h1, h2, h3⟩ := (hready i).1 (List.mem_of_getElem? hi)
      simp only []
      rw [linearise_go_acc, List.reverse_singleton, List.singleton_append]
      rcases Nat.lt_trichotomy i N with hiN | hiN | hiN
      · obtain ⟨m1, e1, a1, cs1, w1, s1, i1⟩ := h.exec hR h0 hnb hst hcl hiN h2 h3 (Region.linearise.go .any ops fuel (t / (Region.ready .any ops listed).length) (listed.setIfInBounds i true) []) k
        have hcl' : Cl ops (i :: S) := by
          intro j hj o ho ed he hb
          rcases List.mem_cons.1 hj with rfl | hj
          · exact List.mem_cons_of_mem _ (h3 o ho ed he hb)
          · exact List.mem_cons_of_mem _ (hcl j hj o ho ed he hb)
        have hget : ∀ (d : Bool) j, (listed.setIfInBounds i true).getD j d = if j = i then true else listed.getD j d := by
          intro d j
          simp only [Array.getD_eq_getD_getElem?, Array.getElem?_setIfInBounds]
          by_cases hji : i = j
          · subst hji
            rw [if_pos rfl, if_pos rfl, if_pos (by rw [hsz]; exact h1)]
            rfl
          · rw [if_neg hji, if_neg (Ne.symm hji)]
        rcases ih (t / (Region.ready .any ops listed).length) (listed.setIfInBounds i true) (i :: S) m1 e1 a1 cs1 w1 (by simp; omega) (List.nodup_cons.2 ⟨h2, hnd⟩)
            (fun j hj => by rcases List.mem_cons.1 hj with rfl | hj; exact hiN; exact hlt j hj) hcl' (fun j => by rw [hget]; by_cases hji : j = i <;> simp [hji, hf j]) (fun j hj => by rw [hget]; by_cases hji : j = i <;> simp [hji, ht j hj]) (by simp [hsz]) i1 with
          ⟨S', m', e', a', cs', w', y1, y1', y2, y3⟩ | ⟨S', m', e', a', cs', w', rest, y1, y2, y2', y3, y4, y5, y6⟩
        · exact .inl ⟨S', m', e', a', cs', w', y1, y1', Steps.trans s1 y2, y3⟩
        · exact .inr ⟨S', m', e', a', cs', w', rest, y1, y2, y2', y3, y4, Steps.trans s1 y5, y6⟩
      · subst hiN
        exact .inr ⟨S, m, e, a, cs, w, _, h1, h2, hlt, hcl, h3, .refl P _, h⟩
      · exfalso
        have ho : ops[i]? = some ops[i] := Array.getElem?_eq_getElem h1
        obtain ⟨ed, y1, y2, y3⟩ := hang i _ hiN ho
        have := hlt _ (h3 _ ho ed y1 y2)
        omega
end
end Go.Proofs.YtdolijagffcfgaaGreatDoor.Ev

/-
  The evaluator's drawn regions: their law.
-/
namespace Go.Proofs.YtdolijagffcfgaaGreatDoor.Ev
section
variable {P : Program} {ng : Nat} {C : CallT}

noncomputable def drawnK (C : CallT) (ng : Nat) (tab : Tab P) (fr : Fr) (L : List Oper) (κ : OutT) (κp : List (V × Bool) → OutT) : OutT := fun tm ds u σ =>
  bif staticB L then drawK C ng tab fr L κ κp L 0 [] tm ds u σ else false

theorem tget_junk {t : Nat} (ht : t < 2 ^ dt) : ∀ (L : List Oper) (tm : T V), (∀ o ∈ L, ∀ d, o.dst = some d → d < 2 ^ dt) → tget (junkP L tm) t = .junk ∨ ((∀ o ∈ L, o.dst ≠ some t) ∧ tget (junkP L tm) t = tget tm t)
  | [], tm, _ => .inr ⟨by simp, rfl⟩
  | o :: L, tm, hd => by
    have hL : ∀ o ∈ L, ∀ d, o.dst = some d → d < 2 ^ dt := fun o ho => hd o (by simp [ho])
    cases hod : o.dst with
    | none =>
      have hj : junkP (o :: L) tm = junkP L tm := by simp only [junkP, hod]
      rw [hj]
      rcases tget_junk ht L tm hL with h | ⟨h1, h2⟩
      · exact .inl h
      · refine .inr ⟨fun x hx => ?_, h2⟩
        rcases List.mem_cons.1 hx with rfl | hx
        · rw [hod]; simp
        · exact h1 x hx
    | some d =>
      have hj : junkP (o :: L) tm = junkP L (T.set V.undefV V.junk dt d tm) := by simp only [junkP, hod]
      rw [hj]
      have hd1 := hd o (by simp) d hod
      have hg : tget (T.set V.undefV V.junk dt d tm) t = if t = d then .junk else tget tm t := T.get_set _ _ _ _ _ _ hd1 ht
      rcases tget_junk ht L (T.set V.undefV V.junk dt d tm) hL with h | ⟨h1, h2⟩
      · exact .inl h
      · by_cases he : t = d
        · left; rw [h2, hg, if_pos he]
        · rw [if_neg he] at hg
          refine .inr ⟨fun x hx => ?_, by rw [h2, hg]⟩
          rcases List.mem_cons.1 hx with rfl | hx
          · rw [hod]; simp only [ne_eq, Option.some.injEq]; exact fun h => he h.symm
          · exact h1 x hx

theorem AExt.nolog {σ σ' : St} (h : AExt { σ with log := [] } σ') : AExt σ { σ' with log := σ'.log ++ σ.log } :=
  ⟨h.next, fun _ hp _ => List.mem_append_right _ hp, fun i n hi hc => h.looks i n hi fun p hp => hc p (List.mem_append_left _ hp), fun i hi hc => h.keeps i hi fun p hp => hc p (List.mem_append_left _ hp)⟩

theorem Ext.relog {e e2 : Env} {σ σ' : St} {w w2 : World} {l : List (Nat × Nat × Nat)} (h : Ext ng e { σ with log := [] } w e2 σ' w2) (hx : AExt σ { σ' with log := l }) : Ext ng e σ w e2 { σ' with log := l } w2 :=
  ⟨h.le, h.next, h.size, h.newer, h.kept, h.orig, hx.logs, hx.looks, h.os, h.output, h.tape⟩

/-- all that is known is old enough -/
theorem Inv.all_cut {base : Nat} {tab : Tab P} {fr : Fr} {ops : Array Oper} {N : Nat} {R : Nat → Tr} {tm : Nat → T V} {ds : Nat → List ADef} {u : Nat → U} {σ : Nat → St} {b : Frame} {e0 : Env} {w0 : World} {cs0 : List Frame} {S : List Nat} {m : Nat} {e : Env} {a : Act} {cs : List Frame} {w : World}
    (h : Inv P ng base fr b N R tm ds u σ e0 w0 cs0 S m e a cs w) (hR : Rec P ng tab fr ops.toList N R tm ds u σ) (h0 : ∀ i, e0.M i → i < (σ 0).next) : e.le (e.cut (σ N).next) := by
  refine ⟨fun i hi => ⟨⟨hi, ?_⟩, rfl, rfl⟩⟩
  rcases h.ids i hi with h1 | ⟨q, q1, _, _, q4⟩
  · exact Nat.lt_of_lt_of_le (h0 i h1) (hR.next (Nat.zero_le _) (Nat.le_refl _))
  · exact Nat.lt_of_lt_of_le q4 (hR.next (by omega) (Nat.le_refl _))

theorem Inv.ext {base : Nat} {tab : Tab P} {fr : Fr} {ops : Array Oper} {N : Nat} {R : Nat → Tr} {tm : Nat → T V} {ds : Nat → List ADef} {u : Nat → U} {σ : Nat → St} {b : Frame} {e0 : Env} {w0 : World} {cs0 : List Frame} {S : List Nat} {e : Env} {a : Act} {cs : List Frame} {w : World}
    (h : Inv P ng base fr b N R tm ds u σ e0 w0 cs0 S N e a cs w) (hR : Rec P ng tab fr ops.toList N R tm ds u σ) (h0 : ∀ i, e0.M i → i < (σ 0).next) (hx : AExt (σ 0) (σ N)) : Ext ng e0 (σ 0) w0 (e.cut (σ N).next) (σ N) w where
  le := h.le0.trans (h.all_cut hR h0)
  next := hx.next
  size := h.wsize
  newer := fun i hi hn => by
    rcases h.ids i hi.1 with h1 | ⟨q, q1, _, q3, _⟩
    · exact absurd h1 hn
    · exact Nat.le_trans (hR.next (Nat.zero_le _) (by omega)) q3
  kept := h.kept
  orig := h.orig
  logs := hx.logs
  looks := hx.looks
  os := h.os
  output := h.output
  tape := h.tape

theorem drawnK_sound {tab : Tab P} (hC : CallOk P ng C) (hmix : P.follows .mixedOrders = true) {fr : Fr} {ops : Array Oper} {κ : OutT} {κp : List (V × Bool) → OutT} {tm : T V} {ds : List ADef} {u : U} {σ : St} (hwf : AWf σ)
    (h : drawnK C ng tab fr ops.toList κ κp tm ds u σ = true) :
    (∃ tm' ds' u' σ', κ tm' ds' u' σ' = true ∧ AWf σ' ∧ AExt σ σ' ∧ ∀ base e (b : Frame) a cs w k id, ng ≤ base → SR ng base fr e tm ds u σ b a cs w →
      To P ng base fr b e σ w cs (lone (b.atR a (.code (.region id ops true) :: k)) cs w) k tm' ds' u' σ') ∨
    (∃ ch tm' ds' u' σ', κp ch tm' ds' u' σ' = true ∧ AWf σ' ∧ AExt σ σ' ∧ ∀ base e (b : Frame) a cs w k id, ng ≤ base → SR ng base fr e tm ds u σ b a cs w →
      Pan P ng base fr b e σ w cs (lone (b.atR a (.code (.region id ops true) :: k)) cs w) ch tm' ds' u' σ') := by
  unfold drawnK at h
  rw [cond_eq_ite] at h
  split at h
  · rename_i hst
    -- entering
    have enter : ∀ {N : Nat} {R : Nat → Tr} {tmF : Nat → T V} {dsF : Nat → List ADef} {uF : Nat → U} {σF : Nat → St}, Rec P ng tab fr ops.toList N R tmF dsF uF σF → tmF 0 = tm → dsF 0 = ds → uF 0 = u → σF 0 = σ → N ≤ ops.size →
        (∀ q oq, N < q → ops[q]? = some oq → ∃ ed ∈ oq.after, Region.binds .any ed = true ∧ N ≤ ed.on) → ∀ base e (b : Frame) a cs w k id, ng ≤ base → SR ng base fr e tm ds u σ b a cs w →
        (∃ S' m' e' a' cs' w', (∀ q, q < ops.size → q ∈ S') ∧ (∀ j ∈ S', j < N) ∧ Steps P (lone (b.atR a (.code (.region id ops true) :: k)) cs w) (lone (b.atR a' (.inRegion ops [] :: k)) cs' w') ∧ Inv P ng base fr b N R tmF dsF uF σF e w cs S' m' e' a' cs' w') ∨
        (∃ S' m' e' a' cs' w' rest, N < ops.size ∧ N ∉ S' ∧ (∀ j ∈ S', j < N) ∧ Cl ops S' ∧ Pre ops S' N ∧ Steps P (lone (b.atR a (.code (.region id ops true) :: k)) cs w) (lone (b.atR a' (.inRegion ops (N :: rest) :: k)) cs' w') ∧ Inv P ng base fr b N R tmF dsF uF σF e w cs S' m' e' a' cs' w') := by
      intro N R tmF dsF uF σF hR a1 a2 a3 a4 hN hang base e b a cs w k id hnb hs
      have h0 : ∀ i, e.M i → i < (σF 0).next := fun i hi => by rw [a4]; exact hs.rel.lim i hi
      have hcut : e.le (e.cut (σF 0).next) := ⟨fun i hi => ⟨⟨hi, h0 i hi⟩, rfl, rfl⟩⟩
      have hinv : Inv P ng base fr b N R tmF dsF uF σF e w cs [] 0 e a cs { w with drawn := w.drawn + 1 } :=
        ⟨Nat.zero_le _, fun p _ _ => by simp, hs.room, by rw [a4] at hcut ⊢; exact (Rel.gc (w' := { w with drawn := w.drawn + 1 }) hs.rel rfl).congr hcut (fun i hi => hi.1), hs.glob.mono hcut, hs.bf.mono hcut, by rw [a2]; exact hs.ds.mono hcut, by rw [a3]; exact .refl (hs.kr.mono hcut), .refl e, fun i hi => .inl hi, fun q _ hq => by simp at hq, fun q _ hq => by simp at hq,
          fun t ht _ => by rw [a1]; exact hs.tm.rel t ht, hs.tm.size, Nat.le_refl _, fun _ _ _ => rfl, fun i hi hn hg _ => ⟨i, hi.1, by rw [a4] at hn ⊢; exact hn, hg, rfl⟩, rfl, rfl, rfl⟩
      have hstep := stepR_region_draw (P := P) (b := b) (a := a) (k := k) (cs := cs) (w := w) (ops := ops) (id := id)
      have hsch : Region.schedule (P.follows .mixedOrders) ops (w.tape w.drawn (.order b.fn id)) = Region.linearise.go .any ops ops.size (w.tape w.drawn (.order b.fn id)) (Array.replicate ops.size false) [] := by
        simp only [Region.schedule, hmix, Bool.true_or, if_true, Region.linearise]
      rw [hsch] at hstep
      rcases draw_all hR h0 hnb hst hN hang k ops.size (w.tape w.drawn (.order b.fn id)) (Array.replicate ops.size false) [] 0 e a cs _ (by simp) (by simp) (by simp) (by intro i hi; simp at hi)
          (fun j => by simp [Array.getD_eq_getD_getElem?, Array.getElem?_replicate]; split <;> rfl) (fun j hj => by simp [Array.getD_eq_getD_getElem?, Array.getElem?_replicate, hj]) (by simp) hinv with
        ⟨S', m', e', a', cs', w', y1, y1', y2, y3⟩ | ⟨S', m', e', a', cs', w', rest, y1, y2, y2', y3, y4, y5, y6⟩
      · exact .inl ⟨S', m', e', a', cs', w', y1, y1', .head hstep y2, y3⟩
      · exact .inr ⟨S', m', e', a', cs', w', rest, y1, y2, y2', y3, y4, .head hstep y5, y6⟩
    rcases drawK_sound hC ops.toList [] tm ds u σ rfl hwf .nil h with ⟨hist, tm', ds', u', σ', g1, g2, g3, g4⟩ | ⟨hist, tm1, ds1, u1, σ1, o, ch, u', σ', g1, g2, g3, g4, g5, g6, g7, g8, g9, g10, g11, g12, hdall⟩
    · left
      refine ⟨tm', ds', u', σ', g1, g2, g4.aext, ?_⟩
      obtain ⟨R, tmF, dsF, uF, σF, hR, a1, a2, a3, a4, b1, b2, b3, b4, _⟩ := g4.record hwf
      have hlen : hist.length = ops.size := by rw [g3]; simp
      rw [hlen] at hR b1 b2 b3 b4
      intro base e b a cs w k id hnb hs
      have h0 : ∀ i, e.M i → i < (σF 0).next := fun i hi => by rw [a4]; exact hs.rel.lim i hi
      rcases enter hR a1 a2 a3 a4 (Nat.le_refl _) (fun q oq hq hoq => by have := (Array.getElem?_eq_some_iff.1 hoq).1; omega) base e b a cs w k id hnb hs with ⟨S', m', e', a', cs', w', y1, y1', y2, y3⟩ | ⟨S', m', e', a', cs', w', rest, y1, _⟩
      · have y4 := y3.upto hR h0 (Nat.le_refl _) y3.mN (fun k k1 k2 hk => by
          have := (y3.eff k k2 hk).1 (y1 k k2); omega)
        have hall := y4.all_cut hR h0
        have hx : AExt (σF 0) (σF ops.size) := by rw [a4, b4]; exact g4.aext
        refine ⟨e'.cut (σF ops.size).next, a', cs', w', Steps.trans y2 (.one stepR_region_end), ⟨y4.room, by rw [← b4]; exact y4.main, y4.glob, y4.bf, ⟨y4.size, fun t ht => ?_⟩, by rw [← b2]; exact y4.dl, by rw [← b3]; exact y4.ks.kr⟩, by rw [← a4, ← b4]; exact y4.ext hR h0 hx, by rw [← b3]; exact y4.ks⟩
        rw [← b1]
        rcases hR.tget ht (Nat.le_refl _) with ⟨j, j1, j2, j3⟩ | ⟨j1, j2⟩
        · rw [j3]; exact VR.mono hall _ _ (y4.vals j j1 (y1 j j1) t j2)
        · rw [j2]; exact VR.mono hall _ _ (y4.rest t ht fun q q1 _ => j1 q q1)
      · omega
    · right
      refine ⟨ch, junkP ops.toList tm1, ds1, u', _, g1, ⟨g2.next, g2.fresh⟩, g3.aext.trans g8.nolog, ?_⟩
      obtain ⟨R, tmF, dsF, uF, σF, hR, a1, a2, a3, a4, b1, b2, b3, b4, _, hmem, hlast⟩ := g3.record hwf
      have hNlt : hist.length < ops.size := by have := (List.getElem?_eq_some_iff.1 g5).1; simpa using this
      have hoN : ops[hist.length]? = some o := by rw [← Array.getElem?_toList]; exact g5
      intro base e b a cs w k id hnb hs
      have h0 : ∀ i, e.M i → i < (σF 0).next := fun i hi => by rw [a4]; exact hs.rel.lim i hi
      rcases enter hR a1 a2 a3 a4 (Nat.le_of_lt hNlt) (fun q oq hq hoq => g12 q oq hq (by rw [Array.getElem?_toList]; exact hoq)) base e b a cs w k id hnb hs with ⟨S', m', e', a', cs', w', y1, y1', _⟩ | ⟨S', m', e', a', cs', w', rest, _, y2, y2', y3, y4, y5, y6⟩
      · have := y1' _ (y1 _ hNlt); omega
      · have z1 := y6.upto hR h0 (Nat.le_refl _) y6.mN (y6.noEff (Nat.le_refl _) hoN y3 y4 fun j j1 j2 j3 => g11 j (hlast j j1 j2 j3))
        have hall := z1.all_cut hR h0
        have hoper0 := z1.operand hR hst y3 (Nat.le_refl _) hoN y2 y4
        have hoper := opsBd_cut (n := (σF hist.length).next) (by rw [b1, b4]; exact g7) hoper0
        have hwant := z1.wants hR hst y3 (Nat.le_refl _) hoN y2 y4 (by rw [b1]; exact g6)
        have hx : AExt (σF 0) (σF hist.length) := by rw [a4, b4]; exact g3.aext
        have hext := z1.ext hR h0 hx
        rw [b1] at hoper
        obtain ⟨e2, cs2, w2, CH, r1, r2, r3, r4, r5⟩ := g9 base (e'.cut (σF hist.length).next) b a' cs' w' ops hist.length rest k z1.room hnb (by rw [← b4]; exact z1.main.log []) z1.glob z1.bf hoper (by rw [← b3]; exact z1.ks.kr) hoN hwant
        refine ⟨e2, a', cs2, w2, _, CH, Steps.trans y5 r1, r2, ⟨Nat.le_trans z1.room r4.size, r3.log _, z1.glob.mono r4.le, z1.bf.mono r4.le, ⟨z1.size, fun t ht => ?_⟩, by rw [← b2]; exact z1.dl.mono r4.le, r5.kr⟩, ?_, by rw [b3] at *; exact z1.ks.trans r5⟩
        · rcases tget_junk ht ops.toList tm1 hdall with hj | ⟨hj1, hj2⟩
          · rw [hj]; simp only [VR]
          · rw [hj2, ← b1]
            rcases hR.tget ht (Nat.le_refl _) with ⟨j, j1, j2, _⟩ | ⟨j1, j2⟩
            · exact absurd j2 (hj1 _ (by have := hR.oper j1; rw [← Array.getElem?_toList] at this; exact List.mem_of_getElem? this))
            · rw [j2]; exact VR.mono (hall.trans r4.le) _ _ (z1.rest t ht fun q q1 _ => j1 q q1)
        · have r4' := Ext.relog (σ := σ1) r4 g8.nolog
          rw [a4, b4] at hext
          rw [b4] at r4'
          exact hext.trans r4'
  · cases h
end
end Go.Proofs.YtdolijagffcfgaaGreatDoor.Ev

/-
  The evaluator's loops over functions: entering, the rounds, leaving; the mark for calls that are deferred in rounds.
-/
namespace Go.Proofs.YtdolijagffcfgaaGreatDoor.Ev
section
variable {P : Program} {ng : Nat}

/-- a loop's record, turned -/
noncomputable def turnK (ng : Nat) (σ : St) (l : Nat) (ok : LoopState → Bool) (st' : LoopState → LoopState) (pd' : Option Code → Option Code) (κ : Option Code → St → Bool) : Bool :=
  match σ.at l with
  | .loop st pd fn tm nt ps as bd d => bif ok st then obK ng σ l (.loop (st' st) (pd' pd) fn tm nt ps as bd d) fun σ' => κ pd σ' else false
  | _ => false

theorem turnK_goes {σ : St} (hwf : AWf σ) {l : Nat} {ok : LoopState → Bool} {st' : LoopState → LoopState} {pd' : Option Code → Option Code} {κ : Option Code → St → Bool} (h : turnK ng σ l ok st' pd' κ = true) :
    ∃ pd σ', κ pd σ' = true ∧ AWf σ' ∧ AExt σ σ' ∧ ∀ base e w, Rel ng base e σ w → e.M l → ∃ r w', w.heap[e.blk l]? = some (.loop r) ∧ ok r.state = true ∧ r.pending = pd ∧
      (setObj (e.blk l) (.loop { r with state := st' r.state, pending := pd' r.pending })).run P w = .ok () w' ∧ Rel ng base e σ' w' ∧ Ext ng e σ w e σ' w' := by
  unfold turnK at h
  split at h
  · rename_i st pd fn tm nt ps as bd d hat
    rw [cond_eq_ite] at h
    split at h
    · rename_i hok
      obtain ⟨σ', h1, h2, h3, h4⟩ := obK_goes (P := P) hwf hat rfl rfl h
      refine ⟨pd, σ', h1, h2, h3, fun base e w hr hm => ?_⟩
      obtain ⟨o, g1, ⟨g2, ts, g3, g4, g5⟩, _⟩ := ob_sound hr hm hat rfl
      subst g3
      obtain ⟨w', k1, k2, k3⟩ := h4 base e w _ hr hm ⟨g2, ts, rfl, g4, g5⟩
      exact ⟨_, w', g1, hok, rfl, k1, k2, k3⟩
    · cases h
  · cases h

/-- the statement's end -/
noncomputable def leaveK (ng : Nat) (σ : St) (l : Nat) (κ : Option Code → St → Bool) : Bool :=
  turnK ng σ l (fun s => match s with | .busy => false | _ => true) (fun _ => .exhausted) (fun p => p) κ

theorem leaveK_goes {σ : St} (hwf : AWf σ) {l : Nat} {κ : Option Code → St → Bool} (h : leaveK ng σ l κ = true) :
    ∃ pd σ', κ pd σ' = true ∧ AWf σ' ∧ AExt σ σ' ∧ ∀ base e w, Rel ng base e σ w → e.M l → ∃ w', (Instr.endLoop (e.blk l)).run P w = .ok pd w' ∧ Rel ng base e σ' w' ∧ Ext ng e σ w e σ' w' := by
  obtain ⟨pd, σ', h1, h2, h3, h4⟩ := turnK_goes (P := P) hwf h
  refine ⟨pd, σ', h1, h2, h3, fun base e w hr hm => ?_⟩
  obtain ⟨r, w', g1, g2, g3, g4, g5, g6⟩ := h4 base e w hr hm
  refine ⟨w', ?_, g5, g6⟩
  have hb : r.state ≠ .busy := by intro hb; rw [hb] at g2; cases g2
  rw [← g3]
  simp [Instr.endLoop, Sem.run_bind, run_getLoop g1, hb, g4, Result.andThen]

/-- a round begins -/
noncomputable def beginK (ng : Nat) (σ : St) (l : Nat) (κ : St → Bool) : Bool :=
  turnK ng σ l (fun s => match s with | .ready => true | _ => false) (fun _ => .busy) (fun p => p) fun _ σ' => κ σ'

theorem beginK_goes {σ : St} (hwf : AWf σ) {l : Nat} {κ : St → Bool} (h : beginK ng σ l κ = true) :
    ∃ σ', κ σ' = true ∧ AWf σ' ∧ AExt σ σ' ∧ ∀ base e w, Rel ng base e σ w → e.M l → ∃ w', (Instr.beginRound (e.blk l)).run P w = .ok () w' ∧ Rel ng base e σ' w' ∧ Ext ng e σ w e σ' w' := by
  obtain ⟨pd, σ', h1, h2, h3, h4⟩ := turnK_goes (P := P) hwf h
  refine ⟨σ', h1, h2, h3, fun base e w hr hm => ?_⟩
  obtain ⟨r, w', g1, g2, g3, g4, g5, g6⟩ := h4 base e w hr hm
  refine ⟨w', ?_, g5, g6⟩
  have hs : r.state = .ready := by cases hs : r.state <;> rw [hs] at g2 <;> first | rfl | cases g2
  simp [Instr.beginRound, Sem.run_bind, run_getLoop g1, g4, hs, Result.andThen]

/-- a round ends -/
noncomputable def endRdK (ng : Nat) (σ : St) (l : Nat) (jump : Option Code) (κ : St → Bool) : Bool :=
  turnK ng σ l (fun _ => true) (fun _ => if jump.isNone then .ready else .done) (fun _ => jump) fun _ σ' => κ σ'

theorem endRdK_goes {σ : St} (hwf : AWf σ) {l : Nat} {jump : Option Code} {κ : St → Bool} (h : endRdK ng σ l jump κ = true) :
    ∃ σ', κ σ' = true ∧ AWf σ' ∧ AExt σ σ' ∧ ∀ base e w, Rel ng base e σ w → e.M l → ∃ w', (Instr.endRound (e.blk l) jump).run P w = .ok (.bool jump.isNone) w' ∧ Rel ng base e σ' w' ∧ Ext ng e σ w e σ' w' := by
  obtain ⟨pd, σ', h1, h2, h3, h4⟩ := turnK_goes (P := P) hwf h
  refine ⟨σ', h1, h2, h3, fun base e w hr hm => ?_⟩
  obtain ⟨r, w', g1, g2, g3, g4, g5, g6⟩ := h4 base e w hr hm
  refine ⟨w', ?_, g5, g6⟩
  simp only [Instr.endRound, Sem.run_bind, run_getLoop g1, Result.andThen_ok, g4, Sem.run_pure]

/-- the statement's beginning: the record, and for a loop that is in no round the block of deferred calls with its mark -/
noncomputable def enterK (fr : Fr) (tm : T V) (ps : List Tmp) (as bd : Code) (σ : St) (κ : Nat → List ADef → St → Bool) : Bool :=
  match fr.rd with
  | none => σ.newK (.dfd []) fun d σ1 => σ1.newK (.loop .ready none fr.fn tm fr.nt ps as bd d) fun l σ2 => κ l [{ fn := .func 0, captured := [], args := [], mark := some d }] σ2
  | some l0 =>
    match σ.at l0 with
    | .loop _ _ _ _ _ _ _ _ d => σ.newK (.loop .ready none fr.fn tm fr.nt ps as bd d) fun l σ1 => κ l [] σ1
    | _ => false

theorem enterK_goes {fr : Fr} {tm : T V} {ps : List Tmp} {as bd : Code} {σ : St} (hwf : AWf σ) {κ : Nat → List ADef → St → Bool} (h : enterK fr tm ps as bd σ κ = true) :
    ∃ l mk σ', κ l mk σ' = true ∧ AWf σ' ∧ AExt σ σ' ∧ ∀ base e ds u (b : Frame) a cs w, SR ng base fr e tm ds u σ b a cs w →
      ∃ e' w' ms, (Instr.enterLoop b.fn a.tmps ps.toArray as bd b.roundOf).run P w = .ok (e'.blk l, ms) w' ∧ e'.M l ∧ DRs e' mk ms ∧ Rel ng base e' σ' w' ∧ Ext ng e σ w e' σ' w' := by
  unfold enterK at h
  split at h
  · rename_i hrd
    obtain ⟨h1, h2, h3, h4⟩ := newK_goes (P := P) (ng := ng) hwf h
    obtain ⟨k1, k2, k3, k4⟩ := newK_goes (P := P) (ng := ng) h2 h1
    refine ⟨_, _, _, k1, k2, h3.trans k3, fun base e ds u b a cs w hs => ?_⟩
    obtain ⟨w1, g1, g2, g3⟩ := h4 base e w (.deferred (some [])) 0 hs.room hs.rel ⟨[], rfl, trivial⟩
    have hro : b.roundOf = none := by have := hs.bf.2.2; rw [hrd] at this; exact this
    have hnm : ¬ (e.more σ.next w.heap.size 0).M (σ.more (.dfd [])).next := fun hm => Nat.lt_irrefl _ (g2.lim _ hm)
    have hle := Env.le_more (e.more σ.next w.heap.size 0) (σ.more (.dfd [])).next w1.heap.size 0 hnm
    obtain ⟨hd1, hd2, _⟩ := hle.mono σ.next (.inr rfl)
    have hd0 : (e.more σ.next w.heap.size 0).blk σ.next = w.heap.size := by simp [Env.more]
    obtain ⟨w2, q1, q2, q3⟩ := k4 base _ w1 (.loop { state := .ready, pending := none, fn := b.fn, tmps := a.tmps, params := ps.toArray, assign := as, body := bd, defers := w.heap.size }) 0 (Nat.le_trans hs.room g3.size) g2
      ⟨hd1, a.tmps, by rw [hd2, hd0, hs.bf.1], hs.tm.size, fun t ht => VR.mono (g3.le.trans hle) _ _ (hs.tm.rel t ht)⟩
    refine ⟨(e.more σ.next w.heap.size 0).more (σ.more (.dfd [])).next w1.heap.size 0, w2, [{ target := .collected w.heap.size, args := #[] }], ?_, .inr rfl, ⟨⟨hd1, by rw [hd2, hd0]⟩, trivial⟩, q2, g3.trans q3⟩
    have hl : ((e.more σ.next w.heap.size 0).more (σ.more (.dfd [])).next w1.heap.size 0).blk (σ.more (.dfd [])).next = w1.heap.size := by simp [Env.more]
    rw [hl, hro]
    simp only [Instr.enterLoop, Sem.run_bind, g1, Result.andThen_ok, Sem.run_pure, q1]
  · rename_i l0 hrd
    split at h
    · rename_i _ _ _ _ _ _ _ _ d hat
      obtain ⟨k1, k2, k3, k4⟩ := newK_goes (P := P) (ng := ng) hwf h
      refine ⟨_, _, _, k1, k2, k3, fun base e ds u b a cs w hs => ?_⟩
      have hro := hs.bf.2.2
      rw [hrd] at hro
      obtain ⟨hm, hro⟩ := hro
      obtain ⟨o, g1, ⟨g2, ts, g3, _⟩, _⟩ := ob_sound hs.rel hm hat rfl
      subst g3
      have hnm : ¬ e.M σ.next := fun hm => Nat.lt_irrefl _ (hs.rel.lim _ hm)
      have hle := Env.le_more e σ.next w.heap.size 0 hnm
      obtain ⟨hd1, hd2, _⟩ := hle.mono d g2
      obtain ⟨w2, q1, q2, q3⟩ := k4 base e w (.loop { state := .ready, pending := none, fn := b.fn, tmps := a.tmps, params := ps.toArray, assign := as, body := bd, defers := e.blk d }) 0 hs.room hs.rel
        ⟨hd1, a.tmps, by rw [hd2, hs.bf.1], hs.tm.size, fun t ht => VR.mono hle _ _ (hs.tm.rel t ht)⟩
      refine ⟨e.more σ.next w.heap.size 0, w2, [], ?_, .inr rfl, trivial, q2, q3⟩
      have hl : (e.more σ.next w.heap.size 0).blk σ.next = w.heap.size := by simp [Env.more]
      rw [hl, hro]
      simp only [Instr.enterLoop, Sem.run_bind, run_getLoop g1, Result.andThen_ok, Sem.run_pure, q1]
    · cases h
end
end Go.Proofs.YtdolijagffcfgaaGreatDoor.Ev

/-
  The evaluator's loop over a frame's items.
-/
namespace Go.Proofs.YtdolijagffcfgaaGreatDoor.Ev

/-- how a frame's code is left: by its end or 'ret'; in a round, by a jump; by a panic -/
inductive FOut where
  | fin
  | left (jump : Option Code)
  | pan (ch : List (V × Bool))

section
variable {P : Program} {ng : Nat} {C : CallT}

noncomputable def exitA (id : Nat) : List Item → Option (List Item) :=
  fun l => List.rec (motive := fun _ => Option (List Item)) none (fun x k ih => match x with | .inBlock id' => Bool.rec (motive := fun _ => Option (List Item)) ih (some k) (Nat.beq id' id) | _ => ih) l
theorem exitA_eq (id : Nat) : ∀ l : List Item, exitA id l = exitTo id l
  | [] => rfl
  | x :: k => by
    have ih := exitA_eq id k
    cases x with
    | inBlock id' =>
      have h : exitA id (.inBlock id' :: k) = Bool.rec (motive := fun _ => Option (List Item)) (exitA id k) (some k) (Nat.beq id' id) := rfl
      rw [h, ih]
      simp only [exitTo]
      cases hb : Nat.beq id' id with
      | true => have := Nat.eq_of_beq_eq_true hb; simp [this]
      | false => have := Nat.ne_of_beq_eq_false hb; simp [this]
    | _ => exact ih

/-- one item of a frame -/
noncomputable def itemK (C : CallT) (ng : Nat) (tab : Tab P) (fr : Fr) (κ : FOut → OutT) (next : List Item → OutT) (todo : List Item) : OutT := fun tm ds u σ =>
  match todo with
  | [] => match fr.rd with | none => κ .fin tm ds u σ | some _ => κ (.left none) tm ds u σ
  | .code c :: k =>
    match c with
    | .skip => next k tm ds u σ
    | .label _ => next k tm ds u σ
    | .seq a b => next (.code a :: .code b :: k) tm ds u σ
    | .cond c x y => match evalA ng tm c with | .bool true => next (.code x :: k) tm ds u σ | .bool false => next (.code y :: k) tm ds u σ | _ => false
    | .block id body => next (.code body :: .inBlock id :: k) tm ds u σ
    | .loop body => next (.code body :: .inLoop body :: k) tm ds u σ
    | .scope body => next (.code body :: .inScope body :: k) tm ds u σ
    | .exit id => match exitA id k with | some k' => next k' tm ds u σ | none => match fr.rd with | some _ => κ (.left (some (.exit id))) tm ds u σ | none => false
    | .ret => match fr.rd with | none => κ .fin tm ds u σ | some _ => κ (.left (some .ret)) tm ds u σ
    | .region _ ops true => drawnK C ng tab fr ops.toList (next k) (fun ch => κ (.pan ch)) tm ds u σ
    | .region _ ops false => opsK C ng tab fr ops.toList (next k) (fun ch => κ (.pan ch)) ops.toList tm ds u σ
    | .rangeFunc f ps as bd =>
      match evalA ng tm f with
      | .func (.func g) first captured =>
        match tab.fn g with
        | some _ => enterK fr tm ps.toList as bd σ fun l mk σ1 => lappK first (.yieldf l :: captured) fun all => C (.fn g all false) .none σ1 fun out _ σ2 =>
          match out with
          | .ret _ => leaveK ng σ2 l fun jump σ3 => lappK mk ds fun ds' =>
            match jump with
            | none => next k tm ds' u σ3
            | some c => next (.code c :: k) tm ds' u σ3
          | .pan ch => lappK mk ds fun ds' => κ (.pan ch) tm ds' u σ2
        | none => false
      | _ => false
    | _ => false
  | .inBlock _ :: k => next k tm ds u σ
  | .inScope _ :: k => next k tm ds u σ
  | .inLoop c :: k => next (.code c :: .inLoop c :: k) tm ds u σ
  | .beginRound :: k => match fr.rd with | some l => beginK ng σ l fun σ' => next k tm ds u σ' | none => false
  | _ => false

noncomputable def runF (C : CallT) (ng : Nat) (tab : Tab P) (fr : Fr) (κ : FOut → OutT) (n : Nat) : List Item → OutT :=
  Nat.rec (motive := fun _ => List Item → OutT) (fun _ _ _ _ _ => false) (fun _ ih todo => itemK C ng tab fr κ ih todo) n

/-- where a round's code is left by a jump -/
def Leaves? (jump : Option Code) (todo : List Item) : Prop :=
  match jump with
  | none => todo = []
  | some .ret => ∃ k, todo = .code .ret :: k
  | some (.exit id) => ∃ k, todo = .code (.exit id) :: k ∧ exitTo id k = none
  | _ => False

def FDone (P : Program) (ng base : Nat) (fr : Fr) (b : Frame) (e : Env) (σ : St) (w : World) (cs : List Frame) (m : Machine) (out : FOut) (tm' : T V) (ds' : List ADef) (u' : U) (σ' : St) : Prop :=
  match out with
  | .fin => ∃ e' a' cs' w' todo, Steps P m (lone { b.atR a' todo with mode := .returning } cs' w') ∧ SR ng base fr e' tm' ds' u' σ' b a' cs' w' ∧ Ext ng e σ w e' σ' w' ∧ KS e' fr u' cs cs'
  | .left jump => ∃ todo, Leaves? jump todo ∧ To P ng base fr b e σ w cs m todo tm' ds' u' σ'
  | .pan ch => Pan P ng base fr b e σ w cs m ch tm' ds' u' σ'

theorem FDone.after {base : Nat} {fr : Fr} {b : Frame} {e : Env} {σ : St} {w : World} {cs : List Frame} {m : Machine} {todo : List Item} {tm' : T V} {ds' : List ADef} {u' : U} {σ' : St} (h : To P ng base fr b e σ w cs m todo tm' ds' u' σ')
    {out : FOut} {tm2 : T V} {ds2 : List ADef} {u2 : U} {σ2 : St} (k : ∀ e a cs w, SR ng base fr e tm' ds' u' σ' b a cs w → FDone P ng base fr b e σ' w cs (lone (b.atR a todo) cs w) out tm2 ds2 u2 σ2) : FDone P ng base fr b e σ w cs m out tm2 ds2 u2 σ2 := by
  obtain ⟨e1, a1, cs1, w1, h1, h2, h3, h4⟩ := h
  have hk := k e1 a1 cs1 w1 h2
  cases out with
  | fin =>
    obtain ⟨e2, a2, cs2, w2, td, k1, k2, k3, k4⟩ := hk
    exact ⟨e2, a2, cs2, w2, td, Steps.trans h1 k1, k2, h3.trans k3, h4.trans k4⟩
  | left jump =>
    obtain ⟨td, j1, e2, a2, cs2, w2, k1, k2, k3, k4⟩ := hk
    exact ⟨td, j1, e2, a2, cs2, w2, Steps.trans h1 k1, k2, h3.trans k3, h4.trans k4⟩
  | pan ch =>
    obtain ⟨e2, a2, cs2, w2, td, CH, k1, k2, k3, k4, k5⟩ := hk
    exact ⟨e2, a2, cs2, w2, td, CH, Steps.trans h1 k1, k2, k3, h3.trans k4, h4.trans k5⟩

def FGoes (P : Program) (ng : Nat) (fr : Fr) (κ : FOut → OutT) (todo : List Item) (tm : T V) (ds : List ADef) (u : U) (σ : St) : Prop :=
  ∃ out tm' ds' u' σ', κ out tm' ds' u' σ' = true ∧ AWf σ' ∧ AExt σ σ' ∧ ∀ base e (b : Frame) a cs w, ng ≤ base → SR ng base fr e tm ds u σ b a cs w → FDone P ng base fr b e σ w cs (lone (b.atR a todo) cs w) out tm' ds' u' σ'

theorem stepR_scope {b : Frame} {a : Act} {k : List Item} {cs : List Frame} {w : World} {c : Code} : step P (lone (b.atR a (.code (.scope c) :: k)) cs w) = .next (lone (b.atR a (.code c :: .inScope c :: k)) cs w) :=
  step_lone_go (by simp [stepG, stepG.exec, Frame.atR])
theorem stepR_inScope {b : Frame} {a : Act} {k : List Item} {cs : List Frame} {w : World} {c : Code} : step P (lone (b.atR a (.inScope c :: k)) cs w) = .next (lone (b.atR a k) cs w) :=
  step_lone_go (by simp [stepG, stepG.exec, Frame.atR])

theorem FGoes.next {fr : Fr} {κ : FOut → OutT} {todo todo' : List Item} {tm : T V} {ds : List ADef} {u : U} {σ : St} (h : FGoes P ng fr κ todo' tm ds u σ)
    (hs : ∀ base e (b : Frame) a cs w, SR ng base fr e tm ds u σ b a cs w → step P (lone (b.atR a todo) cs w) = .next (lone (b.atR a todo') cs w)) : FGoes P ng fr κ todo tm ds u σ := by
  obtain ⟨out, tm', ds', u', σ', h1, h2, h3, h4⟩ := h
  exact ⟨out, tm', ds', u', σ', h1, h2, h3, fun base e b a cs w hnb hsr => FDone.after (To.one hsr (hs base e b a cs w hsr)) fun e a cs w h' => h4 base e b a cs w hnb h'⟩

theorem FGoes.to {fr : Fr} {κ : FOut → OutT} {todo todo' : List Item} {tm tm1 : T V} {ds ds1 : List ADef} {u u1 : U} {σ σ1 : St} (h : FGoes P ng fr κ todo' tm1 ds1 u1 σ1) (hx : AExt σ σ1)
    (hs : ∀ base e (b : Frame) a cs w, ng ≤ base → SR ng base fr e tm ds u σ b a cs w → To P ng base fr b e σ w cs (lone (b.atR a todo) cs w) todo' tm1 ds1 u1 σ1) : FGoes P ng fr κ todo tm ds u σ := by
  obtain ⟨out, tm', ds', u', σ', h1, h2, h3, h4⟩ := h
  exact ⟨out, tm', ds', u', σ', h1, h2, hx.trans h3, fun base e b a cs w hnb hsr => FDone.after (hs base e b a cs w hnb hsr) fun e a cs w h' => h4 base e b a cs w hnb h'⟩

theorem BR.norm {e : Env} {fr : Fr} {b : Frame} (h : BR e fr b) (hr : fr.rd = none) : b.roundOf = none := by
  have := h.2.2
  rw [hr] at this
  exact this

theorem SR.less {base : Nat} {fr : Fr} {e e' : Env} {tm : T V} {ds : List ADef} {u : U} {σ σ' : St} {b : Frame} {a : Act} {cs : List Frame} {w w' : World} (h : SR ng base fr e tm ds u σ b a cs w) (hr : Rel ng base e' σ' w') (hx : Ext ng e σ w e' σ' w') : SR ng base fr e' tm ds u σ' b a cs w' :=
  ⟨Nat.le_trans h.room hx.size, hr, h.glob.mono hx.le, h.bf.mono hx.le, h.tm.mono hx.le, h.ds.mono hx.le, h.kr.mono hx.le⟩

/-- a loop over a function: what the called function does, and the rest -/
theorem rangeFunc_run {tab : Tab P} (hC : CallOk P ng C) {fr : Fr} {f : Operand} {ps : Array Tmp} {as bd : Code} {tm : T V} {ds : List ADef} {u : U} {σ : St} {g : FuncId} {fn : Func} {first captured : List V} (hwf : AWf σ)
    (hv : evalA ng tm f = .func (.func g) first captured) (hg : tab.fn g = some fn) {κ : Nat → List ADef → COut → St → Bool}
    (h : (enterK fr tm ps.toList as bd σ fun l mk σ1 => C (.fn g (first ++ (.yieldf l :: captured)) false) .none σ1 fun out _ σ2 => κ l mk out σ2) = true) :
    ∃ l mk out σ2, κ l mk out σ2 = true ∧ AWf σ2 ∧ AExt σ σ2 ∧ ∀ base e (b : Frame) a cs w k, ng ≤ base → SR ng base fr e tm ds u σ b a cs w →
      ∃ e' w' ms fr' E, Steps P (lone (b.atR a (.code (.rangeFunc f ps as bd) :: k)) cs w) (lone fr' (b.atR { a with defers := ms ++ a.defers } (.inRangeFunc (e'.blk l) :: k) :: cs) w') ∧ fr'.leaving P w' E ∧ ER e' out E ∧ e'.M l ∧ DRs e' mk ms ∧
        SR ng base fr e' tm (mk ++ ds) u σ2 b { a with defers := ms ++ a.defers } cs w' ∧ Ext ng e σ w e' σ2 w' := by
  obtain ⟨l, mk, σ1, h1, h2, h3, h4⟩ := enterK_goes (P := P) (ng := ng) hwf h
  obtain ⟨out, _, σ2, k1, k2, k3, k4⟩ := hC _ _ _ _ h2 h1
  refine ⟨l, mk, out, σ2, k1, k2, h3.trans k3, fun base e b a cs w k hnb hs => ?_⟩
  obtain ⟨e1, w1, ms, g1, g2, g3, g4, g5⟩ := h4 base e ds u b a cs w hs
  rw [Array.toArray_toList] at g1
  have hs1 := hs.less g4 g5
  have hx := evalA_sound hs.glob hs.tm f
  rw [hv] at hx
  simp only [VR] at hx
  obtain ⟨_, fa, ca, he, hf1, hf2⟩ := hx
  have hres : (resolve a.eval (rangeCall f (e1.blk l)) 0).run P w1 = .ok { target := .fn (.func g) ca, args := fa ++ #[Value.func (.yield (e1.blk l)) #[] #[]] } w1 := by
    rw [resolve_value a.eval f _ _ _ he]
    simp [Act.eval]
  have hinv : (invoke (Target.fn (.func g) ca) (fa ++ #[Value.func (.yield (e1.blk l)) #[] #[]])).run P w1 = .ok (.enter g (fa ++ #[Value.func (.yield (e1.blk l)) #[] #[]] ++ ca)) w1 := run_callFunc hg _ w1
  have hst := stepR_rangeFunc (cs := cs) (k := k) (ps := ps) (assign := as) (body := bd) g1 hres hinv
  have hall : VRs e1 (first ++ (.yieldf l :: captured)) (fa ++ #[Value.func (.yield (e1.blk l)) #[] #[]] ++ ca).toList := by
    have : (fa ++ #[Value.func (.yield (e1.blk l)) #[] #[]] ++ ca).toList = fa.toList ++ (Value.func (.yield (e1.blk l)) #[] #[] :: ca.toList) := by simp
    rw [this]
    exact (VRs.mono g5.le _ _ hf1).app (VRs.cons (by simp only [VR]; exact ⟨g2, trivial⟩) (VRs.mono g5.le _ _ hf2))
  obtain ⟨e2, w2, fr', E, y1, _, y3, y4, y5, y6⟩ := k4 base e1 w1 _ hs1.room hnb g4 hs1.glob hall (b.atR { a with defers := ms ++ a.defers } (.inRangeFunc (e1.blk l) :: k) :: cs)
  obtain ⟨m1, m2, _⟩ := y6.le.mono l g2
  have hs2 := hs1.less y5 y6
  refine ⟨e2, w2, ms, fr', E, by rw [m2]; exact .head hst y1, y3, y4, m1, g3.mono y6.le, ?_, g5.trans y6⟩
  exact ⟨hs2.room, hs2.rel, hs2.glob, hs2.bf, hs2.tm, (g3.mono y6.le).app hs2.ds, hs2.kr⟩

theorem runF_sound {tab : Tab P} (hC : CallOk P ng C) (hmix : P.follows .mixedOrders = true) {fr : Fr} {κ : FOut → OutT} : ∀ (n : Nat) (todo : List Item) (tm : T V) (ds : List ADef) (u : U) (σ : St), AWf σ → runF C ng tab fr κ n todo tm ds u σ = true → FGoes P ng fr κ todo tm ds u σ := by
  intro n
  induction n with
  | zero => intro todo tm ds u σ _ h; cases h
  | succ n ih =>
    intro todo tm ds u σ hwf h
    have h' : itemK C ng tab fr κ (runF C ng tab fr κ n) todo tm ds u σ = true := h
    clear h
    unfold itemK at h'
    split at h'
    · -- the end
      split at h'
      · rename_i hr
        refine ⟨.fin, tm, ds, u, σ, h', hwf, .refl σ, fun base e b a cs w _ hs => ⟨e, a, cs, w, _, .one (stepR_end (hs.bf.norm hr)), hs, .refl .., .refl hs.kr⟩⟩
      · exact ⟨.left none, tm, ds, u, σ, h', hwf, .refl σ, fun base e b a cs w _ hs => ⟨[], rfl, e, a, cs, w, .refl P _, hs, .refl .., .refl hs.kr⟩⟩
    · split at h'
      · exact (ih _ _ _ _ _ hwf h').next fun base e b a cs w hs => stepR_skip
      · exact (ih _ _ _ _ _ hwf h').next fun base e b a cs w hs => stepR_label
      · exact (ih _ _ _ _ _ hwf h').next fun base e b a cs w hs => stepR_seq
      · rename_i c x y
        split at h'
        · rename_i hc
          refine (ih _ _ _ _ _ hwf h').next fun base e b a cs w hs => ?_
          have hv := evalA_sound hs.glob hs.tm c
          rw [hc] at hv
          simp only [VR] at hv
          exact stepR_cond (t := true) hv
        · rename_i hc
          refine (ih _ _ _ _ _ hwf h').next fun base e b a cs w hs => ?_
          have hv := evalA_sound hs.glob hs.tm c
          rw [hc] at hv
          simp only [VR] at hv
          exact stepR_cond (t := false) hv
        · cases h'
      · exact (ih _ _ _ _ _ hwf h').next fun base e b a cs w hs => stepR_block
      · exact (ih _ _ _ _ _ hwf h').next fun base e b a cs w hs => stepR_loop
      · exact (ih _ _ _ _ _ hwf h').next fun base e b a cs w hs => stepR_scope
      · split at h'
        · rename_i hk
          rw [exitA_eq] at hk
          exact (ih _ _ _ _ _ hwf h').next fun base e b a cs w hs => stepR_exit hk
        · rename_i hk
          rw [exitA_eq] at hk
          split at h'
          · exact ⟨_, tm, ds, u, σ, h', hwf, .refl σ, fun base e b a cs w _ hs => ⟨_, ⟨_, rfl, hk⟩, e, a, cs, w, .refl P _, hs, .refl .., .refl hs.kr⟩⟩
          · cases h'
      · split at h'
        · rename_i hr
          exact ⟨.fin, tm, ds, u, σ, h', hwf, .refl σ, fun base e b a cs w _ hs => ⟨e, a, cs, w, _, .one (stepR_ret (hs.bf.norm hr)), hs, .refl .., .refl hs.kr⟩⟩
        · exact ⟨_, tm, ds, u, σ, h', hwf, .refl σ, fun base e b a cs w _ hs => ⟨_, ⟨_, rfl⟩, e, a, cs, w, .refl P _, hs, .refl .., .refl hs.kr⟩⟩
      · rcases drawnK_sound hC hmix hwf h' with ⟨tm1, ds1, u1, σ1, h1, h2, h3, h4⟩ | ⟨ch, tm1, ds1, u1, σ1, h1, h2, h3, h4⟩
        · exact (ih _ _ _ _ _ h2 h1).to h3 fun base e b a cs w hnb hs => h4 base e b a cs w _ _ hnb hs
        · exact ⟨.pan ch, tm1, ds1, u1, σ1, h1, h2, h3, fun base e b a cs w hnb hs => h4 base e b a cs w _ _ hnb hs⟩
      · rename_i k0 c0 id0 ops0
        rcases opsK_sound hC ops0.toList 0 _ _ _ _ List.drop_zero hwf h' with ⟨tm1, ds1, u1, σ1, h1, h2, h3, h4⟩ | ⟨ch, tm1, ds1, u1, σ1, h1, h2, h3, h4⟩
        · refine (ih _ _ _ _ _ h2 h1).to h3 fun base e b a cs w hnb hs => (To.one hs stepR_region).trans fun e a cs w hs => ?_
          have := h4 base e b a cs w k0 hnb hs
          rw [Array.length_toList, ← List.range_eq_range'] at this
          exact this
        · refine ⟨.pan ch, tm1, ds1, u1, σ1, h1, h2, h3, fun base e b a cs w hnb hs => (To.one hs stepR_region).pan fun e a cs w hs => ?_⟩
          have := h4 base e b a cs w k0 hnb hs
          rw [Array.length_toList, ← List.range_eq_range'] at this
          exact this
      · -- a loop over a function
        rename_i k0 c0 f ps as bd
        split at h'
        · rename_i g first captured hv
          split at h'
          · rename_i fn hg
            simp only [lappK_eq] at h'
            obtain ⟨l, mk, out, σ2, h1, h2, h3, h4⟩ := rangeFunc_run (ds := ds) (u := u) (κ := fun l mk out σ2 => match out with
              | .ret _ => leaveK ng σ2 l fun jump σ3 =>
                match jump with
                | none => runF C ng tab fr κ n k0 tm (mk ++ ds) u σ3
                | some c => runF C ng tab fr κ n (.code c :: k0) tm (mk ++ ds) u σ3
              | .pan ch => κ (.pan ch) tm (mk ++ ds) u σ2) hC hwf hv hg h'
            cases out with
            | ret v =>
              simp only at h1
              obtain ⟨jump, σ3, k1, k2, k3, k4⟩ := leaveK_goes (P := P) h2 h1
              have first : ∀ base e (b : Frame) a cs w, ng ≤ base → SR ng base fr e tm ds u σ b a cs w → To P ng base fr b e σ w cs (lone (b.atR a (.code (.rangeFunc f ps as bd) :: k0)) cs w) ((jump.map Item.code).toList ++ k0) tm (mk ++ ds) u σ3 := by
                intro base e b a cs w hnb hs
                obtain ⟨e1, w1, ms, fr', E, y1, y2, y3, y4, y5, y6, y7⟩ := h4 base e b a cs w k0 hnb hs
                cases E with
                | returned z =>
                  have hst := step_leave_returned (c := b.atR { a with defers := ms ++ a.defers } (.inRangeFunc (e1.blk l) :: k0)) (cs := cs) y2
                  rw [finish_atR_inRangeFunc] at hst
                  obtain ⟨w2, z1, z2, z3⟩ := k4 base e1 w1 y6.rel y4
                  exact ⟨e1, _, cs, w2, Steps.trans y1 (.head hst (.one (stepR_endRangeFunc z1))), y6.less z2 z3, y7.trans z3, .refl (y6.less z2 z3).kr⟩
                | panicked _ => exact y3.elim
                | outgrown => exact y3.elim
              cases jump with
              | none => exact (ih _ _ _ _ _ k2 k1).to (h3.trans k3) fun base e b a cs w hnb hs => first base e b a cs w hnb hs
              | some c => exact (ih _ _ _ _ _ k2 k1).to (h3.trans k3) fun base e b a cs w hnb hs => first base e b a cs w hnb hs
            | pan ch =>
              simp only at h1
              refine ⟨.pan ch, tm, mk ++ ds, u, σ2, h1, h2, h3, fun base e b a cs w hnb hs => ?_⟩
              obtain ⟨e1, w1, ms, fr', E, y1, y2, y3, y4, y5, y6, y7⟩ := h4 base e b a cs w k0 hnb hs
              cases E with
              | returned z => exact y3.elim
              | panicked CH =>
                have hst := step_leave_panicked (c := b.atR { a with defers := ms ++ a.defers } (.inRangeFunc (e1.blk l) :: k0)) (cs := cs) y2
                rw [Frame.raise_atR] at hst
                exact ⟨e1, _, cs, w1, _, CH, Steps.trans y1 (.one hst), y3, y6, y7, .refl y6.kr⟩
              | outgrown => exact y3.elim
          · cases h'
        · cases h'
      · cases h'
    · exact (ih _ _ _ _ _ hwf h').next fun base e b a cs w hs => stepR_inBlock
    · exact (ih _ _ _ _ _ hwf h').next fun base e b a cs w hs => stepR_inScope
    · exact (ih _ _ _ _ _ hwf h').next fun base e b a cs w hs => stepR_inLoop
    · -- a round begins
      split at h'
      · rename_i l hrd
        obtain ⟨σ1, k1, k2, k3, k4⟩ := beginK_goes (P := P) hwf h'
        refine (ih _ _ _ _ _ k2 k1).to k3 fun base e b a cs w hnb hs => ?_
        have hro := hs.bf.2.2
        rw [hrd] at hro
        obtain ⟨w1, z1, z2, z3⟩ := k4 base e w hs.rel hro.1
        exact ⟨e, a, cs, w1, .one (stepR_beginRound hro.2 z1), hs.less z2 z3, z3, .refl hs.kr⟩
      · cases h'
    · cases h'
end
end Go.Proofs.YtdolijagffcfgaaGreatDoor.Ev

/-
  The evaluator's results of a function, and the calls that were deferred.
-/
namespace Go.Proofs.YtdolijagffcfgaaGreatDoor.Ev
section
variable {P : Program} {ng : Nat} {C : CallT}

/-! ### results -/
noncomputable def resK (tab : Tab P) (tm : T V) (σ : St) : List ResultVar → (List V → Bool) → Bool :=
  fun l => List.rec (motive := fun _ => (List V → Bool) → Bool) (fun κ => κ []) (fun r _ ih κ =>
    match r with
    | .tmp t => bif Nat.blt t 512 then headV (tget tm t) fun v => ih fun l => κ (v :: l) else false
    | .cell a t => bif Nat.blt a 512 then (match loadO tab σ t (tget tm a) with | some v => headV v fun v => ih fun l => κ (v :: l) | none => false) else false) l

def resultOf (tmps : Array Value) : ResultVar → Sem Value
  | .tmp t => pure (tmps.getD t undef)
  | .cell a t => do loadVar t (← asAddr (tmps.getD a undef))

theorem resK_sound {tab : Tab P} {tm : T V} {σ : St} : ∀ (l : List ResultVar) (κ : List V → Bool), resK tab tm σ l κ = true →
    ∃ vs, κ vs = true ∧ ∀ base e w nt tmps, Rel ng base e σ w → TR e nt tm tmps → ∃ zs, VRs e vs zs ∧ (l.mapM (resultOf tmps)).run P w = .ok zs w
  | [], κ, h => ⟨[], h, fun _ _ _ _ _ _ _ => ⟨[], VRs.nil, by simp⟩⟩
  | r :: l, κ, h => by
    have h' : (match (generalizing := false) r with
      | .tmp t => bif Nat.blt t 512 then headV (tget tm t) fun v => resK tab tm σ l fun l => κ (v :: l) else false
      | .cell a t => bif Nat.blt a 512 then (match loadO tab σ t (tget tm a) with | some v => headV v fun v => resK tab tm σ l fun l => κ (v :: l) | none => false) else false) = true := h
    clear h
    cases r with
    | tmp t =>
      simp only [cond_eq_ite] at h'
      split at h'
      · rename_i hlt
        rw [headV_eq] at h'
        obtain ⟨vs, h1, h2⟩ := resK_sound l _ h'
        refine ⟨_, h1, fun base e w nt tmps hr ht => ?_⟩
        obtain ⟨zs, z1, z2⟩ := h2 base e w nt tmps hr ht
        refine ⟨_ :: zs, VRs.cons (ht.rel t (blt_lt hlt)) z1, ?_⟩
        rw [List.mapM_cons]
        simp only [resultOf, Sem.run_bind, Sem.run_pure, Result.andThen_ok, z2]
      · cases h'
    | cell a t =>
      simp only [cond_eq_ite] at h'
      split at h'
      · rename_i hlt
        split at h'
        · rename_i v hv
          rw [headV_eq] at h'
          obtain ⟨vs, h1, h2⟩ := resK_sound l _ h'
          refine ⟨_, h1, fun base e w nt tmps hr ht => ?_⟩
          obtain ⟨zs, z1, z2⟩ := h2 base e w nt tmps hr ht
          have hx := ht.rel a (blt_lt hlt)
          obtain ⟨z, y1, y2⟩ := loadO_sound hv hr hx
          refine ⟨z :: zs, VRs.cons y1 z1, ?_⟩
          have hp : ∃ ad, tmps.getD a undef = .pointer (some ad) := by
            unfold loadO at hv
            split at hv
            · rename_i hq
              rw [hq] at hx
              simp only [VR] at hx
              exact ⟨_, hx.2⟩
            · cases hv
          obtain ⟨ad, had⟩ := hp
          rw [had] at y2
          have y3 : (loadVar t ad).run P w = .ok z w := by
            simpa only [Instr.loadAt, Instr.sureAddr, Sem.run_bind, Sem.run_pure, Result.andThen_ok] using y2
          rw [List.mapM_cons]
          simp only [resultOf, had, asAddr, Sem.run_bind, Sem.run_pure, Result.andThen_ok, y3, z2]
        · cases h'
      · cases h'

/-- the one result, or the tuple of all -/
noncomputable def outV (vs : List V) : V := match vs with | [v] => v | vs => .tup vs

theorem results_run {tab : Tab P} {fn : Func} {tm : T V} {σ : St} {κ : List V → Bool} (h : resK tab tm σ fn.results.toList κ = true) :
    ∃ vs, κ vs = true ∧ ∀ base e w nt tmps, Rel ng base e σ w → TR e nt tm tmps → ∃ z, VR e (outV vs) z ∧ (results fn tmps).run P w = .ok z w := by
  obtain ⟨vs, h1, h2⟩ := resK_sound (ng := ng) _ _ h
  refine ⟨vs, h1, fun base e w nt tmps hr ht => ?_⟩
  obtain ⟨zs, z1, z2⟩ := h2 base e w nt tmps hr ht
  have hm : (fn.results.mapM (resultOf tmps)).run P w = .ok zs.toArray w := by
    rw [Array.mapM_eq_mapM_toList]
    show ((fn.results.toList.mapM (resultOf tmps)) >>= fun l => pure l.toArray).run P w = _
    rw [Sem.run_bind, z2]
    rfl
  refine ⟨if h : zs.toArray.size = 1 then zs.toArray[0] else .tuple zs.toArray, ?_, ?_⟩
  · have hl := z1.length
    cases vs with
    | nil =>
      cases zs with
      | nil => simp only [outV, VR]; exact ⟨#[], by simp, VRs.nil⟩
      | cons _ _ => simp at hl
    | cons v vs =>
      cases zs with
      | nil => simp at hl
      | cons z zs =>
        cases vs with
        | nil =>
          cases zs with
          | nil => simp only [VRs] at z1; simpa [outV] using z1.1
          | cons _ _ => simp at hl
        | cons v2 vs =>
          cases zs with
          | nil => simp at hl
          | cons zz zs =>
            simp only [outV, VR]
            refine ⟨(z :: zz :: zs).toArray, by simp, z1⟩
  · have hres : results fn tmps = (do let vs ← fn.results.mapM (resultOf tmps); pure (if h : vs.size = 1 then vs[0] else .tuple vs)) := by
      unfold results
      congr 1
    rw [hres, Sem.run_bind, hm]
    rfl


/-! ### deferred calls -/
noncomputable def settleA (u : U) : U :=
  match u with
  | .pan ((_, true) :: _) => .returning
  | u => u
noncomputable def raisedA (u : U) (ch : List (V × Bool)) : U :=
  match u with
  | .pan old => .pan (ch ++ old)
  | _ => .pan ch
def U.up : U → Prop
  | .none => False
  | _ => True

theorem CHR.noexit {e : Env} : ∀ {l : List (V × Bool)} {m : List PanicEntry}, CHR e l m → m.dropWhile (!·.goexit) = []
  | [], [], _ => rfl
  | (_, _) :: _, x :: m, h => by
    obtain ⟨⟨_, _, h3⟩, h4⟩ := h
    rw [List.dropWhile_cons, h3]
    exact CHR.noexit h4
  | [], _ :: _, h => h.elim
  | _ :: _, [], h => by simp only [CHR] at h

theorem settle_sound {e : Env} {u : U} {m : FrameMode} (h : UR e u m) (hu : u.up) : UR e (settleA u) (settle m) ∧ (settleA u).up := by
  cases u with
  | none => exact hu.elim
  | returning =>
    have h' : m = .returning := h
    subst h'
    exact ⟨rfl, trivial⟩
  | pan ch =>
    obtain ⟨C, rfl, hc⟩ := h
    cases ch with
    | nil =>
      cases C with
      | nil => exact ⟨⟨[], rfl, trivial⟩, trivial⟩
      | cons _ _ => exact hc.elim
    | cons p ch =>
      obtain ⟨v, r⟩ := p
      cases C with
      | nil => simp only [CHR] at hc
      | cons x C =>
        obtain ⟨⟨h1, h2, h3⟩, h4⟩ := hc
        obtain ⟨xv, xr, xg⟩ := x
        simp only at h1 h2 h3
        subst h2
        subst h3
        cases xr with
        | true =>
          refine ⟨?_, trivial⟩
          show settle _ = .returning
          simp only [settle, h4.noexit]
        | false => exact ⟨⟨_, rfl, ⟨⟨h1, rfl, rfl⟩, h4⟩⟩, trivial⟩

theorem raised_sound {e : Env} {u : U} {m : FrameMode} (h : UR e u m) (hu : u.up) {ch : List (V × Bool)} {C : List PanicEntry} (hc : CHR e ch C) : UR e (raisedA u ch) (raised m C) ∧ (raisedA u ch).up := by
  cases u with
  | none => exact hu.elim
  | returning =>
    have h' : m = .returning := h
    subst h'
    exact ⟨⟨C, rfl, hc⟩, trivial⟩
  | pan old =>
    obtain ⟨O, rfl, ho⟩ := h
    exact ⟨⟨C ++ O, rfl, hc.app ho⟩, trivial⟩

theorem settleA_up {u : U} (hu : u.up) : (settleA u).up := by
  unfold settleA
  split
  · trivial
  · exact hu

noncomputable def unwK (C : CallT) (ng : Nat) (tab : Tab P) : List ADef → U → St → (U → St → Bool) → Bool :=
  fun l => List.rec (motive := fun _ => U → St → (U → St → Bool) → Bool) (fun u σ κ => κ u σ) (fun d _ ih u σ κ =>
    match d.mark, d.fn with
    | none, .func g =>
      match tab.fn g with
      | some _ => lappK d.args d.captured fun all => C (.fn g all true) u σ fun out u' σ' =>
        match u' with
        | .none => false
        | u' => match out with | .ret _ => ih (settleA u') σ' κ | .pan ch => ih (raisedA u' ch) σ' κ
      | none => false
    | some b, _ =>
      match σ.at b with
      | .dfd [] => obK ng σ b .taken fun σ' => ih u σ' κ
      | _ => false
    | _, _ => false) l

theorem unwK_sound {tab : Tab P} (hC : CallOk P ng C) : ∀ (l : List ADef) (u : U) (σ : St) (κ : U → St → Bool), AWf σ → u.up → unwK C ng tab l u σ κ = true →
    ∃ u' σ', κ u' σ' = true ∧ u'.up ∧ AWf σ' ∧ AExt σ σ' ∧ ∀ base e w (fr : Frame) cs dl, base ≤ w.heap.size → ng ≤ base → Rel ng base e σ w → GE ng e → DRs e l dl → fr.defers = dl → UR e u fr.mode →
      ∃ e' w' m', Steps P (lone fr cs w) (lone { fr with mode := m', defers := [] } cs w') ∧ UR e' u' m' ∧ Rel ng base e' σ' w' ∧ Ext ng e σ w e' σ' w'
  | [], u, σ, κ, hwf, hu, h => ⟨u, σ, h, hu, hwf, .refl σ, fun base e w fr cs dl hb _ hr hg hd hf hm => by
      cases dl with
      | nil => exact ⟨e, w, fr.mode, by rw [← hf]; exact .refl P _, hm, hr, .refl ..⟩
      | cons _ _ => exact hd.elim⟩
  | d :: l, u, σ, κ, hwf, hu, h => by
    have h' : (match (generalizing := false) d.mark, d.fn with
      | none, .func g =>
        match tab.fn g with
        | some _ => lappK d.args d.captured fun all => C (.fn g all true) u σ fun out u' σ' =>
          match u' with
          | .none => false
          | u' => match out with | .ret _ => unwK C ng tab l (settleA u') σ' κ | .pan ch => unwK C ng tab l (raisedA u' ch) σ' κ
        | none => false
      | some b, _ =>
        match σ.at b with
        | .dfd [] => obK ng σ b .taken fun σ' => unwK C ng tab l u σ' κ
        | _ => false
      | _, _ => false) = true := h
    split at h'
    · rename_i g hmark hfn
      split at h'
      · rename_i fn hg
        rw [lappK_eq] at h'
        obtain ⟨out, u1, σ1, h1, h2, h3, h4⟩ := hC _ _ _ _ hwf h'
        have hu1 : u1.up := by cases u1 <;> first | (cases h1; done) | trivial
        have hcont : ∃ u2, unwK C ng tab l u2 σ1 κ = true ∧ u2.up ∧ ∀ base e w (fr : Frame) cs dl, base ≤ w.heap.size → ng ≤ base → Rel ng base e σ w → GE ng e → DRs e (d :: l) dl → fr.defers = dl → UR e u fr.mode →
            ∃ e' w' m' dl', Steps P (lone fr cs w) (lone { fr with mode := m', defers := dl' } cs w') ∧ DRs e' l dl' ∧ UR e' u2 m' ∧ Rel ng base e' σ1 w' ∧ Ext ng e σ w e' σ1 w' := by
          have run : ∀ base e w (fr : Frame) cs dl, base ≤ w.heap.size → ng ≤ base → Rel ng base e σ w → GE ng e → DRs e (d :: l) dl → fr.defers = dl → UR e u fr.mode →
              ∃ x dl' e' w' fr' E m, dl = x :: dl' ∧ Steps P (lone fr cs w) (lone fr' ({ { fr with defers := dl' } with mode := m } :: cs) w') ∧ fr'.kind = .deferred ∧ fr'.going P w' E ∧ ER e' out E ∧ DRs e' l dl' ∧ UR e' u1 m ∧ Rel ng base e' σ1 w' ∧ Ext ng e σ w e' σ1 w' := by
            intro base e w fr cs dl hb hnb hr hge hd hf hm
            cases dl with
            | nil => exact hd.elim
            | cons x dl' =>
              obtain ⟨hd1, hd2⟩ := hd
              unfold DR at hd1
              rw [hmark] at hd1
              simp only at hd1
              obtain ⟨_, c, ar, rfl, r2, r3⟩ := hd1
              rw [hfn] at hf ⊢
              have hinv : (invoke (Target.fn (.func g) c) ar).run P w = .ok (.enter g (ar ++ c)) w := run_callFunc hg (ar ++ c) w
              have hall : VRs e (d.args ++ d.captured) (ar ++ c).toList := by rw [Array.toList_append]; exact r3.app r2
              have hrun : fr.mode ≠ .run := by
                intro hrun
                rw [hrun] at hm
                cases u with
                | none => exact hu
                | returning => cases hm
                | pan ch => obtain ⟨_, hc, _⟩ := hm; cases hc
              have hst := step_defer (cs := cs) hrun hf rfl hinv
              obtain ⟨e', w', fr', E, m, y1, y2, y3, y4, y5, y6, y7⟩ := h4 base e w _ hb hnb hr hge hall { fr with defers := dl' } cs hm
              exact ⟨_, dl', e', w', fr', E, m, rfl, .head hst y1, y2, y3, y4, hd2.mono y7.le, y5, y6, y7⟩
          cases out with
          | ret v =>
            have h1' : unwK C ng tab l (settleA u1) σ1 κ = true := by cases u1 <;> first | (cases h1; done) | exact h1
            refine ⟨settleA u1, h1', settleA_up hu1, fun base e w fr cs dl hb hnb hr hge hd hf hm => ?_⟩
            obtain ⟨x, dl', e', w', fr', E, m, y0, y1, y2, y3, y4, y5, y6, y7, y8⟩ := run base e w fr cs dl hb hnb hr hge hd hf hm
            cases E with
            | returned z =>
              have hst := step_going_returned (c := { { fr with defers := dl' } with mode := m }) (cs := cs) y2 y3
              exact ⟨e', w', settle m, dl', Steps.trans y1 (.one hst), y5, (settle_sound y6 hu1).1, y7, y8⟩
            | panicked _ => exact y4.elim
            | outgrown => exact y4.elim
          | pan ch =>
            have h1' : unwK C ng tab l (raisedA u1 ch) σ1 κ = true := by cases u1 <;> first | (cases h1; done) | exact h1
            refine ⟨raisedA u1 ch, h1', by cases u1 <;> trivial, fun base e w fr cs dl hb hnb hr hge hd hf hm => ?_⟩
            obtain ⟨x, dl', e', w', fr', E, m, y0, y1, y2, y3, y4, y5, y6, y7, y8⟩ := run base e w fr cs dl hb hnb hr hge hd hf hm
            cases E with
            | returned z => exact y4.elim
            | panicked CH =>
              have hst := step_going_panicked (c := { { fr with defers := dl' } with mode := m }) (cs := cs) y3
              exact ⟨e', w', raised m CH, dl', Steps.trans y1 (.one hst), y5, (raised_sound y6 hu1 y4).1, y7, y8⟩
            | outgrown => exact y4.elim
        obtain ⟨u2, c1, c2, c3⟩ := hcont
        obtain ⟨u', σ', k1, k2, k3, k4, k5⟩ := unwK_sound hC l u2 σ1 κ h2 c2 c1
        refine ⟨u', σ', k1, k2, k3, h3.trans k4, fun base e w fr cs dl hb hnb hr hge hd hf hm => ?_⟩
        obtain ⟨e1, w1, m1, dl1, y1, y2, y3, y4, y5⟩ := c3 base e w fr cs dl hb hnb hr hge hd hf hm
        obtain ⟨e2, w2, m2, z1, z2, z3, z4⟩ := k5 base e1 w1 { fr with mode := m1, defers := dl1 } cs dl1 (Nat.le_trans hb y5.size) hnb y4 (hge.mono y5.le) y2 rfl y3
        exact ⟨e2, w2, m2, Steps.trans y1 z1, z2, z3, y5.trans z4⟩
      · cases h'
    · rename_i bk hmark
      split at h'
      · rename_i hat
        obtain ⟨σ1, h1, h2, h3, h4⟩ := obK_goes (P := P) hwf hat rfl rfl h'
        obtain ⟨u', σ', k1, k2, k3, k4, k5⟩ := unwK_sound hC l u σ1 κ h2 hu h1
        refine ⟨u', σ', k1, k2, k3, h3.trans k4, fun base e w fr cs dl hb hnb hr hge hd hf hm => ?_⟩
        cases dl with
        | nil => exact hd.elim
        | cons x dl' =>
          obtain ⟨hd1, hd2⟩ := hd
          unfold DR at hd1
          rw [hmark] at hd1
          simp only at hd1
          obtain ⟨hM, rfl⟩ := hd1
          obtain ⟨o, g1, ⟨xs, g2, g3⟩, _⟩ := ob_sound hr hM hat rfl
          subst g2
          cases xs with
          | cons _ _ => exact g3.elim
          | nil =>
            obtain ⟨w1, y1, y2, y3⟩ := h4 base e w (.deferred none) hr hM rfl
            have htake : (Instr.takeDeferred (e.blk bk)).run P w = .ok [] w1 := by
              have hgo := getOb (P := P) g1 (by simp)
              simp only [Instr.takeDeferred, Sem.run_bind, hgo, Result.andThen_ok, y1, Sem.run_pure]
            have hrun : fr.mode ≠ .run := by
              intro hrun
              rw [hrun] at hm
              cases u with
              | none => exact hu
              | returning => cases hm
              | pan ch => obtain ⟨_, hc, _⟩ := hm; cases hc
            have hst := step_collected (cs := cs) hrun hf rfl htake
            obtain ⟨e2, w2, m2, z1, z2, z3, z4⟩ := k5 base e w1 { fr with defers := [] ++ dl' } cs dl' (Nat.le_trans hb y3.size) hnb y2 hge hd2 rfl hm
            exact ⟨e2, w2, m2, .head hst z1, z2, z3, y3.trans z4⟩
      · cases h'
    · cases h'
end
end Go.Proofs.YtdolijagffcfgaaGreatDoor.Ev

/-
  The evaluator's calls, by fuel.
-/
namespace Go.Proofs.YtdolijagffcfgaaGreatDoor.Ev
section
variable {P : Program} {ng : Nat}

noncomputable def argsK : List V → Nat → T V → (T V → Bool) → Bool :=
  fun l => List.rec (motive := fun _ => Nat → T V → (T V → Bool) → Bool) (fun _ tm κ => κ tm) (fun v _ ih i tm κ => T.setK V.undefV v dt i tm fun tm' => ih (Nat.succ i) tm' κ) l
noncomputable def argsP : List V → Nat → T V → T V
  | [], _, tm => tm
  | v :: l, i, tm => argsP l (i + 1) (T.set V.undefV v dt i tm)
theorem argsK_eq : ∀ (l : List V) (i : Nat) (tm : T V) (κ : T V → Bool), argsK l i tm κ = κ (argsP l i tm)
  | [], _, _, _ => rfl
  | v :: l, i, tm, κ => by
    show T.setK V.undefV v dt i tm (fun tm' => argsK l (i + 1) tm' κ) = _
    rw [T.setK_eq, argsK_eq l]
    rfl

theorem argsP_get {t : Nat} (ht : t < 2 ^ dt) : ∀ (l : List V) (i : Nat) (tm : T V), i + l.length ≤ 2 ^ dt → tget (argsP l i tm) t = if i ≤ t then (l[t - i]?).getD (tget tm t) else tget tm t
  | [], i, tm, _ => by simp [argsP]
  | v :: l, i, tm, h => by
    have hi : i < 2 ^ dt := by simp at h; omega
    have ih := argsP_get ht l (i + 1) (T.set V.undefV v dt i tm) (by simp at h ⊢; omega)
    have hg : tget (T.set V.undefV v dt i tm) t = if t = i then v else tget tm t := T.get_set _ _ _ _ _ _ hi ht
    show tget (argsP l (i + 1) (T.set V.undefV v dt i tm)) t = _
    rw [ih, hg]
    rcases Nat.lt_trichotomy t i with hlt | heq | hgt
    · rw [if_neg (by omega), if_neg (by omega), if_neg (by omega)]
    · subst heq
      rw [if_neg (by omega), if_pos rfl, if_pos (Nat.le_refl _)]
      simp
    · rw [if_pos (by omega), if_neg (by omega), if_pos (by omega)]
      have : t - i = (t - (i + 1)) + 1 := by omega
      rw [this, List.getElem?_cons_succ]

theorem args_TR {e : Env} {args : List V} {ARGS : Array Value} (ha : VRs e args ARGS.toList) {nt : Nat} (h1 : args.length ≤ nt) (h2 : nt ≤ 2 ^ dt) : TR e nt (argsP args 0 .nil) (ARGS ++ Array.replicate (nt - ARGS.size) undef) := by
  have hl : args.length = ARGS.size := by rw [ha.length]; simp
  refine ⟨by simp; omega, fun t ht => ?_⟩
  rw [argsP_get ht args 0 .nil (by omega), if_pos (Nat.zero_le _), Nat.sub_zero]
  have hnil : tget .nil t = V.tup [] := T.get_nil _ _ _
  rw [hnil]
  have hu : VR e (.tup []) undef := by simp only [VR]; exact ⟨_, rfl, VRs.nil⟩
  cases hv : args[t]? with
  | some v =>
    obtain ⟨x, x1, x2⟩ := ha.get t v hv
    have hlt : t < ARGS.size := by have := (List.getElem?_eq_some_iff.1 hv).1; omega
    have : (ARGS ++ Array.replicate (nt - ARGS.size) undef).getD t undef = x := by
      rw [Array.getD_eq_getD_getElem?, Array.getElem?_append_left hlt, ← Array.getElem?_toList, x1]
      rfl
    rw [this]
    exact x2
  | none =>
    have hge : ARGS.size ≤ t := by have := List.getElem?_eq_none_iff.1 hv; omega
    have : (ARGS ++ Array.replicate (nt - ARGS.size) undef).getD t undef = undef := by
      rw [Array.getD_eq_getD_getElem?, Array.getElem?_append_right hge, Array.getElem?_replicate]
      split <;> rfl
    rw [this]
    exact hu

noncomputable def endK (C : CallT) (ng : Nat) (tab : Tab P) (fn : Func) (tm : T V) (ds : List ADef) (u0 m : U) (σ : St) (κ : COut → U → St → Bool) : Bool :=
  unwK C ng tab ds m σ fun u1 σ1 =>
    match u1 with
    | .returning => resK tab tm σ1 fn.results.toList fun vs => κ (.ret (outV vs)) u0 σ1
    | .pan ch => κ (.pan ch) u0 σ1
    | .none => false

theorem endK_sound {C : CallT} {tab : Tab P} (hC : CallOk P ng C) {fn : Func} {tm : T V} {ds : List ADef} {u0 m : U} {σ : St} {κ : COut → U → St → Bool} (hwf : AWf σ) (hm : m.up) (h : endK C ng tab fn tm ds u0 m σ κ = true) :
    ∃ out σ', κ out u0 σ' = true ∧ AWf σ' ∧ AExt σ σ' ∧ ∀ base e w (fr : Frame) cs dl nt, base ≤ w.heap.size → ng ≤ base → Rel ng base e σ w → GE ng e → DRs e ds dl → fr.defers = dl → UR e m fr.mode → fr.kind = .normal → P.funcs[fr.fn]? = some fn → TR e nt tm fr.tmps →
      ∃ e' w' fr' E, Steps P (lone fr cs w) (lone fr' cs w') ∧ fr'.fn = fr.fn ∧ fr'.leaving P w' E ∧ ER e' out E ∧ Rel ng base e' σ' w' ∧ Ext ng e σ w e' σ' w' := by
  unfold endK at h
  obtain ⟨u', σ', h1, h2, h3, h4, h5⟩ := unwK_sound hC _ _ _ _ hwf hm h
  cases u' with
  | none => cases h1
  | returning =>
    obtain ⟨vs, k1, k2⟩ := results_run (P := P) (ng := ng) h1
    refine ⟨_, σ', k1, h3, h4, fun base e w fr cs dl nt hb hnb hr hg hd hf hu hk hfn ht => ?_⟩
    obtain ⟨e', w', m', y1, y2, y3, y4⟩ := h5 base e w fr cs dl hb hnb hr hg hd hf hu
    obtain ⟨z, z1, z2⟩ := k2 base e' w' nt fr.tmps y3 (ht.mono y4.le)
    have y2' : m' = .returning := y2
    exact ⟨e', w', _, .returned z, y1, rfl, ⟨y2', rfl, hk, fn, hfn, z2⟩, z1, y3, y4⟩
  | pan ch =>
    refine ⟨_, σ', h1, h3, h4, fun base e w fr cs dl nt hb hnb hr hg hd hf hu hk hfn ht => ?_⟩
    obtain ⟨e', w', m', y1, y2, y3, y4⟩ := h5 base e w fr cs dl hb hnb hr hg hd hf hu
    obtain ⟨CH, y5, y6⟩ := y2
    exact ⟨e', w', _, .panicked CH, y1, rfl, ⟨y5, rfl, fn, hfn⟩, y6, y3, y4⟩

/-- a frame that is entered -/
theorem enter_SR {base : Nat} {e : Env} {σ : St} {w : World} {f : FuncId} {fn : Func} {c : Code} {args : List V} {ARGS : Array Value} (hf : P.funcs[f]? = some fn) (hb : fn.body = some c) (h1 : args.length ≤ fn.ntmps) (h2 : fn.ntmps ≤ 2 ^ dt) (hroom : base ≤ w.heap.size) (hr : Rel ng base e σ w) (hg : GE ng e) (ha : VRs e args ARGS.toList) {dfd : Bool} {u : U} {cs : List Frame}
    (hk : KR e ⟨f, fn.ntmps, dfd, none⟩ u cs) : ∃ (b : Frame) (a : Act), Frame.enter P f ARGS (if dfd then .deferred else .normal) = b.atR a [.code c] ∧ b.fn = f ∧ b.kind = (if dfd then .deferred else .normal) ∧ SR ng base ⟨f, fn.ntmps, dfd, none⟩ e (argsP args 0 .nil) [] u σ b a cs w := by
  refine ⟨{ (default : Frame) with fn := f, kind := if dfd then .deferred else .normal }, { tmps := ARGS ++ Array.replicate (fn.ntmps - ARGS.size) undef, defers := [] }, ?_, rfl, rfl, ⟨hroom, hr, hg, ⟨rfl, rfl, rfl⟩, args_TR ha h1 h2, trivial, hk⟩⟩
  simp [Frame.enter, Frame.atR, hf, hb]
  rfl
end
end Go.Proofs.YtdolijagffcfgaaGreatDoor.Ev

/-
  The evaluator's calls, by fuel: their law.
-/
namespace Go.Proofs.YtdolijagffcfgaaGreatDoor.Ev
section
variable {P : Program} {ng : Nat}

/-- a round's parameters -/
noncomputable def roundK (nt : Nat) : List Tmp → List V → T V → (T V → Bool) → Bool
  | [], [], tm, κ => κ tm
  | t :: ps, v :: as, tm, κ => putT nt (some t) v tm fun tm' => roundK nt ps as tm' κ
  | _, _, _, _ => false

theorem roundK_sound {nt : Nat} : ∀ (ps : List Tmp) (as : List V) (tm : T V) (κ : T V → Bool), roundK nt ps as tm κ = true →
    ∃ tm', κ tm' = true ∧ ps.length = as.length ∧ ∀ e (ts : Array Value) (AS : List Value), TR e nt tm ts → VRs e as AS → TR e nt tm' ((ps.zip AS).foldl (fun tmps (p : Tmp × Value) => tmps.setIfInBounds p.1 p.2) ts)
  | [], [], tm, κ, h => ⟨tm, h, rfl, fun e ts AS ht _ => by simpa using ht⟩
  | [], _ :: _, _, _, h => by simp only [roundK] at h; cases h
  | _ :: _, [], _, _, h => by simp only [roundK] at h; cases h
  | t :: ps, v :: as, tm, κ, h => by
    simp only [roundK] at h
    obtain ⟨h1, h2⟩ := putT_eq h
    obtain ⟨tm', k1, k2, k3⟩ := roundK_sound ps as _ κ h1
    refine ⟨tm', k1, by simp [k2], fun e ts AS ht ha => ?_⟩
    cases AS with
    | nil => simp only [VRs] at ha
    | cons z AS =>
      simp only [VRs] at ha
      simp only [List.zip_cons_cons, List.foldl_cons]
      exact k3 e _ AS (TR.put (a := { tmps := ts, defers := [] }) ht h2 ha.1) ha.2

noncomputable def stepC (ng : Nat) (tab : Tab P) (F : Nat) (C : CallT) : CallT := fun ent u σ κ =>
  match ent with
  | .fn f args dfd =>
    match tab.fn f with
    | some fn =>
      match fn.body with
      | some c =>
        bif Nat.ble (llen args) fn.ntmps && Nat.ble fn.ntmps 512 then
          argsK args 0 .nil fun tm =>
            match dfd with
            | false => runF C ng tab { fn := f, nt := fn.ntmps, dfd := false, rd := none } (fun out tm ds _ σ =>
                match out with
                | .fin => endK C ng tab fn tm ds u .returning σ κ
                | .pan ch => endK C ng tab fn tm ds u (.pan ch) σ κ
                | .left _ => false) F [.code c] tm [] .none σ
            | true => runF C ng tab { fn := f, nt := fn.ntmps, dfd := true, rd := none } (fun out tm ds u σ =>
                match out, ds with
                | .fin, [] => resK tab tm σ fn.results.toList fun vs => κ (.ret (outV vs)) u σ
                | .pan ch, [] => κ (.pan ch) u σ
                | _, _ => false) F [.code c] tm [] u σ
        else false
      | none => false
    | none => false
  | .rd l args =>
    match σ.at l with
    | .loop _ _ fn tm nt ps as bd _ =>
      match tab.fn fn with
      | some _ => roundK nt ps args tm fun tm' =>
        runF C ng tab { fn := fn, nt := nt, dfd := false, rd := some l } (fun out _ ds _ σ1 =>
          match out, ds with
          | .left jump, [] => endRdK ng σ1 l jump fun σ2 => κ (.ret (.bool jump.isNone)) u σ2
          | .pan ch, [] => κ (.pan ch) u σ1
          | _, _ => false) F [.code as, .beginRound, .code bd] tm' [] .none σ
      | none => false
    | _ => false

theorem stepC_ok {tab : Tab P} (hmix : P.follows .mixedOrders = true) {F : Nat} {C : CallT} (hC : CallOk P ng C) : CallOk P ng (stepC ng tab F C) := by
  intro ent u σ κ hwf h
  unfold stepC at h
  split at h
  · rename_i f args dfd
    split at h
    · rename_i fn hfn
      obtain ⟨hf, _, _⟩ := tab.fnOk f fn hfn
      split at h
      · rename_i c hb
        rw [cond_eq_ite] at h
        split at h
        · rename_i hc0
          have hc := Bool.and_eq_true_iff.1 hc0
          have h1 : args.length ≤ fn.ntmps := by have := Nat.le_of_ble_eq_true hc.1; rwa [llen_eq] at this
          have h2 : fn.ntmps ≤ 2 ^ dt := Nat.le_of_ble_eq_true hc.2
          rw [argsK_eq] at h
          cases dfd with
          | false =>
            simp only at h
            obtain ⟨out, tm1, ds1, u1, σ1, k1, k2, k3, k4⟩ := runF_sound hC hmix F _ _ _ _ _ hwf h
            cases out with
            | left j => cases k1
            | fin =>
              obtain ⟨out, σ2, g1, g2, g3, g4⟩ := endK_sound (ng := ng) (m := .returning) hC k2 trivial k1
              refine ⟨out, u, σ2, g1, g2, k3.trans g3, fun base e w ARGS hroom hnb hr hg ha cs => ?_⟩
              obtain ⟨b, a, y1, y2, y3, y4⟩ := enter_SR (cs := cs) (u := .none) (dfd := false) hf hb h1 h2 hroom hr hg ha (by intro hd; cases hd)
              have y1' : Frame.enter P f ARGS .normal = b.atR a [.code c] := y1
              obtain ⟨e1, a1, cs1, w1, td, z1, z2, z3, z4⟩ := k4 base e b a cs w hnb y4
              have hcs : cs1 = cs := z4.1 rfl
              subst hcs
              obtain ⟨e2, w2, fr', E, x1, x2, x3, x4, x5, x6⟩ := g4 base e1 w1 { b.atR a1 td with mode := .returning } cs1 a1.defers fn.ntmps z2.room hnb z2.rel z2.glob z2.ds rfl rfl y3 (by show P.funcs[b.fn]? = _; rw [y2]; exact hf) z2.tm
              exact ⟨e2, w2, fr', E, by rw [y1']; exact Steps.trans z1 x1, x2.trans y2, x3, x4, x5, z3.trans x6⟩
            | pan ch =>
              obtain ⟨out, σ2, g1, g2, g3, g4⟩ := endK_sound (ng := ng) (m := .pan ch) hC k2 trivial k1
              refine ⟨out, u, σ2, g1, g2, k3.trans g3, fun base e w ARGS hroom hnb hr hg ha cs => ?_⟩
              obtain ⟨b, a, y1, y2, y3, y4⟩ := enter_SR (cs := cs) (u := .none) (dfd := false) hf hb h1 h2 hroom hr hg ha (by intro hd; cases hd)
              have y1' : Frame.enter P f ARGS .normal = b.atR a [.code c] := y1
              obtain ⟨e1, a1, cs1, w1, td, CH, z1, z0, z2, z3, z4⟩ := k4 base e b a cs w hnb y4
              have hcs : cs1 = cs := z4.1 rfl
              subst hcs
              obtain ⟨e2, w2, fr', E, x1, x2, x3, x4, x5, x6⟩ := g4 base e1 w1 { b.atR a1 td with mode := .panicking CH } cs1 a1.defers fn.ntmps z2.room hnb z2.rel z2.glob z2.ds rfl ⟨CH, rfl, z0⟩ y3 (by show P.funcs[b.fn]? = _; rw [y2]; exact hf) z2.tm
              exact ⟨e2, w2, fr', E, by rw [y1']; exact Steps.trans z1 x1, x2.trans y2, x3, x4, x5, z3.trans x6⟩
          | true =>
            simp only at h
            obtain ⟨out, tm1, ds1, u1, σ1, k1, k2, k3, k4⟩ := runF_sound hC hmix F _ _ _ _ _ hwf h
            simp only at k1
            split at k1
            · obtain ⟨vs, r1, r2⟩ := results_run (P := P) (ng := ng) k1
              refine ⟨_, u1, σ1, r1, k2, k3, fun base e w ARGS hroom hnb hr hg ha c0 cs hu => ?_⟩
              obtain ⟨b, a, y1, y2, y3, y4⟩ := enter_SR (cs := c0 :: cs) (u := u) (dfd := true) hf hb h1 h2 hroom hr hg ha (fun _ => ⟨c0, cs, rfl, hu⟩)
              have y1' : Frame.enter P f ARGS .deferred = b.atR a [.code c] := y1
              obtain ⟨e1, a1, cs1, w1, td, z1, z2, z3, z4⟩ := k4 base e b a (c0 :: cs) w hnb y4
              obtain ⟨c2, r, mo, q1, q2, q3⟩ := z4.2 rfl
              simp only [List.cons.injEq] at q1
              obtain ⟨rfl, rfl⟩ := q1
              subst q2
              obtain ⟨z, x1, x2⟩ := r2 base e1 w1 fn.ntmps a1.tmps z2.rel z2.tm
              have hdl : a1.defers = [] := by
                have := z2.ds
                cases hd : a1.defers with
                | nil => rfl
                | cons _ _ => rw [hd] at this; exact this.elim
              exact ⟨e1, w1, { b.atR a1 td with mode := .returning }, .returned z, mo, by rw [y1']; exact z1, y3, ⟨rfl, hdl, fn, by show P.funcs[b.fn]? = _; rw [y2]; exact hf, x2⟩, x1, q3, z2.rel, z3⟩
            · refine ⟨_, u1, σ1, k1, k2, k3, fun base e w ARGS hroom hnb hr hg ha c0 cs hu => ?_⟩
              obtain ⟨b, a, y1, y2, y3, y4⟩ := enter_SR (cs := c0 :: cs) (u := u) (dfd := true) hf hb h1 h2 hroom hr hg ha (fun _ => ⟨c0, cs, rfl, hu⟩)
              have y1' : Frame.enter P f ARGS .deferred = b.atR a [.code c] := y1
              obtain ⟨e1, a1, cs1, w1, td, CH, z1, z0, z2, z3, z4⟩ := k4 base e b a (c0 :: cs) w hnb y4
              obtain ⟨c2, r, mo, q1, q2, q3⟩ := z4.2 rfl
              simp only [List.cons.injEq] at q1
              obtain ⟨rfl, rfl⟩ := q1
              subst q2
              have hdl : a1.defers = [] := by
                have := z2.ds
                cases hd : a1.defers with
                | nil => rfl
                | cons _ _ => rw [hd] at this; exact this.elim
              exact ⟨e1, w1, { b.atR a1 td with mode := .panicking CH }, .panicked CH, mo, by rw [y1']; exact z1, y3, ⟨rfl, hdl, fn, by show P.funcs[b.fn]? = _; rw [y2]; exact hf⟩, z0, q3, z2.rel, z3⟩
            · cases k1
        · cases h
      · cases h
    · cases h
  · -- a round
    rename_i l args
    split at h
    · rename_i st pd fn tm nt ps as bd d hat
      split at h
      · rename_i func hfn
        obtain ⟨hf, _, _⟩ := tab.fnOk fn func hfn
        obtain ⟨tm', p1, p2, p3⟩ := roundK_sound _ _ _ _ h
        obtain ⟨out, tm1, ds1, u1, σ1, k1, k2, k3, k4⟩ := runF_sound hC hmix F _ _ _ _ _ hwf p1
        -- how the round begins
        have start : ∀ base e w (ARGS : Array Value), base ≤ w.heap.size → ng ≤ base → Rel ng base e σ w → GE ng e → e.M l → VRs e args ARGS.toList → ∃ tmps,
            (Instr.yield (e.blk l) ARGS).run P w = .ok (.round (e.blk l) fn tmps as bd) w ∧ ∀ cs, ∃ (b : Frame) (a : Act), Frame.round (e.blk l) fn tmps as bd .normal = b.atR a [.code as, .beginRound, .code bd] ∧ b.fn = fn ∧ b.kind = .normal ∧ b.roundOf = some (e.blk l) ∧
              SR ng base { fn := fn, nt := nt, dfd := false, rd := some l } e tm' [] .none σ b a cs w := by
          intro base e w ARGS hroom hnb hr hg hm ha
          obtain ⟨o, g1, ⟨g2, ts, g3, g4, g5⟩, _⟩ := ob_sound hr hm hat rfl
          subst g3
          have hlen : ARGS.size = ps.length := by rw [p2, ha.length]; simp
          refine ⟨_, run_yield g1 (by simp [hlen]), fun cs => ?_⟩
          refine ⟨{ (default : Frame) with fn := fn, kind := .normal, roundOf := some (e.blk l) }, { tmps := (ps.toArray.zip ARGS).foldl (fun tmps (x : Tmp × Value) => tmps.setIfInBounds x.1 x.2) ts, defers := [] }, rfl, rfl, rfl, rfl, ⟨hroom, hr, hg, ⟨rfl, rfl, hm, rfl⟩, ?_, trivial, fun hd => by cases hd⟩⟩
          have := p3 e ts ARGS.toList ⟨g4, g5⟩ ha
          have hz : (ps.toArray.zip ARGS).foldl (fun tmps (x : Tmp × Value) => tmps.setIfInBounds x.1 x.2) ts = (ps.zip ARGS.toList).foldl (fun tmps (p : Tmp × Value) => tmps.setIfInBounds p.1 p.2) ts := by
            rw [← Array.foldl_toList, Array.toList_zip]
          show TR e nt tm' _
          rw [hz]
          exact this
        cases out with
        | fin => cases k1
        | left jump =>
          have k1' : ds1 = [] ∧ (endRdK ng σ1 l jump fun σ2 => κ (.ret (.bool jump.isNone)) u σ2) = true := by
            cases ds1 with
            | nil => exact ⟨rfl, k1⟩
            | cons _ _ => cases k1
          obtain ⟨rfl, k1'⟩ := k1'
          obtain ⟨σ2, q1, q2, q3, q4⟩ := endRdK_goes (P := P) k2 k1'
          refine ⟨_, u, σ2, q1, q2, k3.trans q3, fun base e w ARGS hroom hnb hr hg hm ha => ?_⟩
          obtain ⟨tmps, y1, y2⟩ := start base e w ARGS hroom hnb hr hg hm ha
          refine ⟨fn, tmps, as, bd, y1, fun c cs => ?_⟩
          obtain ⟨b, a, z1, z2, z3, z4, z5⟩ := y2 (c :: cs)
          obtain ⟨todo, t1, e1, a1, cs1, w1, t2, t3, t4, t5⟩ := k4 base e b a (c :: cs) w hnb z5
          have hcs : cs1 = c :: cs := t5.1 rfl
          subst hcs
          obtain ⟨m1, m2, _⟩ := t4.le.mono l hm
          obtain ⟨w2, x1, x2, x3⟩ := q4 base e1 w1 t3.rel m1
          refine ⟨e1, w2, ⟨.bool jump.isNone, ?_, by simp only [VR]⟩, x2, t4.trans x3⟩
          rw [z1]
          refine Steps.trans t2 (.one ?_)
          have hro : b.roundOf = some (e1.blk l) := by rw [z4, m2]
          cases jump with
          | none =>
            have t1' : todo = [] := t1
            subst t1'
            exact stepR_round_end hro z3 x1
          | some j =>
            cases j <;> first | (exact t1.elim; done) | skip
            · obtain ⟨k0, t6, t7⟩ := t1
              subst t6
              exact stepR_round_exit hro z3 t7 x1
            · obtain ⟨k0, t6⟩ := t1
              subst t6
              exact stepR_round_ret hro z3 x1
        | pan ch =>
          have k1' : ds1 = [] ∧ κ (.pan ch) u σ1 = true := by
            cases ds1 with
            | nil => exact ⟨rfl, k1⟩
            | cons _ _ => cases k1
          obtain ⟨rfl, k1'⟩ := k1'
          refine ⟨_, u, σ1, k1', k2, k3, fun base e w ARGS hroom hnb hr hg hm ha => ?_⟩
          obtain ⟨tmps, y1, y2⟩ := start base e w ARGS hroom hnb hr hg hm ha
          refine ⟨fn, tmps, as, bd, y1, fun c cs => ?_⟩
          obtain ⟨b, a, z1, z2, z3, z4, z5⟩ := y2 (c :: cs)
          obtain ⟨e1, a1, cs1, w1, td, CH, t1, t2, t3, t4, t5⟩ := k4 base e b a (c :: cs) w hnb z5
          have hcs : cs1 = c :: cs := t5.1 rfl
          subst hcs
          refine ⟨e1, w1, ⟨CH, ?_, t2⟩, t3.rel, t4⟩
          rw [z1]
          have hdl : a1.defers = [] := by
            have := t3.ds
            cases hd : a1.defers with
            | nil => rfl
            | cons _ _ => rw [hd] at this; exact this.elim
          refine Steps.trans t1 (.one (step_leave_panicked ⟨rfl, hdl, func, ?_⟩))
          show P.funcs[b.fn]? = _
          rw [z2]; exact hf
      · cases h
    · cases h

noncomputable def callF (ng : Nat) (tab : Tab P) (F : Nat) (n : Nat) : CallT := Nat.rec (motive := fun _ => CallT) (fun _ _ _ _ => false) (fun _ C => stepC ng tab F C) n
theorem callF_ok {tab : Tab P} (hmix : P.follows .mixedOrders = true) {F : Nat} : ∀ n, CallOk P ng (callF ng tab F n)
  | 0 => fun _ _ _ _ _ h => by cases h
  | n + 1 => stepC_ok hmix (callF_ok hmix n)
end
end Go.Proofs.YtdolijagffcfgaaGreatDoor.Ev

/-
  Values and blocks with other numbers, and their comparison.
-/
namespace Go.Proofs.YtdolijagffcfgaaGreatDoor.Ev

/-! ### equality that is checked -/
noncomputable def oneq : Option Nat → Option Nat → Bool
  | none, none => true
  | some a, some b => Nat.beq a b
  | _, _ => false
theorem oneq_eq {a b : Option Nat} (h : oneq a b = true) : a = b := by
  cases a <;> cases b <;> simp only [oneq, Bool.false_eq_true] at h
  · rfl
  · rw [Nat.eq_of_beq_eq_true h]

mutual
noncomputable def veq : V → V → Bool
  | .int k a, .int k' b => decide (k = k') && ieq a b
  | .bool a, .bool b => a == b
  | .str s, .str t => nbeq s t
  | .ptr b o, .ptr b' o' => Nat.beq b b' && Nat.beq o o'
  | .nilp, .nilp | .nils, .nils | .emp, .emp | .nilm, .nilm | .nilf, .nilf | .nili, .nili => true
  | .slice b o es l c, .slice b' o' es' l' c' => Nat.beq b b' && (Nat.beq o o' && (Nat.beq es es' && (Nat.beq l l' && oneq c c')))
  | .mapv b, .mapv b' => Nat.beq b b'
  | .iface t v, .iface t' v' => Nat.beq t t' && veq v v'
  | .agg l, .agg m => veqs l m
  | .tup l, .tup m => veqs l m
  | _, _ => false
noncomputable def veqs : List V → List V → Bool
  | [], [] => true
  | v :: l, u :: m => veq v u && veqs l m
  | _, _ => false
end

mutual
theorem veq_eq : ∀ (a b : V), veq a b = true → a = b
  | .int k a, b, h => by
    cases b <;> simp only [veq, Bool.false_eq_true, Bool.and_eq_true, decide_eq_true_eq] at h
    obtain ⟨rfl, h⟩ := h
    rw [ieq_eq, beq_iff_eq] at h
    rw [h]
  | .bool a, b, h => by
    cases b <;> simp only [veq, Bool.false_eq_true, beq_iff_eq] at h
    rw [h]
  | .str s, b, h => by
    cases b <;> simp only [veq, Bool.false_eq_true] at h
    rw [nbeq_eq] at h
    rw [of_decide_eq_true h]
  | .ptr b o, u, h => by
    cases u <;> simp only [veq, Bool.false_eq_true, Bool.and_eq_true] at h
    rw [Nat.eq_of_beq_eq_true h.1, Nat.eq_of_beq_eq_true h.2]
  | .nilp, b, h => by cases b <;> first | rfl | (simp only [veq, Bool.false_eq_true] at h)
  | .nils, b, h => by cases b <;> first | rfl | (simp only [veq, Bool.false_eq_true] at h)
  | .emp, b, h => by cases b <;> first | rfl | (simp only [veq, Bool.false_eq_true] at h)
  | .nilm, b, h => by cases b <;> first | rfl | (simp only [veq, Bool.false_eq_true] at h)
  | .nilf, b, h => by cases b <;> first | rfl | (simp only [veq, Bool.false_eq_true] at h)
  | .nili, b, h => by cases b <;> first | rfl | (simp only [veq, Bool.false_eq_true] at h)
  | .slice b o es l c, u, h => by
    cases u <;> simp only [veq, Bool.false_eq_true, Bool.and_eq_true] at h
    obtain ⟨h1, h2, h3, h4, h5⟩ := h
    rw [Nat.eq_of_beq_eq_true h1, Nat.eq_of_beq_eq_true h2, Nat.eq_of_beq_eq_true h3, Nat.eq_of_beq_eq_true h4, oneq_eq h5]
  | .mapv b, u, h => by
    cases u <;> simp only [veq, Bool.false_eq_true] at h
    rw [Nat.eq_of_beq_eq_true h]
  | .iface t v, u, h => by
    cases u <;> simp only [veq, Bool.false_eq_true, Bool.and_eq_true] at h
    rw [Nat.eq_of_beq_eq_true h.1, veq_eq v _ h.2]
  | .agg l, u, h => by
    cases u <;> simp only [veq, Bool.false_eq_true] at h
    rw [veqs_eq l _ h]
  | .tup l, u, h => by
    cases u <;> simp only [veq, Bool.false_eq_true] at h
    rw [veqs_eq l _ h]
  | .func .., b, h => by cases b <;> simp only [veq, Bool.false_eq_true] at h
  | .yieldf _, b, h => by cases b <;> simp only [veq, Bool.false_eq_true] at h
  | .junk, b, h => by cases b <;> simp only [veq, Bool.false_eq_true] at h
theorem veqs_eq : ∀ (a b : List V), veqs a b = true → a = b
  | [], b, h => by cases b <;> first | rfl | (simp only [veqs, Bool.false_eq_true] at h)
  | v :: l, b, h => by
    cases b <;> simp only [veqs, Bool.false_eq_true, Bool.and_eq_true] at h
    rw [veq_eq v _ h.1, veqs_eq l _ h.2]
end

noncomputable def eseq : List (V × V × Nat) → List (V × V × Nat) → Bool
  | [], [] => true
  | (k, v, n) :: l, (k', v', n') :: m => veq k k' && (veq v v' && (Nat.beq n n' && eseq l m))
  | _, _ => false
theorem eseq_eq : ∀ (a b : List (V × V × Nat)), eseq a b = true → a = b
  | [], [], _ => rfl
  | [], _ :: _, h => by simp only [eseq, Bool.false_eq_true] at h
  | _ :: _, [], h => by simp only [eseq, Bool.false_eq_true] at h
  | (k, v, n) :: l, (k', v', n') :: m, h => by
    simp only [eseq, Bool.and_eq_true] at h
    obtain ⟨h1, h2, h3, h4⟩ := h
    rw [veq_eq _ _ h1, veq_eq _ _ h2, Nat.eq_of_beq_eq_true h3, eseq_eq l m h4]

noncomputable def obeq : Ob → Ob → Bool
  | .cells t vs sp fz, .cells t' vs' sp' fz' => Nat.beq t t' && (sp == sp' && (fz == fz' && veqs vs vs'))
  | .map es c, .map es' c' => Nat.beq c c' && eseq es es'
  | _, _ => false
theorem obeq_eq {a b : Ob} (h : obeq a b = true) : a = b := by
  cases a <;> cases b <;> simp only [obeq, Bool.false_eq_true, Bool.and_eq_true, beq_iff_eq] at h
  · obtain ⟨h1, h2, h3, h4⟩ := h
    rw [Nat.eq_of_beq_eq_true h1, h2, h3, veqs_eq _ _ h4]
  · rw [Nat.eq_of_beq_eq_true h.1, eseq_eq _ _ h.2]

/-! ### other numbers -/
mutual
def V.ren (ρ : Nat → Option Nat) : V → V
  | .ptr b o => match ρ b with | some b' => .ptr b' o | none => .junk
  | .slice b o es l c => match ρ b with | some b' => .slice b' o es l c | none => .junk
  | .mapv b => match ρ b with | some b' => .mapv b' | none => .junk
  | .yieldf _ => .junk
  | .func .. => .junk
  | .iface t v => .iface t (v.ren ρ)
  | .agg l => .agg (V.rens ρ l)
  | .tup l => .tup (V.rens ρ l)
  | v => v
def V.rens (ρ : Nat → Option Nat) : List V → List V
  | [] => []
  | v :: l => v.ren ρ :: V.rens ρ l
end

mutual
def V.renK (ρ : Nat → Option Nat) : V → (V → Bool) → Bool
  | .ptr b o, κ => match ρ b with | some b' => κ (.ptr b' o) | none => κ .junk
  | .slice b o es l c, κ => match ρ b with | some b' => κ (.slice b' o es l c) | none => κ .junk
  | .mapv b, κ => match ρ b with | some b' => κ (.mapv b') | none => κ .junk
  | .yieldf _, κ => κ .junk
  | .func .., κ => κ .junk
  | .iface t v, κ => v.renK ρ fun v' => κ (.iface t v')
  | .agg l, κ => V.rensK ρ l fun l' => κ (.agg l')
  | .tup l, κ => V.rensK ρ l fun l' => κ (.tup l')
  | v, κ => κ v
def V.rensK (ρ : Nat → Option Nat) : List V → (List V → Bool) → Bool
  | [], κ => κ []
  | v :: l, κ => v.renK ρ fun v' => V.rensK ρ l fun l' => κ (v' :: l')
end

mutual
theorem V.renK_eq (ρ : Nat → Option Nat) : ∀ (v : V) (κ : V → Bool), v.renK ρ κ = κ (v.ren ρ)
  | .ptr b o, κ => by simp only [V.renK, V.ren]; split <;> rfl
  | .slice b o es l c, κ => by simp only [V.renK, V.ren]; split <;> rfl
  | .mapv b, κ => by simp only [V.renK, V.ren]; split <;> rfl
  | .yieldf _, κ => by simp only [V.renK, V.ren]
  | .func .., κ => by simp only [V.renK, V.ren]
  | .iface t v, κ => by simp only [V.renK, V.ren, V.renK_eq ρ v]
  | .agg l, κ => by simp only [V.renK, V.ren, V.rensK_eq ρ l]
  | .tup l, κ => by simp only [V.renK, V.ren, V.rensK_eq ρ l]
  | .int .., κ | .bool _, κ | .str _, κ | .nilp, κ | .nils, κ | .emp, κ | .nilm, κ | .nilf, κ | .nili, κ | .junk, κ => by simp only [V.renK, V.ren]
theorem V.rensK_eq (ρ : Nat → Option Nat) : ∀ (l : List V) (κ : List V → Bool), V.rensK ρ l κ = κ (V.rens ρ l)
  | [], κ => by simp only [V.rensK, V.rens]
  | v :: l, κ => by simp only [V.rensK, V.rens, V.renK_eq ρ v, V.rensK_eq ρ l]
end

/-- the new numbers stand for what the old ones stood for -/
def RenOk (ρ : Nat → Option Nat) (e e' : Env) : Prop := ∀ i j, ρ i = some j → e.M i → e'.M j ∧ e'.blk j = e.blk i ∧ e'.size j = e.size i

mutual
theorem VR.ren {ρ : Nat → Option Nat} {e e' : Env} (h : RenOk ρ e e') : ∀ (v : V) (x : Value), VR e v x → VR e' (v.ren ρ) x
  | .ptr b o, x, r => by
    simp only [V.ren]
    split
    · rename_i b' hb
      simp only [VR] at r ⊢
      obtain ⟨h1, h2, h3⟩ := h b b' hb r.1
      exact ⟨h1, by rw [h2]; exact r.2⟩
    · simp only [VR]
  | .slice b o es len cap, x, r => by
    simp only [V.ren]
    split
    · rename_i b' hb
      simp only [VR] at r ⊢
      obtain ⟨r1, c, r2, r3, r4, r5, r6⟩ := r
      obtain ⟨h1, h2, h3⟩ := h b b' hb r1
      exact ⟨h1, c, by rw [h2]; exact r2, r3, by rw [h3]; exact r4, r5, by rw [h3]; exact r6⟩
    · simp only [VR]
  | .mapv b, x, r => by
    simp only [V.ren]
    split
    · rename_i b' hb
      simp only [VR] at r ⊢
      obtain ⟨h1, h2, h3⟩ := h b b' hb r.1
      exact ⟨h1, by rw [h2]; exact r.2⟩
    · simp only [VR]
  | .yieldf _, x, r => by simp only [V.ren, VR]
  | .func .., x, r => by simp only [V.ren, VR]
  | .iface t v, x, r => by
    simp only [V.ren, VR] at r ⊢
    obtain ⟨y, r1, r2⟩ := r
    exact ⟨y, r1, VR.ren h v y r2⟩
  | .agg l, x, r => by
    simp only [V.ren, VR] at r ⊢
    obtain ⟨a, r1, r2⟩ := r
    exact ⟨a, r1, VRs.ren h l _ r2⟩
  | .tup l, x, r => by
    simp only [V.ren, VR] at r ⊢
    obtain ⟨a, r1, r2⟩ := r
    exact ⟨a, r1, VRs.ren h l _ r2⟩
  | .int .., x, r | .bool _, x, r | .str _, x, r | .nilp, x, r | .nils, x, r | .emp, x, r | .nilm, x, r | .nilf, x, r | .nili, x, r | .junk, x, r => by simp only [V.ren]; first | (simp only [VR] at r ⊢; exact r) | simp only [VR]
theorem VRs.ren {ρ : Nat → Option Nat} {e e' : Env} (h : RenOk ρ e e') : ∀ (l : List V) (m : List Value), VRs e l m → VRs e' (V.rens ρ l) m
  | [], [], _ => by simp only [V.rens, VRs]
  | v :: l, x :: m, r => by
    simp only [V.rens, VRs] at r ⊢
    exact ⟨VR.ren h v x r.1, VRs.ren h l m r.2⟩
  | [], _ :: _, r => by simp only [VRs] at r
  | _ :: _, [], r => by simp only [VRs] at r
end

def esRen (ρ : Nat → Option Nat) : List (V × V × Nat) → List (V × V × Nat)
  | [] => []
  | (k, v, n) :: l => (k.ren ρ, v.ren ρ, n) :: esRen ρ l
theorem MRs.ren {ρ : Nat → Option Nat} {e e' : Env} (h : RenOk ρ e e') : ∀ {l : List (V × V × Nat)} {m : List MapEntry}, MRs e l m → MRs e' (esRen ρ l) m
  | [], [], _ => trivial
  | (_, _, _) :: _, _ :: _, r => ⟨⟨VR.ren h _ _ r.1.1, VR.ren h _ _ r.1.2.1, r.1.2.2⟩, MRs.ren h r.2⟩
  | [], _ :: _, r => r.elim
  | _ :: _, [], r => by simp only [MRs] at r

def Ob.ren (ρ : Nat → Option Nat) : Ob → Ob
  | .cells t vs sp fz => .cells t (V.rens ρ vs) sp fz
  | .map es c => .map (esRen ρ es) c
  | _ => .no

theorem OR.ren {ρ : Nat → Option Nat} {e e' : Env} (h : RenOk ρ e e') {ob : Ob} {i j : Nat} {o : Obj} (hs : e'.size j = e.size i) (r : OR e ob i o) : OR e' (ob.ren ρ) j o := by
  cases ob <;> first | trivial | skip
  · obtain ⟨c, fr, pre, post, r1, r2, r3, r4, r5⟩ := r
    exact ⟨c, fr, pre, post, r1, r2, VRs.ren h _ _ r3, by rw [hs]; exact r4, r5⟩
  · obtain ⟨xs, r1, r2⟩ := r
    exact ⟨xs, r1, r2.ren h⟩

noncomputable def esRenK (ρ : Nat → Option Nat) : List (V × V × Nat) → (List (V × V × Nat) → Bool) → Bool
  | [], κ => κ []
  | (k, v, n) :: l, κ => k.renK ρ fun k' => v.renK ρ fun v' => esRenK ρ l fun l' => κ ((k', v', n) :: l')
theorem esRenK_eq (ρ : Nat → Option Nat) : ∀ (l : List (V × V × Nat)) (κ : List (V × V × Nat) → Bool), esRenK ρ l κ = κ (esRen ρ l)
  | [], κ => rfl
  | (k, v, n) :: l, κ => by simp only [esRenK, esRen, V.renK_eq, esRenK_eq ρ l]
noncomputable def Ob.renK (ρ : Nat → Option Nat) (ob : Ob) (κ : Ob → Bool) : Bool :=
  match ob with
  | .cells t vs sp fz => V.rensK ρ vs fun vs' => κ (.cells t vs' sp fz)
  | .map es c => esRenK ρ es fun es' => κ (.map es' c)
  | _ => κ .no
theorem Ob.renK_eq (ρ : Nat → Option Nat) (ob : Ob) (κ : Ob → Bool) : ob.renK ρ κ = κ (ob.ren ρ) := by
  cases ob <;> simp only [Ob.renK, Ob.ren, V.rensK_eq, esRenK_eq]
end Go.Proofs.YtdolijagffcfgaaGreatDoor.Ev

/-
  The evaluator's calls with results that are known: a call that was evaluated once, from a memory that holds some blocks alone.
-/
namespace Go.Proofs.YtdolijagffcfgaaGreatDoor.Ev

/-- a call that was evaluated: from a memory of the blocks 'pre', numbers from 'lo' on being free; the result, and the new blocks that are kept -/
structure Memo where
  f : FuncId
  args : List V
  lo : Nat
  pre : List (Nat × Ob)
  keep : List (Nat × Ob)
  out : V

noncomputable def preOk (σ : St) : List (Nat × Ob) → Bool
  | [] => true
  | (b, ob) :: l => obeq (σ.at b) ob && preOk σ l
theorem preOk_spec {σ : St} : ∀ {l : List (Nat × Ob)}, preOk σ l = true → ∀ b ob, (b, ob) ∈ l → σ.at b = ob
  | [], _, _, _, h => by cases h
  | (b', ob') :: l, h, b, ob, hm => by
    simp only [preOk, Bool.and_eq_true] at h
    rcases List.mem_cons.1 hm with he | hm
    · simp only [Prod.mk.injEq] at he
      obtain ⟨rfl, rfl⟩ := he
      exact obeq_eq h.1
    · exact preOk_spec h.2 b ob hm

noncomputable def assoc : List (Nat × Nat) → Nat → Option Nat
  | [], _ => none
  | (a, b) :: l, x => bif Nat.beq a x then some b else assoc l x

noncomputable def renOf (lo : Nat) (tbl : List (Nat × Nat)) (i : Nat) : Option Nat := bif Nat.blt i lo then some i else assoc tbl i

noncomputable def tblK : List (Nat × Ob) → Nat → (List (Nat × Nat) → Bool) → Bool
  | [], _, κ => κ []
  | (r, _) :: l, n, κ => tblK l (Nat.succ n) fun t => κ ((r, n) :: t)
noncomputable def tblP : List (Nat × Ob) → Nat → List (Nat × Nat)
  | [], _ => []
  | (r, _) :: l, n => (r, n) :: tblP l (n + 1)
theorem tblK_eq : ∀ (l : List (Nat × Ob)) (n : Nat) (κ : List (Nat × Nat) → Bool), tblK l n κ = κ (tblP l n)
  | [], _, _ => rfl
  | (r, _) :: l, n, κ => by simp only [tblK, tblP, tblK_eq l]

theorem assoc_tbl : ∀ (l : List (Nat × Ob)) (n i j : Nat), assoc (tblP l n) i = some j → ∃ k ob, l[k]? = some (i, ob) ∧ j = n + k
  | [], _, _, _, h => by cases h
  | (r, ob) :: l, n, i, j, h => by
    simp only [tblP, assoc, cond_eq_ite] at h
    split at h
    · rename_i hb
      have := Nat.eq_of_beq_eq_true hb
      subst this
      simp only [Option.some.injEq] at h
      exact ⟨0, ob, by simp, by omega⟩
    · obtain ⟨k, ob', h1, h2⟩ := assoc_tbl l (n + 1) i j h
      exact ⟨k + 1, ob', by simpa using h1, by omega⟩

noncomputable def keepK (ρ : Nat → Option Nat) : List (Nat × Ob) → St → (St → Bool) → Bool
  | [], σ, κ => κ σ
  | (_, ob) :: l, σ, κ => ob.renK ρ fun ob' => σ.newK ob' fun _ σ' => keepK ρ l σ' κ

theorem keepK_goes (ρ : Nat → Option Nat) : ∀ (l : List (Nat × Ob)) (σ : St) (κ : St → Bool), AWf σ → keepK ρ l σ κ = true →
    ∃ σ', κ σ' = true ∧ AWf σ' ∧ AExt σ σ' ∧ σ'.next = σ.next + l.length ∧ (∀ i, i < σ.next → σ'.at i = σ.at i) ∧ ∀ k r ob, l[k]? = some (r, ob) → σ'.at (σ.next + k) = ob.ren ρ
  | [], σ, κ, hwf, h => ⟨σ, h, hwf, .refl σ, rfl, fun _ _ => rfl, by simp⟩
  | (r, ob) :: l, σ, κ, hwf, h => by
    simp only [keepK, Ob.renK_eq] at h
    obtain ⟨hlt, hk⟩ := newK_eq h
    obtain ⟨h1, h2⟩ := AExt.more hwf hlt (ob.ren ρ)
    obtain ⟨σ', k1, k2, k3, k4, k5, k6⟩ := keepK_goes ρ l (σ.more (ob.ren ρ)) κ h1 hk
    have hn : (σ.more (ob.ren ρ)).next = σ.next + 1 := rfl
    rw [hn] at k4 k5 k6
    refine ⟨σ', k1, k2, h2.trans k3, by rw [k4, List.length_cons]; omega, fun i hi => ?_, fun k r' ob' hk' => ?_⟩
    · rw [k5 i (by omega)]
      show (σ.put σ.next (ob.ren ρ)).at i = _
      rw [St.at_put _ _ _ _ hlt (by omega), if_neg (by omega)]
    · cases k with
      | zero =>
        simp at hk'
        obtain ⟨rfl, rfl⟩ := hk'
        rw [Nat.add_zero, k5 _ (by omega)]
        show (σ.put σ.next (ob.ren ρ)).at σ.next = _
        rw [St.at_put _ _ _ _ hlt hlt, if_pos rfl]
      | succ k =>
        have := k6 k r' ob' (by simpa using hk')
        rw [← this]
        congr 1
        omega

section
variable {P : Program} {ng : Nat}

/-- what is known of such a call -/
structure MemoOk (P : Program) (ng : Nat) (m : Memo) : Prop where
  ngLo : ng ≤ m.lo
  dhLo : m.lo ≤ 2 ^ dh
  keepNo : ∀ r ob, (r, ob) ∈ m.keep → ob.isNo = false
  argsBd : V.bds m.lo m.args = true
  preBd : ∀ b ob, (b, ob) ∈ m.pre → b < m.lo ∧ obBd m.lo ob = true
  nodup : ∀ (k l : Nat) (r : Nat) (a b : Ob), m.keep[k]? = some (r, a) → m.keep[l]? = some (r, b) → k = l
  does : ∃ σ0 σ' u u', σ0.next = m.lo ∧ AWf σ0 ∧ (∀ i, i < m.lo → (σ0.at i).isNo = false → (i, σ0.at i) ∈ m.pre) ∧ (∀ b ob, (b, ob) ∈ m.pre → σ'.at b = ob) ∧
    (∀ r ob, (r, ob) ∈ m.keep → m.lo ≤ r ∧ σ'.at r = ob) ∧ EntDoes P ng (.fn m.f m.args false) u σ0 (.ret m.out) u' σ'

noncomputable def memoOf (ms : List Memo) (f : FuncId) (args : List V) (σ : St) : Option Memo :=
  match ms with
  | [] => none
  | m :: l => bif Nat.beq m.f f && (veqs m.args args && (Nat.ble m.lo σ.next && preOk σ m.pre)) then some m else memoOf l f args σ

theorem memoOf_spec {f : FuncId} {args : List V} {σ : St} {m : Memo} : ∀ {ms : List Memo}, memoOf ms f args σ = some m → m ∈ ms ∧ m.f = f ∧ m.args = args ∧ m.lo ≤ σ.next ∧ ∀ b ob, (b, ob) ∈ m.pre → σ.at b = ob
  | [], h => by cases h
  | m' :: l, h => by
    simp only [memoOf, cond_eq_ite] at h
    split at h
    · rename_i hc
      simp only [Bool.and_eq_true] at hc
      obtain ⟨h1, h2, h3, h4⟩ := hc
      simp only [Option.some.injEq] at h
      subst h
      exact ⟨by simp, Nat.eq_of_beq_eq_true h1, veqs_eq _ _ h2, Nat.le_of_ble_eq_true h3, fun b ob hm => preOk_spec h4 b ob hm⟩
    · obtain ⟨h1, h2⟩ := memoOf_spec h
      exact ⟨by simp [h1], h2⟩

/-- the calls of one function -/
noncomputable def groupOf : List (Nat × List Memo) → FuncId → List Memo
  | [], _ => []
  | (g, l) :: r, f => bif Nat.beq g f then l else groupOf r f
theorem groupOf_spec {f : FuncId} {m : Memo} : ∀ {ms : List (Nat × List Memo)}, m ∈ groupOf ms f → ∃ p ∈ ms, m ∈ p.2
  | [], h => by cases h
  | (g, l) :: r, h => by
    simp only [groupOf, cond_eq_ite] at h
    split at h
    · exact ⟨(g, l), by simp, h⟩
    · obtain ⟨p, h1, h2⟩ := groupOf_spec h
      exact ⟨p, by simp [h1], h2⟩

noncomputable def memoK (ms : List (Nat × List Memo)) (C : CallT) : CallT := fun ent u σ κ =>
  match ent with
  | .fn f args false =>
    match memoOf (groupOf ms f) f args σ with
    | some m => tblK m.keep σ.next fun tbl => keepK (renOf m.lo tbl) m.keep σ fun σ' => m.out.renK (renOf m.lo tbl) fun v => κ (.ret v) u σ'
    | none => C (.fn f args false) u σ κ
  | ent => C ent u σ κ

theorem memo_does {m : Memo} (hm : MemoOk P ng m) {σ σ' : St} (_hwf : AWf σ) (_hlo : m.lo ≤ σ.next) (hpre : ∀ b ob, (b, ob) ∈ m.pre → σ.at b = ob)
    (a1 : AWf σ') (a2 : AExt σ σ') (a3 : σ'.next = σ.next + m.keep.length) (a4 : ∀ i, i < σ.next → σ'.at i = σ.at i) (a5 : ∀ k r ob, m.keep[k]? = some (r, ob) → σ'.at (σ.next + k) = ob.ren (renOf m.lo (tblP m.keep σ.next))) (u u' : U) :
    EntDoes P ng (.fn m.f m.args false) u σ (.ret (m.out.ren (renOf m.lo (tblP m.keep σ.next)))) u' σ' := by
  obtain ⟨σ0, σ1, _, _, c1, c2, c3, c4, c5, c6⟩ := hm.does
  intro base e w ARGS hroom hnb hr hg ha cs
  -- the part of the memory that the call knew
  have hrel0 : Rel ng base (e.cut m.lo) σ0 w := by
    refine ⟨c2.next, fun i hi => by rw [c1]; exact hi.2, fun i hi => hr.there i hi.1, fun i hi hno => ?_, fun i j hi hj hni hnj he => ?_, fun i hi => hr.own i hi.1, c2.fresh⟩
    · have hp := c3 i hi.2 hno
      have hat := hpre _ _ hp
      obtain ⟨o, o1, o2⟩ := hr.obj i hi.1 (by rw [hat]; exact hno)
      rw [hat] at o2
      exact ⟨o, o1, OR.cut o2 (hm.preBd _ _ hp).2 (Nat.le_refl _)⟩
    · have h1 := hpre _ _ (c3 i hi.2 hni)
      have h2 := hpre _ _ (c3 j hj.2 hnj)
      exact hr.inj i j hi.1 hj.1 (by rw [h1]; exact hni) (by rw [h2]; exact hnj) he
  have hglob0 : GE ng (e.cut m.lo) := fun g hgn => ⟨⟨(hg g hgn).1, Nat.lt_of_lt_of_le hgn hm.ngLo⟩, (hg g hgn).2⟩
  obtain ⟨e1, w1, fr, E, d1, d2, d3, d4, d5, d6⟩ := c6 base (e.cut m.lo) w ARGS hroom hnb hrel0 hglob0 (VRs.cut _ _ hm.argsBd ha) cs
  have hsz := d6.size
  -- old numbers
  have hold : ∀ i, e1.M i → i < m.lo → e.M i ∧ e1.blk i = e.blk i ∧ e1.size i = e.size i := by
    intro i hi hlt
    have h0 : (e.cut m.lo).M i := by
      by_cases hc : (e.cut m.lo).M i
      · exact hc
      · have := d6.newer i hi hc
        rw [c1] at this
        omega
    obtain ⟨_, h2, h3⟩ := d6.le.mono i h0
    exact ⟨h0.1, h2, h3⟩
  -- new blocks lie behind
  have hbeh : ∀ (k r : Nat) (ob : Ob), m.keep[k]? = some (r, ob) → e1.M r → w.heap.size ≤ e1.blk r := by
    intro k r ob hk hM
    have hno := hm.keepNo r ob (List.mem_of_getElem? hk)
    obtain ⟨g1, g2⟩ := c5 r ob (List.mem_of_getElem? hk)
    rcases Nat.lt_or_ge (e1.blk r) w.heap.size with hlt | hge
    · exfalso
      obtain ⟨j, j1, j2, j3, j4⟩ := d6.orig r hM (by rw [g2]; exact hno) (Nat.le_trans hm.ngLo g1) hlt
      have hp := c3 j j1.2 j2
      have hj1 : σ1.at j = σ0.at j := c4 _ _ hp
      obtain ⟨q1, q2, _⟩ := d6.le.mono j j1
      have := d5.inj j r q1 hM (by rw [hj1]; exact j2) (by rw [g2]; exact hno) (by rw [q2, j4])
      have := j1.2
      omega
    · exact hge
  -- the new environment
  let n := σ.next
  let R : Nat → Option (Nat × Ob) := fun i => m.keep[i - n]?
  let e2 : Env := { M := fun i => e.M i ∨ (n ≤ i ∧ ∃ p, R i = some p ∧ e1.M p.1), blk := fun i => if i < n then e.blk i else match R i with | some p => e1.blk p.1 | none => 0, size := fun i => if i < n then e.size i else match R i with | some p => e1.size p.1 | none => 0 }
  have hlim : ∀ i, e.M i → i < n := fun i hi => hr.lim i hi
  have hle : e.le e2 := ⟨fun i hi => ⟨.inl hi, if_pos (hlim i hi), if_pos (hlim i hi)⟩⟩
  have hle1 : (e1.cut m.lo).le e2 := ⟨fun i hi => by
    obtain ⟨h1, h2, h3⟩ := hold i hi.1 hi.2
    obtain ⟨g1, g2, g3⟩ := hle.mono i h1
    exact ⟨g1, by rw [g2]; exact h2.symm, by rw [g3]; exact h3.symm⟩⟩
  have hnew : ∀ k r ob, m.keep[k]? = some (r, ob) → e1.M r → e2.M (n + k) ∧ e2.blk (n + k) = e1.blk r ∧ e2.size (n + k) = e1.size r := by
    intro k r ob hk hM
    have hR : R (n + k) = some (r, ob) := by show m.keep[n + k - n]? = _; rw [Nat.add_sub_cancel_left]; exact hk
    refine ⟨.inr ⟨Nat.le_add_right _ _, (r, ob), hR, hM⟩, ?_, ?_⟩
    · show (if n + k < n then _ else match R (n + k) with | some p => e1.blk p.1 | none => 0) = _
      rw [if_neg (by omega), hR]
    · show (if n + k < n then _ else match R (n + k) with | some p => e1.size p.1 | none => 0) = _
      rw [if_neg (by omega), hR]
  have hinv : ∀ i, e2.M i → (e.M i ∧ e2.blk i = e.blk i ∧ i < n) ∨ ∃ k r ob, m.keep[k]? = some (r, ob) ∧ i = n + k ∧ e1.M r ∧ e2.blk i = e1.blk r ∧ e2.size i = e1.size r := by
    intro i hi
    rcases hi with hi | ⟨hi, ⟨r, ob⟩, hp, hM⟩
    · exact .inl ⟨hi, (hle.mono i hi).2.1, hlim i hi⟩
    · have hk : m.keep[i - n]? = some (r, ob) := hp
      have he : i = n + (i - n) := by omega
      obtain ⟨_, h2, h3⟩ := hnew (i - n) r ob hk hM
      rw [← he] at h2 h3
      exact .inr ⟨i - n, r, ob, hk, he, hM, h2, h3⟩
  have hren : RenOk (renOf m.lo (tblP m.keep n)) e1 e2 := by
    intro i j hij hM
    unfold renOf at hij
    rw [cond_eq_ite] at hij
    split at hij
    · rename_i hlt
      simp only [Option.some.injEq] at hij
      subst hij
      obtain ⟨h1, h2, h3⟩ := hold i hM (blt_lt hlt)
      obtain ⟨g1, g2, g3⟩ := hle.mono i h1
      exact ⟨g1, g2.trans h2.symm, g3.trans h3.symm⟩
    · obtain ⟨k, ob, hk, rfl⟩ := assoc_tbl _ _ _ _ hij
      exact hnew k i ob hk hM
  have hlen : ∀ k r ob, m.keep[k]? = some (r, ob) → k < m.keep.length := fun k r ob hk => (List.getElem?_eq_some_iff.1 hk).1
  have hrel : Rel ng base e2 σ' w1 := by
    refine ⟨a1.next, fun i hi => ?_, fun i hi => ?_, fun i hi hno => ?_, fun i j hi hj hni hnj he => ?_, fun i hi hgi => ?_, a1.fresh⟩
    · rw [a3]
      rcases hinv i hi with ⟨_, _, h⟩ | ⟨k, r, ob, hk, rfl, _⟩
      · exact Nat.lt_of_lt_of_le h (Nat.le_add_right _ _)
      · have := hlen k r ob hk
        show σ.next + k < _
        omega
    · rcases hinv i hi with ⟨h, hb, _⟩ | ⟨k, r, ob, hk, rfl, hM, hb, _⟩
      · rw [hb]; exact Nat.lt_of_lt_of_le (hr.there i h) hsz
      · rw [hb]; exact d5.there r hM
    · rcases hinv i hi with ⟨h, hb, hlt⟩ | ⟨k, r, ob, hk, rfl, hM, hb, hs⟩
      · rw [a4 i hlt] at hno ⊢
        rw [hb]
        by_cases hc : ∃ j, (e.cut m.lo).M j ∧ (σ0.at j).isNo = false ∧ ng ≤ j ∧ (e.cut m.lo).blk j = e.blk i
        · obtain ⟨j, j1, j2, j3, j4⟩ := hc
          have hp := c3 j j1.2 j2
          have hat := hpre _ _ hp
          have hij := hr.inj i j h j1.1 hno (by rw [hat]; exact j2) j4.symm
          subst hij
          have h1at : σ1.at i = σ0.at i := c4 _ _ hp
          obtain ⟨q1, q2, _⟩ := d6.le.mono i j1
          obtain ⟨o, o1, o2⟩ := d5.obj i q1 (by rw [h1at]; exact j2)
          rw [q2] at o1
          refine ⟨o, o1, ?_⟩
          rw [h1at] at o2
          rw [hat]
          exact (OR.cut o2 (hm.preBd _ _ hp).2 (Nat.le_refl _)).mono hle1 ⟨q1, j1.2⟩
        · obtain ⟨o, o1, o2⟩ := hr.obj i h hno
          refine ⟨o, ?_, o2.mono hle h⟩
          rw [d6.kept _ (hr.there i h) fun j j1 j2 j3 j4 => hc ⟨j, j1, j2, j3, j4⟩]
          exact o1
      · have hat := a5 k r ob hk
        have hat' : σ'.at (n + k) = ob.ren (renOf m.lo (tblP m.keep σ.next)) := hat
        rw [hat', hb]
        obtain ⟨_, g2⟩ := c5 r ob (List.mem_of_getElem? hk)
        obtain ⟨o, o1, o2⟩ := d5.obj r hM (by rw [g2]; exact hm.keepNo r ob (List.mem_of_getElem? hk))
        rw [g2] at o2
        exact ⟨o, o1, OR.ren hren hs o2⟩
    · rcases hinv i hi with ⟨h, hb, hlt⟩ | ⟨k, r, ob, hk, rfl, hM, hb, hs⟩
      · rcases hinv j hj with ⟨h', hb', hlt'⟩ | ⟨k', r', ob', hk', rfl, hM', hb', _⟩
        · rw [a4 i hlt] at hni
          rw [a4 j hlt'] at hnj
          exact hr.inj i j h h' hni hnj (by rw [← hb, ← hb', he])
        · exfalso
          have h1 := hr.there i h
          have h2 := hbeh k' r' ob' hk' hM'
          rw [hb, hb'] at he
          omega
      · rcases hinv j hj with ⟨h', hb', hlt'⟩ | ⟨k', r', ob', hk', rfl, hM', hb', _⟩
        · exfalso
          have h1 := hr.there j h'
          have h2 := hbeh k r ob hk hM
          rw [hb, hb'] at he
          omega
        · obtain ⟨_, g2⟩ := c5 r ob (List.mem_of_getElem? hk)
          obtain ⟨_, g2'⟩ := c5 r' ob' (List.mem_of_getElem? hk')
          have hrr := d5.inj r r' hM hM' (by rw [g2]; exact hm.keepNo r ob (List.mem_of_getElem? hk)) (by rw [g2']; exact hm.keepNo r' ob' (List.mem_of_getElem? hk')) (by rw [← hb, ← hb', he])
          subst hrr
          have := hm.nodup k k' r ob ob' hk hk'
          omega
    · rcases hinv i hi with ⟨h, hb, hlt⟩ | ⟨k, r, ob, hk, rfl, hM, hb, hs⟩
      · rw [hb]; exact hr.own i h hgi
      · rw [hb]; exact Nat.le_trans hroom (hbeh k r ob hk hM)
  refine ⟨e2, w1, fr, E, d1, d2, d3, ?_, hrel, ⟨hle, a2.next, hsz, fun i h1 h2 => ?_, fun b hb hno => ?_, fun i h1 h2 h3 h4 => ?_, a2.logs, a2.looks, d6.os, d6.output, d6.tape⟩⟩
  · cases E with
    | returned z => exact VR.ren hren _ _ d4
    | panicked _ => exact d4.elim
    | outgrown => exact d4.elim
  · rcases hinv i h1 with ⟨h, _, _⟩ | ⟨k, r, ob, hk, rfl, _⟩
    · exact absurd h h2
    · exact Nat.le_add_right _ _
  · exact d6.kept b hb fun j j1 j2 j3 => hno j j1.1 (by rw [hpre _ _ (c3 j j1.2 j2)]; exact j2) j3
  · rcases hinv i h1 with ⟨h, hb, hlt⟩ | ⟨k, r, ob, hk, rfl, hM, hb, _⟩
    · rw [a4 i hlt] at h2
      exact ⟨i, h, h2, h3, hb.symm⟩
    · exfalso
      have := hbeh k r ob hk hM
      rw [hb] at h4
      omega

theorem memoK_ok {ms : List (Nat × List Memo)} (hms : ∀ p ∈ ms, ∀ m ∈ p.2, MemoOk P ng m) {C : CallT} (hC : CallOk P ng C) : CallOk P ng (memoK ms C) := by
  intro ent u σ κ hwf h
  unfold memoK at h
  split at h
  · rename_i f args
    split at h
    · rename_i m hm
      obtain ⟨h1, rfl, rfl, h4, h5⟩ := memoOf_spec hm
      rw [tblK_eq] at h
      obtain ⟨σ', k1, k2, k3, k4, k5, k6⟩ := keepK_goes _ _ _ _ hwf h
      rw [V.renK_eq] at k1
      obtain ⟨p, hp1, hp2⟩ := groupOf_spec h1
      exact ⟨_, u, σ', k1, k2, k3, memo_does (hms p hp1 m hp2) hwf h4 h5 k2 k3 k4 k5 k6 u u⟩
    · exact hC _ _ _ _ hwf h
  · exact hC _ _ _ _ hwf h

noncomputable def callG (ng : Nat) (tab : Tab P) (F : Nat) (ms : List (Nat × List Memo)) (n : Nat) : CallT :=
  Nat.rec (motive := fun _ => CallT) (fun _ _ _ _ => false) (fun _ C => memoK ms (stepC ng tab F C)) n
theorem callG_ok {tab : Tab P} (hmix : P.follows .mixedOrders = true) {F : Nat} {ms : List (Nat × List Memo)} (hms : ∀ p ∈ ms, ∀ m ∈ p.2, MemoOk P ng m) : ∀ n, CallOk P ng (callG ng tab F ms n)
  | 0 => fun _ _ _ _ _ h => by cases h
  | n + 1 => memoK_ok hms (stepC_ok hmix (callG_ok hmix hms n))

def MlOk (P : Program) (ng : Nat) : List Memo → Prop
  | [] => True
  | m :: l => MemoOk P ng m ∧ MlOk P ng l
def MsOk (P : Program) (ng : Nat) : List (Nat × List Memo) → Prop
  | [] => True
  | p :: r => MlOk P ng p.2 ∧ MsOk P ng r
theorem MlOk.all : ∀ {l : List Memo}, MlOk P ng l → ∀ m ∈ l, MemoOk P ng m
  | [], _, _, h => by cases h
  | m' :: l, h, m, hm => by
    rcases List.mem_cons.1 hm with rfl | hm
    · exact h.1
    · exact MlOk.all h.2 m hm
theorem MsOk.all : ∀ {ms : List (Nat × List Memo)}, MsOk P ng ms → ∀ p ∈ ms, ∀ m ∈ p.2, MemoOk P ng m
  | [], _, _, h, _, _ => by cases h
  | p' :: r, h, p, hp, m, hm => by
    rcases List.mem_cons.1 hp with rfl | hp
    · exact h.1.all m hm
    · exact MsOk.all h.2 p hp m hm

/-! ### how such a call is evaluated -/
noncomputable def preK : List (Nat × Ob) → T Ob → (T Ob → Bool) → Bool
  | [], h, κ => κ h
  | (b, ob) :: l, h, κ => T.setK .no ob Go.Proofs.YtdolijagffcfgaaGreatDoor.Ev.dh b h fun h' => preK l h' κ
noncomputable def preP : List (Nat × Ob) → T Ob → T Ob
  | [], h => h
  | (b, ob) :: l, h => preP l (T.set .no ob Go.Proofs.YtdolijagffcfgaaGreatDoor.Ev.dh b h)
theorem preK_eq : ∀ (l : List (Nat × Ob)) (h : T Ob) (κ : T Ob → Bool), preK l h κ = κ (preP l h)
  | [], _, _ => rfl
  | (b, ob) :: l, h, κ => by simp only [preK, preP, T.setK_eq, preK_eq l]
theorem preP_get : ∀ (l : List (Nat × Ob)) (h : T Ob) (i : Nat), (∀ b ob, (b, ob) ∈ l → b < 2 ^ Go.Proofs.YtdolijagffcfgaaGreatDoor.Ev.dh) → i < 2 ^ Go.Proofs.YtdolijagffcfgaaGreatDoor.Ev.dh → (i, T.get .no Go.Proofs.YtdolijagffcfgaaGreatDoor.Ev.dh (preP l h) i) ∈ l ∨ T.get .no Go.Proofs.YtdolijagffcfgaaGreatDoor.Ev.dh (preP l h) i = T.get .no Go.Proofs.YtdolijagffcfgaaGreatDoor.Ev.dh h i
  | [], _, _, _, _ => .inr rfl
  | (b, ob) :: l, h, i, hb, hi => by
    simp only [preP]
    rcases preP_get l (T.set .no ob Go.Proofs.YtdolijagffcfgaaGreatDoor.Ev.dh b h) i (fun b' ob' hm => hb b' ob' (by simp [hm])) hi with h1 | h1
    · exact .inl (by simp [h1])
    · rw [h1, T.get_set _ _ _ _ _ _ (hb b ob (by simp)) hi]
      by_cases he : i = b
      · subst he
        exact .inl (by simp)
      · exact .inr (by simp [he])

noncomputable def keepOk (σ : St) (lo : Nat) : List (Nat × Ob) → Bool
  | [] => true
  | (r, ob) :: l => Nat.ble lo r && (obeq (σ.at r) ob && (!ob.isNo && keepOk σ lo l))
noncomputable def asc : Nat → List (Nat × Ob) → Bool
  | _, [] => true
  | n, (r, _) :: l => Nat.ble n r && asc (Nat.succ r) l
noncomputable def preBdB (lo : Nat) : List (Nat × Ob) → Bool
  | [] => true
  | (b, ob) :: l => Nat.blt b lo && (obBd lo ob && preBdB lo l)

theorem asc_ge : ∀ {l : List (Nat × Ob)} {n : Nat}, asc n l = true → ∀ (k r : Nat) (ob : Ob), l[k]? = some (r, ob) → n + k ≤ r
  | [], _, _, _, _, _, hk => by simp at hk
  | (r', _) :: l, n, h, k, r, ob, hk => by
    simp only [asc, Bool.and_eq_true] at h
    have h1 := Nat.le_of_ble_eq_true h.1
    cases k with
    | zero => simp at hk; omega
    | succ k => have := asc_ge h.2 k r ob (by simpa using hk); omega
theorem asc_inj : ∀ {l : List (Nat × Ob)} {n : Nat}, asc n l = true → ∀ (k k' r : Nat) (a b : Ob), l[k]? = some (r, a) → l[k']? = some (r, b) → k = k'
  | [], _, _, _, _, _, _, _, hk, _ => by simp at hk
  | (r', _) :: l, n, h, k, k', r, a, b, hk, hk' => by
    simp only [asc, Bool.and_eq_true] at h
    cases k with
    | zero =>
      cases k' with
      | zero => rfl
      | succ k' =>
        have := asc_ge h.2 k' r b (by simpa using hk')
        simp at hk
        omega
    | succ k =>
      cases k' with
      | zero =>
        have := asc_ge h.2 k r a (by simpa using hk)
        simp at hk'
        omega
      | succ k' =>
        have := asc_inj h.2 k k' r a b (by simpa using hk) (by simpa using hk')
        omega
theorem keepOk_spec {σ : St} {lo : Nat} : ∀ {l : List (Nat × Ob)}, keepOk σ lo l = true → ∀ r ob, (r, ob) ∈ l → lo ≤ r ∧ σ.at r = ob ∧ ob.isNo = false
  | [], _, _, _, h => by cases h
  | (r', ob') :: l, h, r, ob, hm => by
    simp only [keepOk, Bool.and_eq_true, Bool.not_eq_true'] at h
    rcases List.mem_cons.1 hm with he | hm
    · simp only [Prod.mk.injEq] at he
      obtain ⟨rfl, rfl⟩ := he
      exact ⟨Nat.le_of_ble_eq_true h.1, obeq_eq h.2.1, h.2.2.1⟩
    · exact keepOk_spec h.2.2.2 r ob hm
theorem preBdB_spec {lo : Nat} : ∀ {l : List (Nat × Ob)}, preBdB lo l = true → ∀ b ob, (b, ob) ∈ l → b < lo ∧ obBd lo ob = true
  | [], _, _, _, h => by cases h
  | (b', ob') :: l, h, b, ob, hm => by
    simp only [preBdB, Bool.and_eq_true] at h
    rcases List.mem_cons.1 hm with he | hm
    · simp only [Prod.mk.injEq] at he
      obtain ⟨rfl, rfl⟩ := he
      exact ⟨blt_lt h.1, h.2.1⟩
    · exact preBdB_spec h.2.2 b ob hm

/-- the call, evaluated, and all that is to be checked -/
noncomputable def memoRun (C : CallT) (ng : Nat) (m : Memo) : Bool :=
  (Nat.ble ng m.lo && (Nat.ble m.lo (2 ^ Go.Proofs.YtdolijagffcfgaaGreatDoor.Ev.dh) && (V.bds m.lo m.args && (preBdB m.lo m.pre && asc m.lo m.keep)))) &&
  preK m.pre .nil fun h => C (.fn m.f m.args false) .none { heap := h, next := m.lo, log := [] } fun out _ σ' =>
    match out with
    | .ret v => veq v m.out && (preOk σ' m.pre && keepOk σ' m.lo m.keep)
    | .pan _ => false

theorem memoRun_ok {C : CallT} (hC : CallOk P ng C) {m : Memo} (h : memoRun C ng m = true) : MemoOk P ng m := by
  unfold memoRun at h
  rw [Bool.and_eq_true] at h
  obtain ⟨h0, h⟩ := h
  simp only [Bool.and_eq_true] at h0
  obtain ⟨h1, h2, h3, h4, h5⟩ := h0
  rw [preK_eq] at h
  have hpb := fun b ob hm => preBdB_spec h4 b ob hm
  have hdh := Nat.le_of_ble_eq_true h2
  have hb2 : ∀ b ob, (b, ob) ∈ m.pre → b < 2 ^ Go.Proofs.YtdolijagffcfgaaGreatDoor.Ev.dh := fun b ob hm => Nat.lt_of_lt_of_le (hpb b ob hm).1 hdh
  have hget := fun i hi => preP_get m.pre .nil i hb2 hi
  have hwf : AWf { heap := preP m.pre .nil, next := m.lo, log := [] } := by
    refine ⟨hdh, fun i hi hi2 => ?_⟩
    have hi' : m.lo ≤ i := hi
    rcases hget i hi2 with hq | hq
    · have := (hpb _ _ hq).1; omega
    · show T.get .no Go.Proofs.YtdolijagffcfgaaGreatDoor.Ev.dh (preP m.pre .nil) i = _
      rw [hq, T.get_nil]
  obtain ⟨out, u', σ', k1, k2, k3, k4⟩ := hC _ _ _ _ hwf h
  cases out with
  | pan ch => cases k1
  | ret v =>
    simp only [Bool.and_eq_true] at k1
    obtain ⟨q1, q2, q3⟩ := k1
    have hv := veq_eq _ _ q1
    subst hv
    refine ⟨Nat.le_of_ble_eq_true h1, hdh, fun r ob hm => (keepOk_spec q3 r ob hm).2.2, h3, hpb, fun k l r a b hk hl => asc_inj h5 k l r a b hk hl,
      ⟨_, σ', .none, u', rfl, hwf, fun i hi hno => ?_, fun b ob hm => preOk_spec q2 b ob hm, fun r ob hm => ⟨(keepOk_spec q3 r ob hm).1, (keepOk_spec q3 r ob hm).2.1⟩, k4⟩⟩
    rcases hget i (Nat.lt_of_lt_of_le hi hdh) with hq | hq
    · exact hq
    · exfalso
      have : ({ heap := preP m.pre .nil, next := m.lo, log := [] } : St).at i = .no := by
        show T.get .no Go.Proofs.YtdolijagffcfgaaGreatDoor.Ev.dh (preP m.pre .nil) i = _
        rw [hq, T.get_nil]
      rw [this] at hno
      cases hno
end
end Go.Proofs.YtdolijagffcfgaaGreatDoor.Ev

