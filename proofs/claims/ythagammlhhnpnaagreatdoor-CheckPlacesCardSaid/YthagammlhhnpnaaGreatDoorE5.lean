/-
  The evaluator, part 6 of 6: a program of the model is run by the kernel, piece by piece, and what it computes is proved of the run itself. No condition.
-/
import Derived.Defers
import Derived.Lib.Bytealg
import Derived.Lib.Builder
import Derived.Test.YthagammlhhnpnaaGreatDoorE4
set_option linter.unusedVariables false
set_option linter.unusedSimpArgs false
/-
  The evaluator's results of a function, and the calls that were deferred.
-/
namespace Go.Proofs.YthagammlhhnpnaaGreatDoor.Ev
section
variable {P : Program} {ng : Nat} {C : CallT}

/-! ### results -/
noncomputable def resK (tab : Tab P) (tm : T V) (σ : St) : List ResultVar → (List V → Bool) → Bool :=
  fun l => List.rec (motive := fun _ => (List V → Bool) → Bool) (fun κ => κ []) (fun r _ ih κ =>
    match r with
    | .tmp t => bif Nat.blt t 512 then headV (tget tm t) fun v => ih fun l => κ (v :: l) else false
    | .cell a t => bif Nat.blt a 512 then (match loadO tab σ t (tget tm a) with | some v => headV v fun v => ih fun l => κ (v :: l) | none => false) else false) l

def resultOf (tmps : Array Value) : ResultVar → Sem Value
  | .tmp t => pure (tmps.getD t undef)
  | .cell a t => do loadVar t (← asAddr (tmps.getD a undef))

theorem resK_sound {tab : Tab P} {tm : T V} {σ : St} : ∀ (l : List ResultVar) (κ : List V → Bool), resK tab tm σ l κ = true →
    ∃ vs, κ vs = true ∧ ∀ base e w nt tmps, Rel ng base e σ w → TR e nt tm tmps → ∃ zs, VRs e vs zs ∧ (l.mapM (resultOf tmps)).run P w = .ok zs w
  | [], κ, h => ⟨[], h, fun _ _ _ _ _ _ _ => ⟨[], VRs.nil, by simp⟩⟩
  | r :: l, κ, h => by
    have h' : (match (generalizing := false) r with
      | .tmp t => bif Nat.blt t 512 then headV (tget tm t) fun v => resK tab tm σ l fun l => κ (v :: l) else false
      | .cell a t => bif Nat.blt a 512 then (match loadO tab σ t (tget tm a) with | some v => headV v fun v => resK tab tm σ l fun l => κ (v :: l) | none => false) else false) = true := h
    clear h
    cases r with
    | tmp t =>
      simp only [cond_eq_ite] at h'
      split at h'
      · rename_i hlt
        rw [headV_eq] at h'
        obtain ⟨vs, h1, h2⟩ := resK_sound l _ h'
        refine ⟨_, h1, fun base e w nt tmps hr ht => ?_⟩
        obtain ⟨zs, z1, z2⟩ := h2 base e w nt tmps hr ht
        refine ⟨_ :: zs, VRs.cons (ht.rel t (blt_lt hlt)) z1, ?_⟩
        rw [List.mapM_cons]
        simp only [resultOf, Sem.run_bind, Sem.run_pure, Result.andThen_ok, z2]
      · cases h'
    | cell a t =>
      simp only [cond_eq_ite] at h'
      split at h'
      · rename_i hlt
        split at h'
        · rename_i v hv
          rw [headV_eq] at h'
          obtain ⟨vs, h1, h2⟩ := resK_sound l _ h'
          refine ⟨_, h1, fun base e w nt tmps hr ht => ?_⟩
          obtain ⟨zs, z1, z2⟩ := h2 base e w nt tmps hr ht
          have hx := ht.rel a (blt_lt hlt)
          obtain ⟨z, y1, y2⟩ := loadO_sound hv hr hx
          refine ⟨z :: zs, VRs.cons y1 z1, ?_⟩
          have hp : ∃ ad, tmps.getD a undef = .pointer (some ad) := by
            unfold loadO at hv
            split at hv
            · rename_i hq
              rw [hq] at hx
              simp only [VR] at hx
              exact ⟨_, hx.2⟩
            · cases hv
          obtain ⟨ad, had⟩ := hp
          rw [had] at y2
          have y3 : (loadVar t ad).run P w = .ok z w := by
            simpa only [Instr.loadAt, Instr.sureAddr, Sem.run_bind, Sem.run_pure, Result.andThen_ok] using y2
          rw [List.mapM_cons]
          simp only [resultOf, had, asAddr, Sem.run_bind, Sem.run_pure, Result.andThen_ok, y3, z2]
        · cases h'
      · cases h'

/-- the one result, or the tuple of all -/
noncomputable def outV (vs : List V) : V := match vs with | [v] => v | vs => .tup vs

theorem results_run {tab : Tab P} {fn : Func} {tm : T V} {σ : St} {κ : List V → Bool} (h : resK tab tm σ fn.results.toList κ = true) :
    ∃ vs, κ vs = true ∧ ∀ base e w nt tmps, Rel ng base e σ w → TR e nt tm tmps → ∃ z, VR e (outV vs) z ∧ (results fn tmps).run P w = .ok z w := by
  obtain ⟨vs, h1, h2⟩ := resK_sound (ng := ng) _ _ h
  refine ⟨vs, h1, fun base e w nt tmps hr ht => ?_⟩
  obtain ⟨zs, z1, z2⟩ := h2 base e w nt tmps hr ht
  have hm : (fn.results.mapM (resultOf tmps)).run P w = .ok zs.toArray w := by
    rw [Array.mapM_eq_mapM_toList]
    show ((fn.results.toList.mapM (resultOf tmps)) >>= fun l => pure l.toArray).run P w = _
    rw [Sem.run_bind, z2]
    rfl
  refine ⟨if h : zs.toArray.size = 1 then zs.toArray[0] else .tuple zs.toArray, ?_, ?_⟩
  · have hl := z1.length
    cases vs with
    | nil =>
      cases zs with
      | nil => simp only [outV, VR]; exact ⟨#[], by simp, VRs.nil⟩
      | cons _ _ => simp at hl
    | cons v vs =>
      cases zs with
      | nil => simp at hl
      | cons z zs =>
        cases vs with
        | nil =>
          cases zs with
          | nil => simp only [VRs] at z1; simpa [outV] using z1.1
          | cons _ _ => simp at hl
        | cons v2 vs =>
          cases zs with
          | nil => simp at hl
          | cons zz zs =>
            simp only [outV, VR]
            refine ⟨(z :: zz :: zs).toArray, by simp, z1⟩
  · have hres : results fn tmps = (do let vs ← fn.results.mapM (resultOf tmps); pure (if h : vs.size = 1 then vs[0] else .tuple vs)) := by
      unfold results
      congr 1
    rw [hres, Sem.run_bind, hm]
    rfl


/-! ### deferred calls -/
noncomputable def settleA (u : U) : U :=
  match u with
  | .pan ((_, true) :: _) => .returning
  | u => u
noncomputable def raisedA (u : U) (ch : List (V × Bool)) : U :=
  match u with
  | .pan old => .pan (ch ++ old)
  | _ => .pan ch
def U.up : U → Prop
  | .none => False
  | _ => True

theorem CHR.noexit {e : Env} : ∀ {l : List (V × Bool)} {m : List PanicEntry}, CHR e l m → m.dropWhile (!·.goexit) = []
  | [], [], _ => rfl
  | (_, _) :: _, x :: m, h => by
    obtain ⟨⟨_, _, h3⟩, h4⟩ := h
    rw [List.dropWhile_cons, h3]
    exact CHR.noexit h4
  | [], _ :: _, h => h.elim
  | _ :: _, [], h => by simp only [CHR] at h

theorem settle_sound {e : Env} {u : U} {m : FrameMode} (h : UR e u m) (hu : u.up) : UR e (settleA u) (settle m) ∧ (settleA u).up := by
  cases u with
  | none => exact hu.elim
  | returning =>
    have h' : m = .returning := h
    subst h'
    exact ⟨rfl, trivial⟩
  | pan ch =>
    obtain ⟨C, rfl, hc⟩ := h
    cases ch with
    | nil =>
      cases C with
      | nil => exact ⟨⟨[], rfl, trivial⟩, trivial⟩
      | cons _ _ => exact hc.elim
    | cons p ch =>
      obtain ⟨v, r⟩ := p
      cases C with
      | nil => simp only [CHR] at hc
      | cons x C =>
        obtain ⟨⟨h1, h2, h3⟩, h4⟩ := hc
        obtain ⟨xv, xr, xg⟩ := x
        simp only at h1 h2 h3
        subst h2
        subst h3
        cases xr with
        | true =>
          refine ⟨?_, trivial⟩
          show settle _ = .returning
          simp only [settle, h4.noexit]
        | false => exact ⟨⟨_, rfl, ⟨⟨h1, rfl, rfl⟩, h4⟩⟩, trivial⟩

theorem raised_sound {e : Env} {u : U} {m : FrameMode} (h : UR e u m) (hu : u.up) {ch : List (V × Bool)} {C : List PanicEntry} (hc : CHR e ch C) : UR e (raisedA u ch) (raised m C) ∧ (raisedA u ch).up := by
  cases u with
  | none => exact hu.elim
  | returning =>
    have h' : m = .returning := h
    subst h'
    exact ⟨⟨C, rfl, hc⟩, trivial⟩
  | pan old =>
    obtain ⟨O, rfl, ho⟩ := h
    exact ⟨⟨C ++ O, rfl, hc.app ho⟩, trivial⟩

theorem settleA_up {u : U} (hu : u.up) : (settleA u).up := by
  unfold settleA
  split
  · trivial
  · exact hu

noncomputable def unwK (C : CallT) (ng : Nat) (tab : Tab P) : List ADef → U → St → (U → St → Bool) → Bool :=
  fun l => List.rec (motive := fun _ => U → St → (U → St → Bool) → Bool) (fun u σ κ => κ u σ) (fun d _ ih u σ κ =>
    match d.mark, d.fn with
    | none, .func g =>
      match tab.fn g with
      | some _ => lappK d.args d.captured fun all => C (.fn g all true) u σ fun out u' σ' =>
        match u' with
        | .none => false
        | u' => match out with | .ret _ => ih (settleA u') σ' κ | .pan ch => ih (raisedA u' ch) σ' κ
      | none => false
    | some b, _ =>
      match σ.at b with
      | .dfd [] => obK ng σ b .taken fun σ' => ih u σ' κ
      | _ => false
    | _, _ => false) l

theorem unwK_sound {tab : Tab P} (hC : CallOk P ng C) : ∀ (l : List ADef) (u : U) (σ : St) (κ : U → St → Bool), AWf σ → u.up → unwK C ng tab l u σ κ = true →
    ∃ u' σ', κ u' σ' = true ∧ u'.up ∧ AWf σ' ∧ AExt σ σ' ∧ ∀ base e w (fr : Frame) cs dl, base ≤ w.heap.size → ng ≤ base → Rel ng base e σ w → GE ng e → DRs e l dl → fr.defers = dl → UR e u fr.mode →
      ∃ e' w' m', Steps P (lone fr cs w) (lone { fr with mode := m', defers := [] } cs w') ∧ UR e' u' m' ∧ Rel ng base e' σ' w' ∧ Ext ng e σ w e' σ' w'
  | [], u, σ, κ, hwf, hu, h => ⟨u, σ, h, hu, hwf, .refl σ, fun base e w fr cs dl hb _ hr hg hd hf hm => by
      cases dl with
      | nil => exact ⟨e, w, fr.mode, by rw [← hf]; exact .refl P _, hm, hr, .refl ..⟩
      | cons _ _ => exact hd.elim⟩
  | d :: l, u, σ, κ, hwf, hu, h => by
    have h' : (match (generalizing := false) d.mark, d.fn with
      | none, .func g =>
        match tab.fn g with
        | some _ => lappK d.args d.captured fun all => C (.fn g all true) u σ fun out u' σ' =>
          match u' with
          | .none => false
          | u' => match out with | .ret _ => unwK C ng tab l (settleA u') σ' κ | .pan ch => unwK C ng tab l (raisedA u' ch) σ' κ
        | none => false
      | some b, _ =>
        match σ.at b with
        | .dfd [] => obK ng σ b .taken fun σ' => unwK C ng tab l u σ' κ
        | _ => false
      | _, _ => false) = true := h
    split at h'
    · rename_i g hmark hfn
      split at h'
      · rename_i fn hg
        rw [lappK_eq] at h'
        obtain ⟨out, u1, σ1, h1, h2, h3, h4⟩ := hC _ _ _ _ hwf h'
        have hu1 : u1.up := by cases u1 <;> first | (cases h1; done) | trivial
        have hcont : ∃ u2, unwK C ng tab l u2 σ1 κ = true ∧ u2.up ∧ ∀ base e w (fr : Frame) cs dl, base ≤ w.heap.size → ng ≤ base → Rel ng base e σ w → GE ng e → DRs e (d :: l) dl → fr.defers = dl → UR e u fr.mode →
            ∃ e' w' m' dl', Steps P (lone fr cs w) (lone { fr with mode := m', defers := dl' } cs w') ∧ DRs e' l dl' ∧ UR e' u2 m' ∧ Rel ng base e' σ1 w' ∧ Ext ng e σ w e' σ1 w' := by
          have run : ∀ base e w (fr : Frame) cs dl, base ≤ w.heap.size → ng ≤ base → Rel ng base e σ w → GE ng e → DRs e (d :: l) dl → fr.defers = dl → UR e u fr.mode →
              ∃ x dl' e' w' fr' E m, dl = x :: dl' ∧ Steps P (lone fr cs w) (lone fr' ({ { fr with defers := dl' } with mode := m } :: cs) w') ∧ fr'.kind = .deferred ∧ fr'.going P w' E ∧ ER e' out E ∧ DRs e' l dl' ∧ UR e' u1 m ∧ Rel ng base e' σ1 w' ∧ Ext ng e σ w e' σ1 w' := by
            intro base e w fr cs dl hb hnb hr hge hd hf hm
            cases dl with
            | nil => exact hd.elim
            | cons x dl' =>
              obtain ⟨hd1, hd2⟩ := hd
              unfold DR at hd1
              rw [hmark] at hd1
              simp only at hd1
              obtain ⟨_, c, ar, rfl, r2, r3⟩ := hd1
              rw [hfn] at hf ⊢
              have hinv : (invoke (Target.fn (.func g) c) ar).run P w = .ok (.enter g (ar ++ c)) w := run_callFunc hg (ar ++ c) w
              have hall : VRs e (d.args ++ d.captured) (ar ++ c).toList := by rw [Array.toList_append]; exact r3.app r2
              have hrun : fr.mode ≠ .run := by
                intro hrun
                rw [hrun] at hm
                cases u with
                | none => exact hu
                | returning => cases hm
                | pan ch => obtain ⟨_, hc, _⟩ := hm; cases hc
              have hst := step_defer (cs := cs) hrun hf rfl hinv
              obtain ⟨e', w', fr', E, m, y1, y2, y3, y4, y5, y6, y7⟩ := h4 base e w _ hb hnb hr hge hall { fr with defers := dl' } cs hm
              exact ⟨_, dl', e', w', fr', E, m, rfl, .head hst y1, y2, y3, y4, hd2.mono y7.le, y5, y6, y7⟩
          cases out with
          | ret v =>
            have h1' : unwK C ng tab l (settleA u1) σ1 κ = true := by cases u1 <;> first | (cases h1; done) | exact h1
            refine ⟨settleA u1, h1', settleA_up hu1, fun base e w fr cs dl hb hnb hr hge hd hf hm => ?_⟩
            obtain ⟨x, dl', e', w', fr', E, m, y0, y1, y2, y3, y4, y5, y6, y7, y8⟩ := run base e w fr cs dl hb hnb hr hge hd hf hm
            cases E with
            | returned z =>
              have hst := step_going_returned (c := { { fr with defers := dl' } with mode := m }) (cs := cs) y2 y3
              exact ⟨e', w', settle m, dl', Steps.trans y1 (.one hst), y5, (settle_sound y6 hu1).1, y7, y8⟩
            | panicked _ => exact y4.elim
            | outgrown => exact y4.elim
          | pan ch =>
            have h1' : unwK C ng tab l (raisedA u1 ch) σ1 κ = true := by cases u1 <;> first | (cases h1; done) | exact h1
            refine ⟨raisedA u1 ch, h1', by cases u1 <;> trivial, fun base e w fr cs dl hb hnb hr hge hd hf hm => ?_⟩
            obtain ⟨x, dl', e', w', fr', E, m, y0, y1, y2, y3, y4, y5, y6, y7, y8⟩ := run base e w fr cs dl hb hnb hr hge hd hf hm
            cases E with
            | returned z => exact y4.elim
            | panicked CH =>
              have hst := step_going_panicked (c := { { fr with defers := dl' } with mode := m }) (cs := cs) y3
              exact ⟨e', w', raised m CH, dl', Steps.trans y1 (.one hst), y5, (raised_sound y6 hu1 y4).1, y7, y8⟩
            | outgrown => exact y4.elim
        obtain ⟨u2, c1, c2, c3⟩ := hcont
        obtain ⟨u', σ', k1, k2, k3, k4, k5⟩ := unwK_sound hC l u2 σ1 κ h2 c2 c1
        refine ⟨u', σ', k1, k2, k3, h3.trans k4, fun base e w fr cs dl hb hnb hr hge hd hf hm => ?_⟩
        obtain ⟨e1, w1, m1, dl1, y1, y2, y3, y4, y5⟩ := c3 base e w fr cs dl hb hnb hr hge hd hf hm
        obtain ⟨e2, w2, m2, z1, z2, z3, z4⟩ := k5 base e1 w1 { fr with mode := m1, defers := dl1 } cs dl1 (Nat.le_trans hb y5.size) hnb y4 (hge.mono y5.le) y2 rfl y3
        exact ⟨e2, w2, m2, Steps.trans y1 z1, z2, z3, y5.trans z4⟩
      · cases h'
    · rename_i bk hmark
      split at h'
      · rename_i hat
        obtain ⟨σ1, h1, h2, h3, h4⟩ := obK_goes (P := P) hwf hat rfl rfl h'
        obtain ⟨u', σ', k1, k2, k3, k4, k5⟩ := unwK_sound hC l u σ1 κ h2 hu h1
        refine ⟨u', σ', k1, k2, k3, h3.trans k4, fun base e w fr cs dl hb hnb hr hge hd hf hm => ?_⟩
        cases dl with
        | nil => exact hd.elim
        | cons x dl' =>
          obtain ⟨hd1, hd2⟩ := hd
          unfold DR at hd1
          rw [hmark] at hd1
          simp only at hd1
          obtain ⟨hM, rfl⟩ := hd1
          obtain ⟨o, g1, ⟨xs, g2, g3⟩, _⟩ := ob_sound hr hM hat rfl
          subst g2
          cases xs with
          | cons _ _ => exact g3.elim
          | nil =>
            obtain ⟨w1, y1, y2, y3⟩ := h4 base e w (.deferred none) hr hM rfl
            have htake : (Instr.takeDeferred (e.blk bk)).run P w = .ok [] w1 := by
              have hgo := getOb (P := P) g1 (by simp)
              simp only [Instr.takeDeferred, Sem.run_bind, hgo, Result.andThen_ok, y1, Sem.run_pure]
            have hrun : fr.mode ≠ .run := by
              intro hrun
              rw [hrun] at hm
              cases u with
              | none => exact hu
              | returning => cases hm
              | pan ch => obtain ⟨_, hc, _⟩ := hm; cases hc
            have hst := step_collected (cs := cs) hrun hf rfl htake
            obtain ⟨e2, w2, m2, z1, z2, z3, z4⟩ := k5 base e w1 { fr with defers := [] ++ dl' } cs dl' (Nat.le_trans hb y3.size) hnb y2 hge hd2 rfl hm
            exact ⟨e2, w2, m2, .head hst z1, z2, z3, y3.trans z4⟩
      · cases h'
    · cases h'
end
end Go.Proofs.YthagammlhhnpnaaGreatDoor.Ev

/-
  The evaluator's calls, by fuel.
-/
namespace Go.Proofs.YthagammlhhnpnaaGreatDoor.Ev
section
variable {P : Program} {ng : Nat}

noncomputable def argsK : List V → Nat → T V → (T V → Bool) → Bool :=
  fun l => List.rec (motive := fun _ => Nat → T V → (T V → Bool) → Bool) (fun _ tm κ => κ tm) (fun v _ ih i tm κ => T.setK V.undefV v dt i tm fun tm' => ih (Nat.succ i) tm' κ) l
noncomputable def argsP : List V → Nat → T V → T V
  | [], _, tm => tm
  | v :: l, i, tm => argsP l (i + 1) (T.set V.undefV v dt i tm)
theorem argsK_eq : ∀ (l : List V) (i : Nat) (tm : T V) (κ : T V → Bool), argsK l i tm κ = κ (argsP l i tm)
  | [], _, _, _ => rfl
  | v :: l, i, tm, κ => by
    show T.setK V.undefV v dt i tm (fun tm' => argsK l (i + 1) tm' κ) = _
    rw [T.setK_eq, argsK_eq l]
    rfl

theorem argsP_get {t : Nat} (ht : t < 2 ^ dt) : ∀ (l : List V) (i : Nat) (tm : T V), i + l.length ≤ 2 ^ dt → tget (argsP l i tm) t = if i ≤ t then (l[t - i]?).getD (tget tm t) else tget tm t
  | [], i, tm, _ => by simp [argsP]
  | v :: l, i, tm, h => by
    have hi : i < 2 ^ dt := by simp at h; omega
    have ih := argsP_get ht l (i + 1) (T.set V.undefV v dt i tm) (by simp at h ⊢; omega)
    have hg : tget (T.set V.undefV v dt i tm) t = if t = i then v else tget tm t := T.get_set _ _ _ _ _ _ hi ht
    show tget (argsP l (i + 1) (T.set V.undefV v dt i tm)) t = _
    rw [ih, hg]
    rcases Nat.lt_trichotomy t i with hlt | heq | hgt
    · rw [if_neg (by omega), if_neg (by omega), if_neg (by omega)]
    · subst heq
      rw [if_neg (by omega), if_pos rfl, if_pos (Nat.le_refl _)]
      simp
    · rw [if_pos (by omega), if_neg (by omega), if_pos (by omega)]
      have : t - i = (t - (i + 1)) + 1 := by omega
      rw [this, List.getElem?_cons_succ]

theorem args_TR {e : Env} {args : List V} {ARGS : Array Value} (ha : VRs e args ARGS.toList) {nt : Nat} (h1 : args.length ≤ nt) (h2 : nt ≤ 2 ^ dt) : TR e nt (argsP args 0 .nil) (ARGS ++ Array.replicate (nt - ARGS.size) undef) := by
  have hl : args.length = ARGS.size := by rw [ha.length]; simp
  refine ⟨by simp; omega, fun t ht => ?_⟩
  rw [argsP_get ht args 0 .nil (by omega), if_pos (Nat.zero_le _), Nat.sub_zero]
  have hnil : tget .nil t = V.tup [] := T.get_nil _ _ _
  rw [hnil]
  have hu : VR e (.tup []) undef := by simp only [VR]; exact ⟨_, rfl, VRs.nil⟩
  cases hv : args[t]? with
  | some v =>
    obtain ⟨x, x1, x2⟩ := ha.get t v hv
    have hlt : t < ARGS.size := by have := (List.getElem?_eq_some_iff.1 hv).1; omega
    have : (ARGS ++ Array.replicate (nt - ARGS.size) undef).getD t undef = x := by
      rw [Array.getD_eq_getD_getElem?, Array.getElem?_append_left hlt, ← Array.getElem?_toList, x1]
      rfl
    rw [this]
    exact x2
  | none =>
    have hge : ARGS.size ≤ t := by have := List.getElem?_eq_none_iff.1 hv; omega
    have : (ARGS ++ Array.replicate (nt - ARGS.size) undef).getD t undef = undef := by
      rw [Array.getD_eq_getD_getElem?, Array.getElem?_append_right hge, Array.getElem?_replicate]
      split <;> rfl
    rw [this]
    exact hu

noncomputable def endK (C : CallT) (ng : Nat) (tab : Tab P) (fn : Func) (tm : T V) (ds : List ADef) (u0 m : U) (σ : St) (κ : COut → U → St → Bool) : Bool :=
  unwK C ng tab ds m σ fun u1 σ1 =>
    match u1 with
    | .returning => resK tab tm σ1 fn.results.toList fun vs => κ (.ret (outV vs)) u0 σ1
    | .pan ch => κ (.pan ch) u0 σ1
    | .none => false

theorem endK_sound {C : CallT} {tab : Tab P} (hC : CallOk P ng C) {fn : Func} {tm : T V} {ds : List ADef} {u0 m : U} {σ : St} {κ : COut → U → St → Bool} (hwf : AWf σ) (hm : m.up) (h : endK C ng tab fn tm ds u0 m σ κ = true) :
    ∃ out σ', κ out u0 σ' = true ∧ AWf σ' ∧ AExt σ σ' ∧ ∀ base e w (fr : Frame) cs dl nt, base ≤ w.heap.size → ng ≤ base → Rel ng base e σ w → GE ng e → DRs e ds dl → fr.defers = dl → UR e m fr.mode → fr.kind = .normal → P.funcs[fr.fn]? = some fn → TR e nt tm fr.tmps →
      ∃ e' w' fr' E, Steps P (lone fr cs w) (lone fr' cs w') ∧ fr'.fn = fr.fn ∧ fr'.leaving P w' E ∧ ER e' out E ∧ Rel ng base e' σ' w' ∧ Ext ng e σ w e' σ' w' := by
  unfold endK at h
  obtain ⟨u', σ', h1, h2, h3, h4, h5⟩ := unwK_sound hC _ _ _ _ hwf hm h
  cases u' with
  | none => cases h1
  | returning =>
    obtain ⟨vs, k1, k2⟩ := results_run (P := P) (ng := ng) h1
    refine ⟨_, σ', k1, h3, h4, fun base e w fr cs dl nt hb hnb hr hg hd hf hu hk hfn ht => ?_⟩
    obtain ⟨e', w', m', y1, y2, y3, y4⟩ := h5 base e w fr cs dl hb hnb hr hg hd hf hu
    obtain ⟨z, z1, z2⟩ := k2 base e' w' nt fr.tmps y3 (ht.mono y4.le)
    have y2' : m' = .returning := y2
    exact ⟨e', w', _, .returned z, y1, rfl, ⟨y2', rfl, hk, fn, hfn, z2⟩, z1, y3, y4⟩
  | pan ch =>
    refine ⟨_, σ', h1, h3, h4, fun base e w fr cs dl nt hb hnb hr hg hd hf hu hk hfn ht => ?_⟩
    obtain ⟨e', w', m', y1, y2, y3, y4⟩ := h5 base e w fr cs dl hb hnb hr hg hd hf hu
    obtain ⟨CH, y5, y6⟩ := y2
    exact ⟨e', w', _, .panicked CH, y1, rfl, ⟨y5, rfl, fn, hfn⟩, y6, y3, y4⟩

/-- a frame that is entered -/
theorem enter_SR {base : Nat} {e : Env} {σ : St} {w : World} {f : FuncId} {fn : Func} {c : Code} {args : List V} {ARGS : Array Value} (hf : P.funcs[f]? = some fn) (hb : fn.body = some c) (h1 : args.length ≤ fn.ntmps) (h2 : fn.ntmps ≤ 2 ^ dt) (hroom : base ≤ w.heap.size) (hr : Rel ng base e σ w) (hg : GE ng e) (ha : VRs e args ARGS.toList) {dfd : Bool} {u : U} {cs : List Frame}
    (hk : KR e ⟨f, fn.ntmps, dfd, none⟩ u cs) : ∃ (b : Frame) (a : Act), Frame.enter P f ARGS (if dfd then .deferred else .normal) = b.atR a [.code c] ∧ b.fn = f ∧ b.kind = (if dfd then .deferred else .normal) ∧ SR ng base ⟨f, fn.ntmps, dfd, none⟩ e (argsP args 0 .nil) [] u σ b a cs w := by
  refine ⟨{ (default : Frame) with fn := f, kind := if dfd then .deferred else .normal }, { tmps := ARGS ++ Array.replicate (fn.ntmps - ARGS.size) undef, defers := [] }, ?_, rfl, rfl, ⟨hroom, hr, hg, ⟨rfl, rfl, rfl⟩, args_TR ha h1 h2, trivial, hk⟩⟩
  simp [Frame.enter, Frame.atR, hf, hb]
  rfl
end
end Go.Proofs.YthagammlhhnpnaaGreatDoor.Ev

/-
  The evaluator's calls, by fuel: their law.
-/
namespace Go.Proofs.YthagammlhhnpnaaGreatDoor.Ev
section
variable {P : Program} {ng : Nat}

/-- a round's parameters -/
noncomputable def roundK (nt : Nat) : List Tmp → List V → T V → (T V → Bool) → Bool
  | [], [], tm, κ => κ tm
  | t :: ps, v :: as, tm, κ => putT nt (some t) v tm fun tm' => roundK nt ps as tm' κ
  | _, _, _, _ => false

theorem roundK_sound {nt : Nat} : ∀ (ps : List Tmp) (as : List V) (tm : T V) (κ : T V → Bool), roundK nt ps as tm κ = true →
    ∃ tm', κ tm' = true ∧ ps.length = as.length ∧ ∀ e (ts : Array Value) (AS : List Value), TR e nt tm ts → VRs e as AS → TR e nt tm' ((ps.zip AS).foldl (fun tmps (p : Tmp × Value) => tmps.setIfInBounds p.1 p.2) ts)
  | [], [], tm, κ, h => ⟨tm, h, rfl, fun e ts AS ht _ => by simpa using ht⟩
  | [], _ :: _, _, _, h => by simp only [roundK] at h; cases h
  | _ :: _, [], _, _, h => by simp only [roundK] at h; cases h
  | t :: ps, v :: as, tm, κ, h => by
    simp only [roundK] at h
    obtain ⟨h1, h2⟩ := putT_eq h
    obtain ⟨tm', k1, k2, k3⟩ := roundK_sound ps as _ κ h1
    refine ⟨tm', k1, by simp [k2], fun e ts AS ht ha => ?_⟩
    cases AS with
    | nil => simp only [VRs] at ha
    | cons z AS =>
      simp only [VRs] at ha
      simp only [List.zip_cons_cons, List.foldl_cons]
      exact k3 e _ AS (TR.put (a := { tmps := ts, defers := [] }) ht h2 ha.1) ha.2

noncomputable def stepC (ng : Nat) (tab : Tab P) (F : Nat) (C : CallT) : CallT := fun ent u σ κ =>
  match ent with
  | .fn f args dfd =>
    match tab.fn f with
    | some fn =>
      match fn.body with
      | some c =>
        bif Nat.ble (llen args) fn.ntmps && Nat.ble fn.ntmps 512 then
          argsK args 0 .nil fun tm =>
            match dfd with
            | false => runF C ng tab { fn := f, nt := fn.ntmps, dfd := false, rd := none } (fun out tm ds _ σ =>
                match out with
                | .fin => endK C ng tab fn tm ds u .returning σ κ
                | .pan ch => endK C ng tab fn tm ds u (.pan ch) σ κ
                | .left _ => false) F [.code c] tm [] .none σ
            | true => runF C ng tab { fn := f, nt := fn.ntmps, dfd := true, rd := none } (fun out tm ds u σ =>
                match out, ds with
                | .fin, [] => resK tab tm σ fn.results.toList fun vs => κ (.ret (outV vs)) u σ
                | .pan ch, [] => κ (.pan ch) u σ
                | _, _ => false) F [.code c] tm [] u σ
        else false
      | none => false
    | none => false
  | .rd l args =>
    match σ.at l with
    | .loop _ _ fn tm nt ps as bd _ =>
      match tab.fn fn with
      | some _ => roundK nt ps args tm fun tm' =>
        runF C ng tab { fn := fn, nt := nt, dfd := false, rd := some l } (fun out _ ds _ σ1 =>
          match out, ds with
          | .left jump, [] => endRdK ng σ1 l jump fun σ2 => κ (.ret (.bool jump.isNone)) u σ2
          | .pan ch, [] => κ (.pan ch) u σ1
          | _, _ => false) F [.code as, .beginRound, .code bd] tm' [] .none σ
      | none => false
    | _ => false

theorem stepC_ok {tab : Tab P} (hmix : P.follows .mixedOrders = true) {F : Nat} {C : CallT} (hC : CallOk P ng C) : CallOk P ng (stepC ng tab F C) := by
  intro ent u σ κ hwf h
  unfold stepC at h
  split at h
  · rename_i f args dfd
    split at h
    · rename_i fn hfn
      obtain ⟨hf, _, _⟩ := tab.fnOk f fn hfn
      split at h
      · rename_i c hb
        rw [cond_eq_ite] at h
        split at h
        · rename_i hc0
          have hc := Bool.and_eq_true_iff.1 hc0
          have h1 : args.length ≤ fn.ntmps := by have := Nat.le_of_ble_eq_true hc.1; rwa [llen_eq] at this
          have h2 : fn.ntmps ≤ 2 ^ dt := Nat.le_of_ble_eq_true hc.2
          rw [argsK_eq] at h
          cases dfd with
          | false =>
            simp only at h
            obtain ⟨out, tm1, ds1, u1, σ1, k1, k2, k3, k4⟩ := runF_sound hC hmix F _ _ _ _ _ hwf h
            cases out with
            | left j => cases k1
            | fin =>
              obtain ⟨out, σ2, g1, g2, g3, g4⟩ := endK_sound (ng := ng) (m := .returning) hC k2 trivial k1
              refine ⟨out, u, σ2, g1, g2, k3.trans g3, fun base e w ARGS hroom hnb hr hg ha cs => ?_⟩
              obtain ⟨b, a, y1, y2, y3, y4⟩ := enter_SR (cs := cs) (u := .none) (dfd := false) hf hb h1 h2 hroom hr hg ha (by intro hd; cases hd)
              have y1' : Frame.enter P f ARGS .normal = b.atR a [.code c] := y1
              obtain ⟨e1, a1, cs1, w1, td, z1, z2, z3, z4⟩ := k4 base e b a cs w hnb y4
              have hcs : cs1 = cs := z4.1 rfl
              subst hcs
              obtain ⟨e2, w2, fr', E, x1, x2, x3, x4, x5, x6⟩ := g4 base e1 w1 { b.atR a1 td with mode := .returning } cs1 a1.defers fn.ntmps z2.room hnb z2.rel z2.glob z2.ds rfl rfl y3 (by show P.funcs[b.fn]? = _; rw [y2]; exact hf) z2.tm
              exact ⟨e2, w2, fr', E, by rw [y1']; exact Steps.trans z1 x1, x2.trans y2, x3, x4, x5, z3.trans x6⟩
            | pan ch =>
              obtain ⟨out, σ2, g1, g2, g3, g4⟩ := endK_sound (ng := ng) (m := .pan ch) hC k2 trivial k1
              refine ⟨out, u, σ2, g1, g2, k3.trans g3, fun base e w ARGS hroom hnb hr hg ha cs => ?_⟩
              obtain ⟨b, a, y1, y2, y3, y4⟩ := enter_SR (cs := cs) (u := .none) (dfd := false) hf hb h1 h2 hroom hr hg ha (by intro hd; cases hd)
              have y1' : Frame.enter P f ARGS .normal = b.atR a [.code c] := y1
              obtain ⟨e1, a1, cs1, w1, td, CH, z1, z0, z2, z3, z4⟩ := k4 base e b a cs w hnb y4
              have hcs : cs1 = cs := z4.1 rfl
              subst hcs
              obtain ⟨e2, w2, fr', E, x1, x2, x3, x4, x5, x6⟩ := g4 base e1 w1 { b.atR a1 td with mode := .panicking CH } cs1 a1.defers fn.ntmps z2.room hnb z2.rel z2.glob z2.ds rfl ⟨CH, rfl, z0⟩ y3 (by show P.funcs[b.fn]? = _; rw [y2]; exact hf) z2.tm
              exact ⟨e2, w2, fr', E, by rw [y1']; exact Steps.trans z1 x1, x2.trans y2, x3, x4, x5, z3.trans x6⟩
          | true =>
            simp only at h
            obtain ⟨out, tm1, ds1, u1, σ1, k1, k2, k3, k4⟩ := runF_sound hC hmix F _ _ _ _ _ hwf h
            simp only at k1
            split at k1
            · obtain ⟨vs, r1, r2⟩ := results_run (P := P) (ng := ng) k1
              refine ⟨_, u1, σ1, r1, k2, k3, fun base e w ARGS hroom hnb hr hg ha c0 cs hu => ?_⟩
              obtain ⟨b, a, y1, y2, y3, y4⟩ := enter_SR (cs := c0 :: cs) (u := u) (dfd := true) hf hb h1 h2 hroom hr hg ha (fun _ => ⟨c0, cs, rfl, hu⟩)
              have y1' : Frame.enter P f ARGS .deferred = b.atR a [.code c] := y1
              obtain ⟨e1, a1, cs1, w1, td, z1, z2, z3, z4⟩ := k4 base e b a (c0 :: cs) w hnb y4
              obtain ⟨c2, r, mo, q1, q2, q3⟩ := z4.2 rfl
              simp only [List.cons.injEq] at q1
              obtain ⟨rfl, rfl⟩ := q1
              subst q2
              obtain ⟨z, x1, x2⟩ := r2 base e1 w1 fn.ntmps a1.tmps z2.rel z2.tm
              have hdl : a1.defers = [] := by
                have := z2.ds
                cases hd : a1.defers with
                | nil => rfl
                | cons _ _ => rw [hd] at this; exact this.elim
              exact ⟨e1, w1, { b.atR a1 td with mode := .returning }, .returned z, mo, by rw [y1']; exact z1, y3, ⟨rfl, hdl, fn, by show P.funcs[b.fn]? = _; rw [y2]; exact hf, x2⟩, x1, q3, z2.rel, z3⟩
            · refine ⟨_, u1, σ1, k1, k2, k3, fun base e w ARGS hroom hnb hr hg ha c0 cs hu => ?_⟩
              obtain ⟨b, a, y1, y2, y3, y4⟩ := enter_SR (cs := c0 :: cs) (u := u) (dfd := true) hf hb h1 h2 hroom hr hg ha (fun _ => ⟨c0, cs, rfl, hu⟩)
              have y1' : Frame.enter P f ARGS .deferred = b.atR a [.code c] := y1
              obtain ⟨e1, a1, cs1, w1, td, CH, z1, z0, z2, z3, z4⟩ := k4 base e b a (c0 :: cs) w hnb y4
              obtain ⟨c2, r, mo, q1, q2, q3⟩ := z4.2 rfl
              simp only [List.cons.injEq] at q1
              obtain ⟨rfl, rfl⟩ := q1
              subst q2
              have hdl : a1.defers = [] := by
                have := z2.ds
                cases hd : a1.defers with
                | nil => rfl
                | cons _ _ => rw [hd] at this; exact this.elim
              exact ⟨e1, w1, { b.atR a1 td with mode := .panicking CH }, .panicked CH, mo, by rw [y1']; exact z1, y3, ⟨rfl, hdl, fn, by show P.funcs[b.fn]? = _; rw [y2]; exact hf⟩, z0, q3, z2.rel, z3⟩
            · cases k1
        · cases h
      · cases h
    · cases h
  · -- a round
    rename_i l args
    split at h
    · rename_i st pd fn tm nt ps as bd d hat
      split at h
      · rename_i func hfn
        obtain ⟨hf, _, _⟩ := tab.fnOk fn func hfn
        obtain ⟨tm', p1, p2, p3⟩ := roundK_sound _ _ _ _ h
        obtain ⟨out, tm1, ds1, u1, σ1, k1, k2, k3, k4⟩ := runF_sound hC hmix F _ _ _ _ _ hwf p1
        -- how the round begins
        have start : ∀ base e w (ARGS : Array Value), base ≤ w.heap.size → ng ≤ base → Rel ng base e σ w → GE ng e → e.M l → VRs e args ARGS.toList → ∃ tmps,
            (Instr.yield (e.blk l) ARGS).run P w = .ok (.round (e.blk l) fn tmps as bd) w ∧ ∀ cs, ∃ (b : Frame) (a : Act), Frame.round (e.blk l) fn tmps as bd .normal = b.atR a [.code as, .beginRound, .code bd] ∧ b.fn = fn ∧ b.kind = .normal ∧ b.roundOf = some (e.blk l) ∧
              SR ng base { fn := fn, nt := nt, dfd := false, rd := some l } e tm' [] .none σ b a cs w := by
          intro base e w ARGS hroom hnb hr hg hm ha
          obtain ⟨o, g1, ⟨g2, ts, g3, g4, g5⟩, _⟩ := ob_sound hr hm hat rfl
          subst g3
          have hlen : ARGS.size = ps.length := by rw [p2, ha.length]; simp
          refine ⟨_, run_yield g1 (by simp [hlen]), fun cs => ?_⟩
          refine ⟨{ (default : Frame) with fn := fn, kind := .normal, roundOf := some (e.blk l) }, { tmps := (ps.toArray.zip ARGS).foldl (fun tmps (x : Tmp × Value) => tmps.setIfInBounds x.1 x.2) ts, defers := [] }, rfl, rfl, rfl, rfl, ⟨hroom, hr, hg, ⟨rfl, rfl, hm, rfl⟩, ?_, trivial, fun hd => by cases hd⟩⟩
          have := p3 e ts ARGS.toList ⟨g4, g5⟩ ha
          have hz : (ps.toArray.zip ARGS).foldl (fun tmps (x : Tmp × Value) => tmps.setIfInBounds x.1 x.2) ts = (ps.zip ARGS.toList).foldl (fun tmps (p : Tmp × Value) => tmps.setIfInBounds p.1 p.2) ts := by
            rw [← Array.foldl_toList, Array.toList_zip]
          show TR e nt tm' _
          rw [hz]
          exact this
        cases out with
        | fin => cases k1
        | left jump =>
          have k1' : ds1 = [] ∧ (endRdK ng σ1 l jump fun σ2 => κ (.ret (.bool jump.isNone)) u σ2) = true := by
            cases ds1 with
            | nil => exact ⟨rfl, k1⟩
            | cons _ _ => cases k1
          obtain ⟨rfl, k1'⟩ := k1'
          obtain ⟨σ2, q1, q2, q3, q4⟩ := endRdK_goes (P := P) k2 k1'
          refine ⟨_, u, σ2, q1, q2, k3.trans q3, fun base e w ARGS hroom hnb hr hg hm ha => ?_⟩
          obtain ⟨tmps, y1, y2⟩ := start base e w ARGS hroom hnb hr hg hm ha
          refine ⟨fn, tmps, as, bd, y1, fun c cs => ?_⟩
          obtain ⟨b, a, z1, z2, z3, z4, z5⟩ := y2 (c :: cs)
          obtain ⟨todo, t1, e1, a1, cs1, w1, t2, t3, t4, t5⟩ := k4 base e b a (c :: cs) w hnb z5
          have hcs : cs1 = c :: cs := t5.1 rfl
          subst hcs
          obtain ⟨m1, m2, _⟩ := t4.le.mono l hm
          obtain ⟨w2, x1, x2, x3⟩ := q4 base e1 w1 t3.rel m1
          refine ⟨e1, w2, ⟨.bool jump.isNone, ?_, by simp only [VR]⟩, x2, t4.trans x3⟩
          rw [z1]
          refine Steps.trans t2 (.one ?_)
          have hro : b.roundOf = some (e1.blk l) := by rw [z4, m2]
          cases jump with
          | none =>
            have t1' : todo = [] := t1
            subst t1'
            exact stepR_round_end hro z3 x1
          | some j =>
            cases j <;> first | (exact t1.elim; done) | skip
            · obtain ⟨k0, t6, t7⟩ := t1
              subst t6
              exact stepR_round_exit hro z3 t7 x1
            · obtain ⟨k0, t6⟩ := t1
              subst t6
              exact stepR_round_ret hro z3 x1
        | pan ch =>
          have k1' : ds1 = [] ∧ κ (.pan ch) u σ1 = true := by
            cases ds1 with
            | nil => exact ⟨rfl, k1⟩
            | cons _ _ => cases k1
          obtain ⟨rfl, k1'⟩ := k1'
          refine ⟨_, u, σ1, k1', k2, k3, fun base e w ARGS hroom hnb hr hg hm ha => ?_⟩
          obtain ⟨tmps, y1, y2⟩ := start base e w ARGS hroom hnb hr hg hm ha
          refine ⟨fn, tmps, as, bd, y1, fun c cs => ?_⟩
          obtain ⟨b, a, z1, z2, z3, z4, z5⟩ := y2 (c :: cs)
          obtain ⟨e1, a1, cs1, w1, td, CH, t1, t2, t3, t4, t5⟩ := k4 base e b a (c :: cs) w hnb z5
          have hcs : cs1 = c :: cs := t5.1 rfl
          subst hcs
          refine ⟨e1, w1, ⟨CH, ?_, t2⟩, t3.rel, t4⟩
          rw [z1]
          have hdl : a1.defers = [] := by
            have := t3.ds
            cases hd : a1.defers with
            | nil => rfl
            | cons _ _ => rw [hd] at this; exact this.elim
          refine Steps.trans t1 (.one (step_leave_panicked ⟨rfl, hdl, func, ?_⟩))
          show P.funcs[b.fn]? = _
          rw [z2]; exact hf
      · cases h
    · cases h

noncomputable def callF (ng : Nat) (tab : Tab P) (F : Nat) (n : Nat) : CallT := Nat.rec (motive := fun _ => CallT) (fun _ _ _ _ => false) (fun _ C => stepC ng tab F C) n
theorem callF_ok {tab : Tab P} (hmix : P.follows .mixedOrders = true) {F : Nat} : ∀ n, CallOk P ng (callF ng tab F n)
  | 0 => fun _ _ _ _ _ h => by cases h
  | n + 1 => stepC_ok hmix (callF_ok hmix n)
end
end Go.Proofs.YthagammlhhnpnaaGreatDoor.Ev

/-
  Values and blocks with other numbers, and their comparison.
-/
namespace Go.Proofs.YthagammlhhnpnaaGreatDoor.Ev

/-! ### equality that is checked -/
noncomputable def oneq : Option Nat → Option Nat → Bool
  | none, none => true
  | some a, some b => Nat.beq a b
  | _, _ => false
theorem oneq_eq {a b : Option Nat} (h : oneq a b = true) : a = b := by
  cases a <;> cases b <;> simp only [oneq, Bool.false_eq_true] at h
  · rfl
  · rw [Nat.eq_of_beq_eq_true h]

mutual
noncomputable def veq : V → V → Bool
  | .int k a, .int k' b => decide (k = k') && ieq a b
  | .bool a, .bool b => a == b
  | .str s, .str t => nbeq s t
  | .ptr b o, .ptr b' o' => Nat.beq b b' && Nat.beq o o'
  | .nilp, .nilp | .nils, .nils | .emp, .emp | .nilm, .nilm | .nilf, .nilf | .nili, .nili => true
  | .slice b o es l c, .slice b' o' es' l' c' => Nat.beq b b' && (Nat.beq o o' && (Nat.beq es es' && (Nat.beq l l' && oneq c c')))
  | .mapv b, .mapv b' => Nat.beq b b'
  | .iface t v, .iface t' v' => Nat.beq t t' && veq v v'
  | .agg l, .agg m => veqs l m
  | .tup l, .tup m => veqs l m
  | _, _ => false
noncomputable def veqs : List V → List V → Bool
  | [], [] => true
  | v :: l, u :: m => veq v u && veqs l m
  | _, _ => false
end

mutual
theorem veq_eq : ∀ (a b : V), veq a b = true → a = b
  | .int k a, b, h => by
    cases b <;> simp only [veq, Bool.false_eq_true, Bool.and_eq_true, decide_eq_true_eq] at h
    obtain ⟨rfl, h⟩ := h
    rw [ieq_eq, beq_iff_eq] at h
    rw [h]
  | .bool a, b, h => by
    cases b <;> simp only [veq, Bool.false_eq_true, beq_iff_eq] at h
    rw [h]
  | .str s, b, h => by
    cases b <;> simp only [veq, Bool.false_eq_true] at h
    rw [nbeq_eq] at h
    rw [of_decide_eq_true h]
  | .ptr b o, u, h => by
    cases u <;> simp only [veq, Bool.false_eq_true, Bool.and_eq_true] at h
    rw [Nat.eq_of_beq_eq_true h.1, Nat.eq_of_beq_eq_true h.2]
  | .nilp, b, h => by cases b <;> first | rfl | (simp only [veq, Bool.false_eq_true] at h)
  | .nils, b, h => by cases b <;> first | rfl | (simp only [veq, Bool.false_eq_true] at h)
  | .emp, b, h => by cases b <;> first | rfl | (simp only [veq, Bool.false_eq_true] at h)
  | .nilm, b, h => by cases b <;> first | rfl | (simp only [veq, Bool.false_eq_true] at h)
  | .nilf, b, h => by cases b <;> first | rfl | (simp only [veq, Bool.false_eq_true] at h)
  | .nili, b, h => by cases b <;> first | rfl | (simp only [veq, Bool.false_eq_true] at h)
  | .slice b o es l c, u, h => by
    cases u <;> simp only [veq, Bool.false_eq_true, Bool.and_eq_true] at h
    obtain ⟨h1, h2, h3, h4, h5⟩ := h
    rw [Nat.eq_of_beq_eq_true h1, Nat.eq_of_beq_eq_true h2, Nat.eq_of_beq_eq_true h3, Nat.eq_of_beq_eq_true h4, oneq_eq h5]
  | .mapv b, u, h => by
    cases u <;> simp only [veq, Bool.false_eq_true] at h
    rw [Nat.eq_of_beq_eq_true h]
  | .iface t v, u, h => by
    cases u <;> simp only [veq, Bool.false_eq_true, Bool.and_eq_true] at h
    rw [Nat.eq_of_beq_eq_true h.1, veq_eq v _ h.2]
  | .agg l, u, h => by
    cases u <;> simp only [veq, Bool.false_eq_true] at h
    rw [veqs_eq l _ h]
  | .tup l, u, h => by
    cases u <;> simp only [veq, Bool.false_eq_true] at h
    rw [veqs_eq l _ h]
  | .func .., b, h => by cases b <;> simp only [veq, Bool.false_eq_true] at h
  | .yieldf _, b, h => by cases b <;> simp only [veq, Bool.false_eq_true] at h
  | .junk, b, h => by cases b <;> simp only [veq, Bool.false_eq_true] at h
theorem veqs_eq : ∀ (a b : List V), veqs a b = true → a = b
  | [], b, h => by cases b <;> first | rfl | (simp only [veqs, Bool.false_eq_true] at h)
  | v :: l, b, h => by
    cases b <;> simp only [veqs, Bool.false_eq_true, Bool.and_eq_true] at h
    rw [veq_eq v _ h.1, veqs_eq l _ h.2]
end

noncomputable def eseq : List (V × V × Nat) → List (V × V × Nat) → Bool
  | [], [] => true
  | (k, v, n) :: l, (k', v', n') :: m => veq k k' && (veq v v' && (Nat.beq n n' && eseq l m))
  | _, _ => false
theorem eseq_eq : ∀ (a b : List (V × V × Nat)), eseq a b = true → a = b
  | [], [], _ => rfl
  | [], _ :: _, h => by simp only [eseq, Bool.false_eq_true] at h
  | _ :: _, [], h => by simp only [eseq, Bool.false_eq_true] at h
  | (k, v, n) :: l, (k', v', n') :: m, h => by
    simp only [eseq, Bool.and_eq_true] at h
    obtain ⟨h1, h2, h3, h4⟩ := h
    rw [veq_eq _ _ h1, veq_eq _ _ h2, Nat.eq_of_beq_eq_true h3, eseq_eq l m h4]

noncomputable def obeq : Ob → Ob → Bool
  | .cells t vs sp fz, .cells t' vs' sp' fz' => Nat.beq t t' && (sp == sp' && (fz == fz' && veqs vs vs'))
  | .map es c, .map es' c' => Nat.beq c c' && eseq es es'
  | _, _ => false
theorem obeq_eq {a b : Ob} (h : obeq a b = true) : a = b := by
  cases a <;> cases b <;> simp only [obeq, Bool.false_eq_true, Bool.and_eq_true, beq_iff_eq] at h
  · obtain ⟨h1, h2, h3, h4⟩ := h
    rw [Nat.eq_of_beq_eq_true h1, h2, h3, veqs_eq _ _ h4]
  · rw [Nat.eq_of_beq_eq_true h.1, eseq_eq _ _ h.2]

/-! ### other numbers -/
mutual
def V.ren (ρ : Nat → Option Nat) : V → V
  | .ptr b o => match ρ b with | some b' => .ptr b' o | none => .junk
  | .slice b o es l c => match ρ b with | some b' => .slice b' o es l c | none => .junk
  | .mapv b => match ρ b with | some b' => .mapv b' | none => .junk
  | .yieldf _ => .junk
  | .func .. => .junk
  | .iface t v => .iface t (v.ren ρ)
  | .agg l => .agg (V.rens ρ l)
  | .tup l => .tup (V.rens ρ l)
  | v => v
def V.rens (ρ : Nat → Option Nat) : List V → List V
  | [] => []
  | v :: l => v.ren ρ :: V.rens ρ l
end

mutual
def V.renK (ρ : Nat → Option Nat) : V → (V → Bool) → Bool
  | .ptr b o, κ => match ρ b with | some b' => κ (.ptr b' o) | none => κ .junk
  | .slice b o es l c, κ => match ρ b with | some b' => κ (.slice b' o es l c) | none => κ .junk
  | .mapv b, κ => match ρ b with | some b' => κ (.mapv b') | none => κ .junk
  | .yieldf _, κ => κ .junk
  | .func .., κ => κ .junk
  | .iface t v, κ => v.renK ρ fun v' => κ (.iface t v')
  | .agg l, κ => V.rensK ρ l fun l' => κ (.agg l')
  | .tup l, κ => V.rensK ρ l fun l' => κ (.tup l')
  | v, κ => κ v
def V.rensK (ρ : Nat → Option Nat) : List V → (List V → Bool) → Bool
  | [], κ => κ []
  | v :: l, κ => v.renK ρ fun v' => V.rensK ρ l fun l' => κ (v' :: l')
end

mutual
theorem V.renK_eq (ρ : Nat → Option Nat) : ∀ (v : V) (κ : V → Bool), v.renK ρ κ = κ (v.ren ρ)
  | .ptr b o, κ => by simp only [V.renK, V.ren]; split <;> rfl
  | .slice b o es l c, κ => by simp only [V.renK, V.ren]; split <;> rfl
  | .mapv b, κ => by simp only [V.renK, V.ren]; split <;> rfl
  | .yieldf _, κ => by simp only [V.renK, V.ren]
  | .func .., κ => by simp only [V.renK, V.ren]
  | .iface t v, κ => by simp only [V.renK, V.ren, V.renK_eq ρ v]
  | .agg l, κ => by simp only [V.renK, V.ren, V.rensK_eq ρ l]
  | .tup l, κ => by simp only [V.renK, V.ren, V.rensK_eq ρ l]
  | .int .., κ | .bool _, κ | .str _, κ | .nilp, κ | .nils, κ | .emp, κ | .nilm, κ | .nilf, κ | .nili, κ | .junk, κ => by simp only [V.renK, V.ren]
theorem V.rensK_eq (ρ : Nat → Option Nat) : ∀ (l : List V) (κ : List V → Bool), V.rensK ρ l κ = κ (V.rens ρ l)
  | [], κ => by simp only [V.rensK, V.rens]
  | v :: l, κ => by simp only [V.rensK, V.rens, V.renK_eq ρ v, V.rensK_eq ρ l]
end

/-- the new numbers stand for what the old ones stood for -/
def RenOk (ρ : Nat → Option Nat) (e e' : Env) : Prop := ∀ i j, ρ i = some j → e.M i → e'.M j ∧ e'.blk j = e.blk i ∧ e'.size j = e.size i

mutual
theorem VR.ren {ρ : Nat → Option Nat} {e e' : Env} (h : RenOk ρ e e') : ∀ (v : V) (x : Value), VR e v x → VR e' (v.ren ρ) x
  | .ptr b o, x, r => by
    simp only [V.ren]
    split
    · rename_i b' hb
      simp only [VR] at r ⊢
      obtain ⟨h1, h2, h3⟩ := h b b' hb r.1
      exact ⟨h1, by rw [h2]; exact r.2⟩
    · simp only [VR]
  | .slice b o es len cap, x, r => by
    simp only [V.ren]
    split
    · rename_i b' hb
      simp only [VR] at r ⊢
      obtain ⟨r1, c, r2, r3, r4, r5, r6⟩ := r
      obtain ⟨h1, h2, h3⟩ := h b b' hb r1
      exact ⟨h1, c, by rw [h2]; exact r2, r3, by rw [h3]; exact r4, r5, by rw [h3]; exact r6⟩
    · simp only [VR]
  | .mapv b, x, r => by
    simp only [V.ren]
    split
    · rename_i b' hb
      simp only [VR] at r ⊢
      obtain ⟨h1, h2, h3⟩ := h b b' hb r.1
      exact ⟨h1, by rw [h2]; exact r.2⟩
    · simp only [VR]
  | .yieldf _, x, r => by simp only [V.ren, VR]
  | .func .., x, r => by simp only [V.ren, VR]
  | .iface t v, x, r => by
    simp only [V.ren, VR] at r ⊢
    obtain ⟨y, r1, r2⟩ := r
    exact ⟨y, r1, VR.ren h v y r2⟩
  | .agg l, x, r => by
    simp only [V.ren, VR] at r ⊢
    obtain ⟨a, r1, r2⟩ := r
    exact ⟨a, r1, VRs.ren h l _ r2⟩
  | .tup l, x, r => by
    simp only [V.ren, VR] at r ⊢
    obtain ⟨a, r1, r2⟩ := r
    exact ⟨a, r1, VRs.ren h l _ r2⟩
  | .int .., x, r | .bool _, x, r | .str _, x, r | .nilp, x, r | .nils, x, r | .emp, x, r | .nilm, x, r | .nilf, x, r | .nili, x, r | .junk, x, r => by simp only [V.ren]; first | (simp only [VR] at r ⊢; exact r) | simp only [VR]
theorem VRs.ren {ρ : Nat → Option Nat} {e e' : Env} (h : RenOk ρ e e') : ∀ (l : List V) (m : List Value), VRs e l m → VRs e' (V.rens ρ l) m
  | [], [], _ => by simp only [V.rens, VRs]
  | v :: l, x :: m, r => by
    simp only [V.rens, VRs] at r ⊢
    exact ⟨VR.ren h v x r.1, VRs.ren h l m r.2⟩
  | [], _ :: _, r => by simp only [VRs] at r
  | _ :: _, [], r => by simp only [VRs] at r
end

def esRen (ρ : Nat → Option Nat) : List (V × V × Nat) → List (V × V × Nat)
  | [] => []
  | (k, v, n) :: l => (k.ren ρ, v.ren ρ, n) :: esRen ρ l
theorem MRs.ren {ρ : Nat → Option Nat} {e e' : Env} (h : RenOk ρ e e') : ∀ {l : List (V × V × Nat)} {m : List MapEntry}, MRs e l m → MRs e' (esRen ρ l) m
  | [], [], _ => trivial
  | (_, _, _) :: _, _ :: _, r => ⟨⟨VR.ren h _ _ r.1.1, VR.ren h _ _ r.1.2.1, r.1.2.2⟩, MRs.ren h r.2⟩
  | [], _ :: _, r => r.elim
  | _ :: _, [], r => by simp only [MRs] at r

def Ob.ren (ρ : Nat → Option Nat) : Ob → Ob
  | .cells t vs sp fz => .cells t (V.rens ρ vs) sp fz
  | .map es c => .map (esRen ρ es) c
  | _ => .no

theorem OR.ren {ρ : Nat → Option Nat} {e e' : Env} (h : RenOk ρ e e') {ob : Ob} {i j : Nat} {o : Obj} (hs : e'.size j = e.size i) (r : OR e ob i o) : OR e' (ob.ren ρ) j o := by
  cases ob <;> first | trivial | skip
  · obtain ⟨c, fr, pre, post, r1, r2, r3, r4, r5⟩ := r
    exact ⟨c, fr, pre, post, r1, r2, VRs.ren h _ _ r3, by rw [hs]; exact r4, r5⟩
  · obtain ⟨xs, r1, r2⟩ := r
    exact ⟨xs, r1, r2.ren h⟩

noncomputable def esRenK (ρ : Nat → Option Nat) : List (V × V × Nat) → (List (V × V × Nat) → Bool) → Bool
  | [], κ => κ []
  | (k, v, n) :: l, κ => k.renK ρ fun k' => v.renK ρ fun v' => esRenK ρ l fun l' => κ ((k', v', n) :: l')
theorem esRenK_eq (ρ : Nat → Option Nat) : ∀ (l : List (V × V × Nat)) (κ : List (V × V × Nat) → Bool), esRenK ρ l κ = κ (esRen ρ l)
  | [], κ => rfl
  | (k, v, n) :: l, κ => by simp only [esRenK, esRen, V.renK_eq, esRenK_eq ρ l]
noncomputable def Ob.renK (ρ : Nat → Option Nat) (ob : Ob) (κ : Ob → Bool) : Bool :=
  match ob with
  | .cells t vs sp fz => V.rensK ρ vs fun vs' => κ (.cells t vs' sp fz)
  | .map es c => esRenK ρ es fun es' => κ (.map es' c)
  | _ => κ .no
theorem Ob.renK_eq (ρ : Nat → Option Nat) (ob : Ob) (κ : Ob → Bool) : ob.renK ρ κ = κ (ob.ren ρ) := by
  cases ob <;> simp only [Ob.renK, Ob.ren, V.rensK_eq, esRenK_eq]
end Go.Proofs.YthagammlhhnpnaaGreatDoor.Ev

/-
  The evaluator's calls with results that are known: a call that was evaluated once, from a memory that holds some blocks alone.
-/
namespace Go.Proofs.YthagammlhhnpnaaGreatDoor.Ev

/-- a call that was evaluated: from a memory of the blocks 'pre', numbers from 'lo' on being free; the result, and the new blocks that are kept -/
structure Memo where
  f : FuncId
  args : List V
  lo : Nat
  pre : List (Nat × Ob)
  keep : List (Nat × Ob)
  out : V

noncomputable def preOk (σ : St) : List (Nat × Ob) → Bool
  | [] => true
  | (b, ob) :: l => obeq (σ.at b) ob && preOk σ l
theorem preOk_spec {σ : St} : ∀ {l : List (Nat × Ob)}, preOk σ l = true → ∀ b ob, (b, ob) ∈ l → σ.at b = ob
  | [], _, _, _, h => by cases h
  | (b', ob') :: l, h, b, ob, hm => by
    simp only [preOk, Bool.and_eq_true] at h
    rcases List.mem_cons.1 hm with he | hm
    · simp only [Prod.mk.injEq] at he
      obtain ⟨rfl, rfl⟩ := he
      exact obeq_eq h.1
    · exact preOk_spec h.2 b ob hm

noncomputable def assoc : List (Nat × Nat) → Nat → Option Nat
  | [], _ => none
  | (a, b) :: l, x => bif Nat.beq a x then some b else assoc l x

noncomputable def renOf (lo : Nat) (tbl : List (Nat × Nat)) (i : Nat) : Option Nat := bif Nat.blt i lo then some i else assoc tbl i

noncomputable def tblK : List (Nat × Ob) → Nat → (List (Nat × Nat) → Bool) → Bool
  | [], _, κ => κ []
  | (r, _) :: l, n, κ => tblK l (Nat.succ n) fun t => κ ((r, n) :: t)
noncomputable def tblP : List (Nat × Ob) → Nat → List (Nat × Nat)
  | [], _ => []
  | (r, _) :: l, n => (r, n) :: tblP l (n + 1)
theorem tblK_eq : ∀ (l : List (Nat × Ob)) (n : Nat) (κ : List (Nat × Nat) → Bool), tblK l n κ = κ (tblP l n)
  | [], _, _ => rfl
  | (r, _) :: l, n, κ => by simp only [tblK, tblP, tblK_eq l]

theorem assoc_tbl : ∀ (l : List (Nat × Ob)) (n i j : Nat), assoc (tblP l n) i = some j → ∃ k ob, l[k]? = some (i, ob) ∧ j = n + k
  | [], _, _, _, h => by cases h
  | (r, ob) :: l, n, i, j, h => by
    simp only [tblP, assoc, cond_eq_ite] at h
    split at h
    · rename_i hb
      have := Nat.eq_of_beq_eq_true hb
      subst this
      simp only [Option.some.injEq] at h
      exact ⟨0, ob, by simp, by omega⟩
    · obtain ⟨k, ob', h1, h2⟩ := assoc_tbl l (n + 1) i j h
      exact ⟨k + 1, ob', by simpa using h1, by omega⟩

noncomputable def keepK (ρ : Nat → Option Nat) : List (Nat × Ob) → St → (St → Bool) → Bool
  | [], σ, κ => κ σ
  | (_, ob) :: l, σ, κ => ob.renK ρ fun ob' => σ.newK ob' fun _ σ' => keepK ρ l σ' κ

theorem keepK_goes (ρ : Nat → Option Nat) : ∀ (l : List (Nat × Ob)) (σ : St) (κ : St → Bool), AWf σ → keepK ρ l σ κ = true →
    ∃ σ', κ σ' = true ∧ AWf σ' ∧ AExt σ σ' ∧ σ'.next = σ.next + l.length ∧ (∀ i, i < σ.next → σ'.at i = σ.at i) ∧ ∀ k r ob, l[k]? = some (r, ob) → σ'.at (σ.next + k) = ob.ren ρ
  | [], σ, κ, hwf, h => ⟨σ, h, hwf, .refl σ, rfl, fun _ _ => rfl, by simp⟩
  | (r, ob) :: l, σ, κ, hwf, h => by
    simp only [keepK, Ob.renK_eq] at h
    obtain ⟨hlt, hk⟩ := newK_eq h
    obtain ⟨h1, h2⟩ := AExt.more hwf hlt (ob.ren ρ)
    obtain ⟨σ', k1, k2, k3, k4, k5, k6⟩ := keepK_goes ρ l (σ.more (ob.ren ρ)) κ h1 hk
    have hn : (σ.more (ob.ren ρ)).next = σ.next + 1 := rfl
    rw [hn] at k4 k5 k6
    refine ⟨σ', k1, k2, h2.trans k3, by rw [k4, List.length_cons]; omega, fun i hi => ?_, fun k r' ob' hk' => ?_⟩
    · rw [k5 i (by omega)]
      show (σ.put σ.next (ob.ren ρ)).at i = _
      rw [St.at_put _ _ _ _ hlt (by omega), if_neg (by omega)]
    · cases k with
      | zero =>
        simp at hk'
        obtain ⟨rfl, rfl⟩ := hk'
        rw [Nat.add_zero, k5 _ (by omega)]
        show (σ.put σ.next (ob.ren ρ)).at σ.next = _
        rw [St.at_put _ _ _ _ hlt hlt, if_pos rfl]
      | succ k =>
        have := k6 k r' ob' (by simpa using hk')
        rw [← this]
        congr 1
        omega

section
variable {P : Program} {ng : Nat}

/-- what is known of such a call -/
structure MemoOk (P : Program) (ng : Nat) (m : Memo) : Prop where
  ngLo : ng ≤ m.lo
  dhLo : m.lo ≤ 2 ^ dh
  keepNo : ∀ r ob, (r, ob) ∈ m.keep → ob.isNo = false
  argsBd : V.bds m.lo m.args = true
  preBd : ∀ b ob, (b, ob) ∈ m.pre → b < m.lo ∧ obBd m.lo ob = true
  nodup : ∀ (k l : Nat) (r : Nat) (a b : Ob), m.keep[k]? = some (r, a) → m.keep[l]? = some (r, b) → k = l
  does : ∃ σ0 σ' u u', σ0.next = m.lo ∧ AWf σ0 ∧ (∀ i, i < m.lo → (σ0.at i).isNo = false → (i, σ0.at i) ∈ m.pre) ∧ (∀ b ob, (b, ob) ∈ m.pre → σ'.at b = ob) ∧
    (∀ r ob, (r, ob) ∈ m.keep → m.lo ≤ r ∧ σ'.at r = ob) ∧ EntDoes P ng (.fn m.f m.args false) u σ0 (.ret m.out) u' σ'

noncomputable def memoOf (ms : List Memo) (f : FuncId) (args : List V) (σ : St) : Option Memo :=
  match ms with
  | [] => none
  | m :: l => bif Nat.beq m.f f && (veqs m.args args && (Nat.ble m.lo σ.next && preOk σ m.pre)) then some m else memoOf l f args σ

theorem memoOf_spec {f : FuncId} {args : List V} {σ : St} {m : Memo} : ∀ {ms : List Memo}, memoOf ms f args σ = some m → m ∈ ms ∧ m.f = f ∧ m.args = args ∧ m.lo ≤ σ.next ∧ ∀ b ob, (b, ob) ∈ m.pre → σ.at b = ob
  | [], h => by cases h
  | m' :: l, h => by
    simp only [memoOf, cond_eq_ite] at h
    split at h
    · rename_i hc
      simp only [Bool.and_eq_true] at hc
      obtain ⟨h1, h2, h3, h4⟩ := hc
      simp only [Option.some.injEq] at h
      subst h
      exact ⟨by simp, Nat.eq_of_beq_eq_true h1, veqs_eq _ _ h2, Nat.le_of_ble_eq_true h3, fun b ob hm => preOk_spec h4 b ob hm⟩
    · obtain ⟨h1, h2⟩ := memoOf_spec h
      exact ⟨by simp [h1], h2⟩

/-- the calls of one function -/
noncomputable def groupOf : List (Nat × List Memo) → FuncId → List Memo
  | [], _ => []
  | (g, l) :: r, f => bif Nat.beq g f then l else groupOf r f
theorem groupOf_spec {f : FuncId} {m : Memo} : ∀ {ms : List (Nat × List Memo)}, m ∈ groupOf ms f → ∃ p ∈ ms, m ∈ p.2
  | [], h => by cases h
  | (g, l) :: r, h => by
    simp only [groupOf, cond_eq_ite] at h
    split at h
    · exact ⟨(g, l), by simp, h⟩
    · obtain ⟨p, h1, h2⟩ := groupOf_spec h
      exact ⟨p, by simp [h1], h2⟩

noncomputable def memoK (ms : List (Nat × List Memo)) (C : CallT) : CallT := fun ent u σ κ =>
  match ent with
  | .fn f args false =>
    match memoOf (groupOf ms f) f args σ with
    | some m => tblK m.keep σ.next fun tbl => keepK (renOf m.lo tbl) m.keep σ fun σ' => m.out.renK (renOf m.lo tbl) fun v => κ (.ret v) u σ'
    | none => C (.fn f args false) u σ κ
  | ent => C ent u σ κ

theorem memo_does {m : Memo} (hm : MemoOk P ng m) {σ σ' : St} (_hwf : AWf σ) (_hlo : m.lo ≤ σ.next) (hpre : ∀ b ob, (b, ob) ∈ m.pre → σ.at b = ob)
    (a1 : AWf σ') (a2 : AExt σ σ') (a3 : σ'.next = σ.next + m.keep.length) (a4 : ∀ i, i < σ.next → σ'.at i = σ.at i) (a5 : ∀ k r ob, m.keep[k]? = some (r, ob) → σ'.at (σ.next + k) = ob.ren (renOf m.lo (tblP m.keep σ.next))) (u u' : U) :
    EntDoes P ng (.fn m.f m.args false) u σ (.ret (m.out.ren (renOf m.lo (tblP m.keep σ.next)))) u' σ' := by
  obtain ⟨σ0, σ1, _, _, c1, c2, c3, c4, c5, c6⟩ := hm.does
  intro base e w ARGS hroom hnb hr hg ha cs
  -- the part of the memory that the call knew
  have hrel0 : Rel ng base (e.cut m.lo) σ0 w := by
    refine ⟨c2.next, fun i hi => by rw [c1]; exact hi.2, fun i hi => hr.there i hi.1, fun i hi hno => ?_, fun i j hi hj hni hnj he => ?_, fun i hi => hr.own i hi.1, c2.fresh⟩
    · have hp := c3 i hi.2 hno
      have hat := hpre _ _ hp
      obtain ⟨o, o1, o2⟩ := hr.obj i hi.1 (by rw [hat]; exact hno)
      rw [hat] at o2
      exact ⟨o, o1, OR.cut o2 (hm.preBd _ _ hp).2 (Nat.le_refl _)⟩
    · have h1 := hpre _ _ (c3 i hi.2 hni)
      have h2 := hpre _ _ (c3 j hj.2 hnj)
      exact hr.inj i j hi.1 hj.1 (by rw [h1]; exact hni) (by rw [h2]; exact hnj) he
  have hglob0 : GE ng (e.cut m.lo) := fun g hgn => ⟨⟨(hg g hgn).1, Nat.lt_of_lt_of_le hgn hm.ngLo⟩, (hg g hgn).2⟩
  obtain ⟨e1, w1, fr, E, d1, d2, d3, d4, d5, d6⟩ := c6 base (e.cut m.lo) w ARGS hroom hnb hrel0 hglob0 (VRs.cut _ _ hm.argsBd ha) cs
  have hsz := d6.size
  -- old numbers
  have hold : ∀ i, e1.M i → i < m.lo → e.M i ∧ e1.blk i = e.blk i ∧ e1.size i = e.size i := by
    intro i hi hlt
    have h0 : (e.cut m.lo).M i := by
      by_cases hc : (e.cut m.lo).M i
      · exact hc
      · have := d6.newer i hi hc
        rw [c1] at this
        omega
    obtain ⟨_, h2, h3⟩ := d6.le.mono i h0
    exact ⟨h0.1, h2, h3⟩
  -- new blocks lie behind
  have hbeh : ∀ (k r : Nat) (ob : Ob), m.keep[k]? = some (r, ob) → e1.M r → w.heap.size ≤ e1.blk r := by
    intro k r ob hk hM
    have hno := hm.keepNo r ob (List.mem_of_getElem? hk)
    obtain ⟨g1, g2⟩ := c5 r ob (List.mem_of_getElem? hk)
    rcases Nat.lt_or_ge (e1.blk r) w.heap.size with hlt | hge
    · exfalso
      obtain ⟨j, j1, j2, j3, j4⟩ := d6.orig r hM (by rw [g2]; exact hno) (Nat.le_trans hm.ngLo g1) hlt
      have hp := c3 j j1.2 j2
      have hj1 : σ1.at j = σ0.at j := c4 _ _ hp
      obtain ⟨q1, q2, _⟩ := d6.le.mono j j1
      have := d5.inj j r q1 hM (by rw [hj1]; exact j2) (by rw [g2]; exact hno) (by rw [q2, j4])
      have := j1.2
      omega
    · exact hge
  -- the new environment
  let n := σ.next
  let R : Nat → Option (Nat × Ob) := fun i => m.keep[i - n]?
  let e2 : Env := { M := fun i => e.M i ∨ (n ≤ i ∧ ∃ p, R i = some p ∧ e1.M p.1), blk := fun i => if i < n then e.blk i else match R i with | some p => e1.blk p.1 | none => 0, size := fun i => if i < n then e.size i else match R i with | some p => e1.size p.1 | none => 0 }
  have hlim : ∀ i, e.M i → i < n := fun i hi => hr.lim i hi
  have hle : e.le e2 := ⟨fun i hi => ⟨.inl hi, if_pos (hlim i hi), if_pos (hlim i hi)⟩⟩
  have hle1 : (e1.cut m.lo).le e2 := ⟨fun i hi => by
    obtain ⟨h1, h2, h3⟩ := hold i hi.1 hi.2
    obtain ⟨g1, g2, g3⟩ := hle.mono i h1
    exact ⟨g1, by rw [g2]; exact h2.symm, by rw [g3]; exact h3.symm⟩⟩
  have hnew : ∀ k r ob, m.keep[k]? = some (r, ob) → e1.M r → e2.M (n + k) ∧ e2.blk (n + k) = e1.blk r ∧ e2.size (n + k) = e1.size r := by
    intro k r ob hk hM
    have hR : R (n + k) = some (r, ob) := by show m.keep[n + k - n]? = _; rw [Nat.add_sub_cancel_left]; exact hk
    refine ⟨.inr ⟨Nat.le_add_right _ _, (r, ob), hR, hM⟩, ?_, ?_⟩
    · show (if n + k < n then _ else match R (n + k) with | some p => e1.blk p.1 | none => 0) = _
      rw [if_neg (by omega), hR]
    · show (if n + k < n then _ else match R (n + k) with | some p => e1.size p.1 | none => 0) = _
      rw [if_neg (by omega), hR]
  have hinv : ∀ i, e2.M i → (e.M i ∧ e2.blk i = e.blk i ∧ i < n) ∨ ∃ k r ob, m.keep[k]? = some (r, ob) ∧ i = n + k ∧ e1.M r ∧ e2.blk i = e1.blk r ∧ e2.size i = e1.size r := by
    intro i hi
    rcases hi with hi | ⟨hi, ⟨r, ob⟩, hp, hM⟩
    · exact .inl ⟨hi, (hle.mono i hi).2.1, hlim i hi⟩
    · have hk : m.keep[i - n]? = some (r, ob) := hp
      have he : i = n + (i - n) := by omega
      obtain ⟨_, h2, h3⟩ := hnew (i - n) r ob hk hM
      rw [← he] at h2 h3
      exact .inr ⟨i - n, r, ob, hk, he, hM, h2, h3⟩
  have hren : RenOk (renOf m.lo (tblP m.keep n)) e1 e2 := by
    intro i j hij hM
    unfold renOf at hij
    rw [cond_eq_ite] at hij
    split at hij
    · rename_i hlt
      simp only [Option.some.injEq] at hij
      subst hij
      obtain ⟨h1, h2, h3⟩ := hold i hM (blt_lt hlt)
      obtain ⟨g1, g2, g3⟩ := hle.mono i h1
      exact ⟨g1, g2.trans h2.symm, g3.trans h3.symm⟩
    · obtain ⟨k, ob, hk, rfl⟩ := assoc_tbl _ _ _ _ hij
      exact hnew k i ob hk hM
  have hlen : ∀ k r ob, m.keep[k]? = some (r, ob) → k < m.keep.length := fun k r ob hk => (List.getElem?_eq_some_iff.1 hk).1
  have hrel : Rel ng base e2 σ' w1 := by
    refine ⟨a1.next, fun i hi => ?_, fun i hi => ?_, fun i hi hno => ?_, fun i j hi hj hni hnj he => ?_, fun i hi hgi => ?_, a1.fresh⟩
    · rw [a3]
      rcases hinv i hi with ⟨_, _, h⟩ | ⟨k, r, ob, hk, rfl, _⟩
      · exact Nat.lt_of_lt_of_le h (Nat.le_add_right _ _)
      · have := hlen k r ob hk
        show σ.next + k < _
        omega
    · rcases hinv i hi with ⟨h, hb, _⟩ | ⟨k, r, ob, hk, rfl, hM, hb, _⟩
      · rw [hb]; exact Nat.lt_of_lt_of_le (hr.there i h) hsz
      · rw [hb]; exact d5.there r hM
    · rcases hinv i hi with ⟨h, hb, hlt⟩ | ⟨k, r, ob, hk, rfl, hM, hb, hs⟩
      · rw [a4 i hlt] at hno ⊢
        rw [hb]
        by_cases hc : ∃ j, (e.cut m.lo).M j ∧ (σ0.at j).isNo = false ∧ ng ≤ j ∧ (e.cut m.lo).blk j = e.blk i
        · obtain ⟨j, j1, j2, j3, j4⟩ := hc
          have hp := c3 j j1.2 j2
          have hat := hpre _ _ hp
          have hij := hr.inj i j h j1.1 hno (by rw [hat]; exact j2) j4.symm
          subst hij
          have h1at : σ1.at i = σ0.at i := c4 _ _ hp
          obtain ⟨q1, q2, _⟩ := d6.le.mono i j1
          obtain ⟨o, o1, o2⟩ := d5.obj i q1 (by rw [h1at]; exact j2)
          rw [q2] at o1
          refine ⟨o, o1, ?_⟩
          rw [h1at] at o2
          rw [hat]
          exact (OR.cut o2 (hm.preBd _ _ hp).2 (Nat.le_refl _)).mono hle1 ⟨q1, j1.2⟩
        · obtain ⟨o, o1, o2⟩ := hr.obj i h hno
          refine ⟨o, ?_, o2.mono hle h⟩
          rw [d6.kept _ (hr.there i h) fun j j1 j2 j3 j4 => hc ⟨j, j1, j2, j3, j4⟩]
          exact o1
      · have hat := a5 k r ob hk
        have hat' : σ'.at (n + k) = ob.ren (renOf m.lo (tblP m.keep σ.next)) := hat
        rw [hat', hb]
        obtain ⟨_, g2⟩ := c5 r ob (List.mem_of_getElem? hk)
        obtain ⟨o, o1, o2⟩ := d5.obj r hM (by rw [g2]; exact hm.keepNo r ob (List.mem_of_getElem? hk))
        rw [g2] at o2
        exact ⟨o, o1, OR.ren hren hs o2⟩
    · rcases hinv i hi with ⟨h, hb, hlt⟩ | ⟨k, r, ob, hk, rfl, hM, hb, hs⟩
      · rcases hinv j hj with ⟨h', hb', hlt'⟩ | ⟨k', r', ob', hk', rfl, hM', hb', _⟩
        · rw [a4 i hlt] at hni
          rw [a4 j hlt'] at hnj
          exact hr.inj i j h h' hni hnj (by rw [← hb, ← hb', he])
        · exfalso
          have h1 := hr.there i h
          have h2 := hbeh k' r' ob' hk' hM'
          rw [hb, hb'] at he
          omega
      · rcases hinv j hj with ⟨h', hb', hlt'⟩ | ⟨k', r', ob', hk', rfl, hM', hb', _⟩
        · exfalso
          have h1 := hr.there j h'
          have h2 := hbeh k r ob hk hM
          rw [hb, hb'] at he
          omega
        · obtain ⟨_, g2⟩ := c5 r ob (List.mem_of_getElem? hk)
          obtain ⟨_, g2'⟩ := c5 r' ob' (List.mem_of_getElem? hk')
          have hrr := d5.inj r r' hM hM' (by rw [g2]; exact hm.keepNo r ob (List.mem_of_getElem? hk)) (by rw [g2']; exact hm.keepNo r' ob' (List.mem_of_getElem? hk')) (by rw [← hb, ← hb', he])
          subst hrr
          have := hm.nodup k k' r ob ob' hk hk'
          omega
    · rcases hinv i hi with ⟨h, hb, hlt⟩ | ⟨k, r, ob, hk, rfl, hM, hb, hs⟩
      · rw [hb]; exact hr.own i h hgi
      · rw [hb]; exact Nat.le_trans hroom (hbeh k r ob hk hM)
  refine ⟨e2, w1, fr, E, d1, d2, d3, ?_, hrel, ⟨hle, a2.next, hsz, fun i h1 h2 => ?_, fun b hb hno => ?_, fun i h1 h2 h3 h4 => ?_, a2.logs, a2.looks, d6.os, d6.output, d6.tape⟩⟩
  · cases E with
    | returned z => exact VR.ren hren _ _ d4
    | panicked _ => exact d4.elim
    | outgrown => exact d4.elim
  · rcases hinv i h1 with ⟨h, _, _⟩ | ⟨k, r, ob, hk, rfl, _⟩
    · exact absurd h h2
    · exact Nat.le_add_right _ _
  · exact d6.kept b hb fun j j1 j2 j3 => hno j j1.1 (by rw [hpre _ _ (c3 j j1.2 j2)]; exact j2) j3
  · rcases hinv i h1 with ⟨h, hb, hlt⟩ | ⟨k, r, ob, hk, rfl, hM, hb, _⟩
    · rw [a4 i hlt] at h2
      exact ⟨i, h, h2, h3, hb.symm⟩
    · exfalso
      have := hbeh k r ob hk hM
      rw [hb] at h4
      omega

theorem memoK_ok {ms : List (Nat × List Memo)} (hms : ∀ p ∈ ms, ∀ m ∈ p.2, MemoOk P ng m) {C : CallT} (hC : CallOk P ng C) : CallOk P ng (memoK ms C) := by
  intro ent u σ κ hwf h
  unfold memoK at h
  split at h
  · rename_i f args
    split at h
    · rename_i m hm
      obtain ⟨h1, rfl, rfl, h4, h5⟩ := memoOf_spec hm
      rw [tblK_eq] at h
      obtain ⟨σ', k1, k2, k3, k4, k5, k6⟩ := keepK_goes _ _ _ _ hwf h
      rw [V.renK_eq] at k1
      obtain ⟨p, hp1, hp2⟩ := groupOf_spec h1
      exact ⟨_, u, σ', k1, k2, k3, memo_does (hms p hp1 m hp2) hwf h4 h5 k2 k3 k4 k5 k6 u u⟩
    · exact hC _ _ _ _ hwf h
  · exact hC _ _ _ _ hwf h

noncomputable def callG (ng : Nat) (tab : Tab P) (F : Nat) (ms : List (Nat × List Memo)) (n : Nat) : CallT :=
  Nat.rec (motive := fun _ => CallT) (fun _ _ _ _ => false) (fun _ C => memoK ms (stepC ng tab F C)) n
theorem callG_ok {tab : Tab P} (hmix : P.follows .mixedOrders = true) {F : Nat} {ms : List (Nat × List Memo)} (hms : ∀ p ∈ ms, ∀ m ∈ p.2, MemoOk P ng m) : ∀ n, CallOk P ng (callG ng tab F ms n)
  | 0 => fun _ _ _ _ _ h => by cases h
  | n + 1 => memoK_ok hms (stepC_ok hmix (callG_ok hmix hms n))

def MlOk (P : Program) (ng : Nat) : List Memo → Prop
  | [] => True
  | m :: l => MemoOk P ng m ∧ MlOk P ng l
def MsOk (P : Program) (ng : Nat) : List (Nat × List Memo) → Prop
  | [] => True
  | p :: r => MlOk P ng p.2 ∧ MsOk P ng r
theorem MlOk.all : ∀ {l : List Memo}, MlOk P ng l → ∀ m ∈ l, MemoOk P ng m
  | [], _, _, h => by cases h
  | m' :: l, h, m, hm => by
    rcases List.mem_cons.1 hm with rfl | hm
    · exact h.1
    · exact MlOk.all h.2 m hm
theorem MsOk.all : ∀ {ms : List (Nat × List Memo)}, MsOk P ng ms → ∀ p ∈ ms, ∀ m ∈ p.2, MemoOk P ng m
  | [], _, _, h, _, _ => by cases h
  | p' :: r, h, p, hp, m, hm => by
    rcases List.mem_cons.1 hp with rfl | hp
    · exact h.1.all m hm
    · exact MsOk.all h.2 p hp m hm

/-! ### how such a call is evaluated -/
noncomputable def preK : List (Nat × Ob) → T Ob → (T Ob → Bool) → Bool
  | [], h, κ => κ h
  | (b, ob) :: l, h, κ => T.setK .no ob Go.Proofs.YthagammlhhnpnaaGreatDoor.Ev.dh b h fun h' => preK l h' κ
noncomputable def preP : List (Nat × Ob) → T Ob → T Ob
  | [], h => h
  | (b, ob) :: l, h => preP l (T.set .no ob Go.Proofs.YthagammlhhnpnaaGreatDoor.Ev.dh b h)
theorem preK_eq : ∀ (l : List (Nat × Ob)) (h : T Ob) (κ : T Ob → Bool), preK l h κ = κ (preP l h)
  | [], _, _ => rfl
  | (b, ob) :: l, h, κ => by simp only [preK, preP, T.setK_eq, preK_eq l]
theorem preP_get : ∀ (l : List (Nat × Ob)) (h : T Ob) (i : Nat), (∀ b ob, (b, ob) ∈ l → b < 2 ^ Go.Proofs.YthagammlhhnpnaaGreatDoor.Ev.dh) → i < 2 ^ Go.Proofs.YthagammlhhnpnaaGreatDoor.Ev.dh → (i, T.get .no Go.Proofs.YthagammlhhnpnaaGreatDoor.Ev.dh (preP l h) i) ∈ l ∨ T.get .no Go.Proofs.YthagammlhhnpnaaGreatDoor.Ev.dh (preP l h) i = T.get .no Go.Proofs.YthagammlhhnpnaaGreatDoor.Ev.dh h i
  | [], _, _, _, _ => .inr rfl
  | (b, ob) :: l, h, i, hb, hi => by
    simp only [preP]
    rcases preP_get l (T.set .no ob Go.Proofs.YthagammlhhnpnaaGreatDoor.Ev.dh b h) i (fun b' ob' hm => hb b' ob' (by simp [hm])) hi with h1 | h1
    · exact .inl (by simp [h1])
    · rw [h1, T.get_set _ _ _ _ _ _ (hb b ob (by simp)) hi]
      by_cases he : i = b
      · subst he
        exact .inl (by simp)
      · exact .inr (by simp [he])

noncomputable def keepOk (σ : St) (lo : Nat) : List (Nat × Ob) → Bool
  | [] => true
  | (r, ob) :: l => Nat.ble lo r && (obeq (σ.at r) ob && (!ob.isNo && keepOk σ lo l))
noncomputable def asc : Nat → List (Nat × Ob) → Bool
  | _, [] => true
  | n, (r, _) :: l => Nat.ble n r && asc (Nat.succ r) l
noncomputable def preBdB (lo : Nat) : List (Nat × Ob) → Bool
  | [] => true
  | (b, ob) :: l => Nat.blt b lo && (obBd lo ob && preBdB lo l)

theorem asc_ge : ∀ {l : List (Nat × Ob)} {n : Nat}, asc n l = true → ∀ (k r : Nat) (ob : Ob), l[k]? = some (r, ob) → n + k ≤ r
  | [], _, _, _, _, _, hk => by simp at hk
  | (r', _) :: l, n, h, k, r, ob, hk => by
    simp only [asc, Bool.and_eq_true] at h
    have h1 := Nat.le_of_ble_eq_true h.1
    cases k with
    | zero => simp at hk; omega
    | succ k => have := asc_ge h.2 k r ob (by simpa using hk); omega
theorem asc_inj : ∀ {l : List (Nat × Ob)} {n : Nat}, asc n l = true → ∀ (k k' r : Nat) (a b : Ob), l[k]? = some (r, a) → l[k']? = some (r, b) → k = k'
  | [], _, _, _, _, _, _, _, hk, _ => by simp at hk
  | (r', _) :: l, n, h, k, k', r, a, b, hk, hk' => by
    simp only [asc, Bool.and_eq_true] at h
    cases k with
    | zero =>
      cases k' with
      | zero => rfl
      | succ k' =>
        have := asc_ge h.2 k' r b (by simpa using hk')
        simp at hk
        omega
    | succ k =>
      cases k' with
      | zero =>
        have := asc_ge h.2 k r a (by simpa using hk)
        simp at hk'
        omega
      | succ k' =>
        have := asc_inj h.2 k k' r a b (by simpa using hk) (by simpa using hk')
        omega
theorem keepOk_spec {σ : St} {lo : Nat} : ∀ {l : List (Nat × Ob)}, keepOk σ lo l = true → ∀ r ob, (r, ob) ∈ l → lo ≤ r ∧ σ.at r = ob ∧ ob.isNo = false
  | [], _, _, _, h => by cases h
  | (r', ob') :: l, h, r, ob, hm => by
    simp only [keepOk, Bool.and_eq_true, Bool.not_eq_true'] at h
    rcases List.mem_cons.1 hm with he | hm
    · simp only [Prod.mk.injEq] at he
      obtain ⟨rfl, rfl⟩ := he
      exact ⟨Nat.le_of_ble_eq_true h.1, obeq_eq h.2.1, h.2.2.1⟩
    · exact keepOk_spec h.2.2.2 r ob hm
theorem preBdB_spec {lo : Nat} : ∀ {l : List (Nat × Ob)}, preBdB lo l = true → ∀ b ob, (b, ob) ∈ l → b < lo ∧ obBd lo ob = true
  | [], _, _, _, h => by cases h
  | (b', ob') :: l, h, b, ob, hm => by
    simp only [preBdB, Bool.and_eq_true] at h
    rcases List.mem_cons.1 hm with he | hm
    · simp only [Prod.mk.injEq] at he
      obtain ⟨rfl, rfl⟩ := he
      exact ⟨blt_lt h.1, h.2.1⟩
    · exact preBdB_spec h.2.2 b ob hm

/-- the call, evaluated, and all that is to be checked -/
noncomputable def memoRun (C : CallT) (ng : Nat) (m : Memo) : Bool :=
  (Nat.ble ng m.lo && (Nat.ble m.lo (2 ^ Go.Proofs.YthagammlhhnpnaaGreatDoor.Ev.dh) && (V.bds m.lo m.args && (preBdB m.lo m.pre && asc m.lo m.keep)))) &&
  preK m.pre .nil fun h => C (.fn m.f m.args false) .none { heap := h, next := m.lo, log := [] } fun out _ σ' =>
    match out with
    | .ret v => veq v m.out && (preOk σ' m.pre && keepOk σ' m.lo m.keep)
    | .pan _ => false

theorem memoRun_ok {C : CallT} (hC : CallOk P ng C) {m : Memo} (h : memoRun C ng m = true) : MemoOk P ng m := by
  unfold memoRun at h
  rw [Bool.and_eq_true] at h
  obtain ⟨h0, h⟩ := h
  simp only [Bool.and_eq_true] at h0
  obtain ⟨h1, h2, h3, h4, h5⟩ := h0
  rw [preK_eq] at h
  have hpb := fun b ob hm => preBdB_spec h4 b ob hm
  have hdh := Nat.le_of_ble_eq_true h2
  have hb2 : ∀ b ob, (b, ob) ∈ m.pre → b < 2 ^ Go.Proofs.YthagammlhhnpnaaGreatDoor.Ev.dh := fun b ob hm => Nat.lt_of_lt_of_le (hpb b ob hm).1 hdh
  have hget := fun i hi => preP_get m.pre .nil i hb2 hi
  have hwf : AWf { heap := preP m.pre .nil, next := m.lo, log := [] } := by
    refine ⟨hdh, fun i hi hi2 => ?_⟩
    have hi' : m.lo ≤ i := hi
    rcases hget i hi2 with hq | hq
    · have := (hpb _ _ hq).1; omega
    · show T.get .no Go.Proofs.YthagammlhhnpnaaGreatDoor.Ev.dh (preP m.pre .nil) i = _
      rw [hq, T.get_nil]
  obtain ⟨out, u', σ', k1, k2, k3, k4⟩ := hC _ _ _ _ hwf h
  cases out with
  | pan ch => cases k1
  | ret v =>
    simp only [Bool.and_eq_true] at k1
    obtain ⟨q1, q2, q3⟩ := k1
    have hv := veq_eq _ _ q1
    subst hv
    refine ⟨Nat.le_of_ble_eq_true h1, hdh, fun r ob hm => (keepOk_spec q3 r ob hm).2.2, h3, hpb, fun k l r a b hk hl => asc_inj h5 k l r a b hk hl,
      ⟨_, σ', .none, u', rfl, hwf, fun i hi hno => ?_, fun b ob hm => preOk_spec q2 b ob hm, fun r ob hm => ⟨(keepOk_spec q3 r ob hm).1, (keepOk_spec q3 r ob hm).2.1⟩, k4⟩⟩
    rcases hget i (Nat.lt_of_lt_of_le hi hdh) with hq | hq
    · exact hq
    · exfalso
      have : ({ heap := preP m.pre .nil, next := m.lo, log := [] } : St).at i = .no := by
        show T.get .no Go.Proofs.YthagammlhhnpnaaGreatDoor.Ev.dh (preP m.pre .nil) i = _
        rw [hq, T.get_nil]
      rw [this] at hno
      cases hno
end
end Go.Proofs.YthagammlhhnpnaaGreatDoor.Ev

/-
  The evaluator's tables: a trie of facts, and the functions without a body that touch no memory.
-/
namespace Go.Proofs.YthagammlhhnpnaaGreatDoor.Ev

/-! ### a trie of facts -/
def AllT {α : Type} (Q : Nat → α → Prop) : Nat → Nat → Nat → T α → Prop
  | _, _, _, .nil => True
  | 0, k, _, .node v _ _ => Q k v
  | d + 1, k, s, .node _ l r => AllT Q d k (2 * s) l ∧ AllT Q d (k + s) (2 * s) r

theorem AllT.get {α : Type} {Q : Nat → Option α → Prop} : ∀ (d k s : Nat) (t : T (Option α)), AllT Q d k s t → ∀ j, j < 2 ^ d → ∀ x, T.get none d t j = some x → Q (k + s * j) (some x)
  | d, _, _, .nil, _, j, _, x, h => by rw [T.get_nil] at h; cases h
  | 0, k, s, .node v l r, hq, j, hj, x, h => by
    have hj0 : j = 0 := by simpa using hj
    subst hj0
    rw [T.get_zero] at h
    simp only at h
    subst h
    simpa [AllT] using hq
  | d + 1, k, s, .node v l r, hq, j, hj, x, h => by
    rw [T.get_succ] at h
    simp only at h
    have hj' : j / 2 < 2 ^ d := by rw [Nat.pow_succ] at hj; omega
    obtain ⟨h1, h2⟩ := hq
    by_cases h0 : j % 2 = 0
    · rw [if_pos h0] at h
      have := AllT.get d k (2 * s) l h1 (j / 2) hj' x h
      have e : k + 2 * s * (j / 2) = k + s * j := by
        have : j = 2 * (j / 2) := by omega
        rw [Nat.mul_comm 2 s, Nat.mul_assoc, ← this]
      rwa [e] at this
    · rw [if_neg h0] at h
      have := AllT.get d (k + s) (2 * s) r h2 (j / 2) hj' x h
      have e : k + s + 2 * s * (j / 2) = k + s * j := by
        have : j = 2 * (j / 2) + 1 := by omega
        rw [Nat.mul_comm 2 s, Nat.mul_assoc]
        conv => rhs; rw [this, Nat.mul_add, Nat.mul_one]
        omega
      rwa [e] at this

/-- a look into a trie of nine bits -/
noncomputable def look9 {α : Type} (t : T (Option α)) (j : Nat) : Option α := bif Nat.blt j 512 then T.get none 9 t j else none
theorem look9_spec {α : Type} {Q : Nat → Option α → Prop} {t : T (Option α)} (h : AllT Q 9 0 1 t) {j : Nat} {x : α} (hx : look9 t j = some x) : Q j (some x) := by
  unfold look9 at hx
  rw [cond_eq_ite] at hx
  split at hx
  · rename_i hlt
    have := AllT.get 9 0 1 t h j (blt_lt hlt) x hx
    rwa [Nat.zero_add, Nat.one_mul] at this
  · cases hx

section
variable {P : Program}

theorem VR.of8 {v : V} {z : Value} (h : v = ofV 8 z) (e : Env) : VR e v z := by rw [h]; exact ofV_sound e 8 z

def QT (P : Program) (k : Nat) (o : Option TI) : Prop := ∀ ti, o = some ti → TIok P k ti
theorem QT.of {k : Nat} {ti : TI} (h : TIok P k ti) : QT P k (some ti) := fun t ht => by cases ht; exact h
theorem QT.no {k : Nat} : QT P k none := fun t ht => by cases ht
def FOk (P : Program) (f : FuncId) (x : Func) : Prop := P.funcs[f]? = some x ∧ (x.name == "runtime.NumGoroutine") = false ∧ x.body.isSome = true
def QF (P : Program) (k : Nat) (o : Option Func) : Prop := ∀ x, o = some x → FOk P k x
theorem QF.of {k : Nat} {x : Func} (h : FOk P k x) : QF P k (some x) := fun t ht => by cases ht; exact h
theorem QF.no {k : Nat} : QF P k none := fun t ht => by cases ht

/-! ### functions without a body -/
def ExtOk (P : Program) (f : FuncId) (F : List V → Option V) : Prop :=
  ∀ args v, F args = some v → ∀ e (ARGS : Array Value), VRs e args ARGS.toList → ∃ z, VR e v z ∧ ∀ w, (callFunc f ARGS).run P w = .ok (.value z) w

theorem VRs.one {e : Env} {v : V} {A : Array Value} (h : VRs e [v] A.toList) : ∃ z, A = #[z] ∧ VR e v z := by
  have hl := h.length
  simp at hl
  obtain ⟨z, hz⟩ : ∃ z, A = #[z] := Array.size_eq_one_iff.1 hl.symm
  subst hz
  simp only [VRs] at h
  exact ⟨z, rfl, h.1⟩
theorem VRs.two {e : Env} {v u : V} {A : Array Value} (h : VRs e [v, u] A.toList) : ∃ y z, A = #[y, z] ∧ VR e v y ∧ VR e u z := by
  obtain ⟨l⟩ := A
  match l, h with
  | [], h => simp only [VRs] at h
  | [_], h => simp only [VRs] at h; exact h.2.elim
  | [y, z], h => simp only [VRs] at h; exact ⟨y, z, rfl, h.1, h.2.1⟩
  | _ :: _ :: _ :: _, h => simp only [VRs] at h; exact h.2.2.elim

noncomputable def noEscA (args : List V) : Option V := match args with | [x] => some x | _ => none
theorem noEscA_ok {f : FuncId} {fn : Func} (hf : P.funcs[f]? = some fn) (hname : (fn.name == "runtime.NumGoroutine") = false) (hb : fn.body.isNone = true) (hn : Extern.findNext fn = none) (he : Extern.find fn = some Extern.AbiNoEscape.same) : ExtOk P f noEscA := by
  intro args v h e ARGS ha
  unfold noEscA at h
  split at h
  · simp only [Option.some.injEq] at h
    subst h
    obtain ⟨z, rfl, hz⟩ := ha.one
    refine ⟨z, hz, fun w => ?_⟩
    rw [run_callFunc_extern hf hname hb hn he, Lib.run_noEscape]
    rfl
  · cases h

noncomputable def cntN (c : Nat) : List Nat → Nat
  | [] => 0
  | a :: l => bif Nat.beq a c then Nat.succ (cntN c l) else cntN c l
noncomputable def idxN (c : Nat) : List Nat → Nat → Option Nat
  | [], _ => none
  | a :: l, i => bif Nat.beq a c then some i else idxN c l (Nat.succ i)

noncomputable def countA (args : List V) : Option V := match args with | [.str s, .int .u8 (.ofNat c)] => bif Nat.blt c 256 then some (natA (cntN c s)) else none | _ => none
noncomputable def indexByteA (args : List V) : Option V :=
  match args with
  | [.str s, .int .u8 (.ofNat c)] => bif Nat.blt c 256 then (match idxN c s 0 with | some i => some (natA i) | none => some (.int .i64 (.negSucc 0))) else none
  | _ => none

theorem beq_byte {a c : Nat} (ha : a < 256) (hc : c < 256) : ((UInt8.ofNat a) == (Int.ofNat c).toNat.toUInt8) = Nat.beq a c := by
  have hcc : (Int.ofNat c).toNat.toUInt8 = UInt8.ofNat c := rfl
  rw [hcc]
  cases h : Nat.beq a c with
  | true => have := Nat.eq_of_beq_eq_true h; subst this; simp
  | false =>
    have hne := Nat.ne_of_beq_eq_false h
    cases hq : (UInt8.ofNat a == UInt8.ofNat c) with
    | false => rfl
    | true => exact absurd (ofNat_inj ha hc (by simpa using hq)) hne

theorem cntN_eq {c : Nat} (hc : c < 256) : ∀ s : List Nat, (∀ n ∈ s, n < 256) → (Lib.countByte (s.map UInt8.ofNat) (Int.ofNat c).toNat.toUInt8) = cntN c s
  | [], _ => rfl
  | a :: s, h => by
    have ih := cntN_eq hc s fun n hn => h n (by simp [hn])
    unfold Lib.countByte at ih ⊢
    rw [List.map_cons, List.count_cons, ih, beq_byte (h a (by simp)) hc]
    simp only [cntN, cond_eq_ite]
    split <;> simp

theorem idxN_eq {c : Nat} (hc : c < 256) : ∀ (s : List Nat) (i : Nat), (∀ n ∈ s, n < 256) → (match idxN c s i with | some j => i ≤ j ∧ Lib.indexByte (s.map UInt8.ofNat) (Int.ofNat c).toNat.toUInt8 = (j : Int) - i | none => Lib.indexByte (s.map UInt8.ofNat) (Int.ofNat c).toNat.toUInt8 = -1)
  | [], _, _ => rfl
  | a :: s, i, h => by
    have ih := idxN_eq hc s (i + 1) fun n hn => h n (by simp [hn])
    simp only [idxN, List.map_cons, Lib.indexByte, beq_byte (h a (by simp)) hc, cond_eq_ite]
    by_cases hb : Nat.beq a c = true
    · rw [if_pos hb, if_pos hb]
      exact ⟨Nat.le_refl _, by omega⟩
    · rw [if_neg hb, if_neg hb]
      cases hj : idxN c s (i + 1) with
      | none =>
        rw [hj] at ih
        simp only at ih ⊢
        rw [ih]
        simp
      | some j =>
        rw [hj] at ih
        simp only at ih ⊢
        obtain ⟨h1, h2⟩ := ih
        refine ⟨by omega, ?_⟩
        rw [h2]
        have hne : ¬ ((j : Int) - ((i + 1 : Nat) : Int)) = -1 := by omega
        rw [if_neg (by simpa using hne)]
        omega

theorem countA_ok {f : FuncId} {fn : Func} (hf : P.funcs[f]? = some fn) (hname : (fn.name == "runtime.NumGoroutine") = false) (hb : fn.body.isNone = true) (hn : Extern.findNext fn = none) (he : Extern.find fn = some Extern.BytealgCount.count) : ExtOk P f countA := by
  intro args v h e ARGS ha
  unfold countA at h
  split at h
  · rename_i s c
    rw [cond_eq_ite] at h
    split at h
    · rename_i hc
      simp only [Option.some.injEq] at h
      subst h
      obtain ⟨y, z, rfl, hy, hz⟩ := ha.two
      simp only [VR] at hy hz
      obtain ⟨rfl, hs⟩ := hy
      subst hz
      refine ⟨.int .i64 (cntN c s), by simp only [natA, VR]; rfl, fun w => ?_⟩
      rw [run_callFunc_extern hf hname hb hn he, Lib.run_countString]
      have : (strOf s).data.toList = s.map UInt8.ofNat := by simp [strOf]
      rw [this, cntN_eq (blt_lt hc) s hs]
      rfl
    · cases h
  · cases h

theorem indexByteA_ok {f : FuncId} {fn : Func} (hf : P.funcs[f]? = some fn) (hname : (fn.name == "runtime.NumGoroutine") = false) (hb : fn.body.isNone = true) (hn : Extern.findNext fn = none) (he : Extern.find fn = some Extern.BytealgIndexByte.indexByte) : ExtOk P f indexByteA := by
  intro args v h e ARGS ha
  unfold indexByteA at h
  split at h
  · rename_i s c
    rw [cond_eq_ite] at h
    split at h
    · rename_i hc
      obtain ⟨y, z, rfl, hy, hz⟩ := ha.two
      simp only [VR] at hy hz
      obtain ⟨rfl, hs⟩ := hy
      subst hz
      have hd : (strOf s).data.toList = s.map UInt8.ofNat := by simp [strOf]
      have hi := idxN_eq (blt_lt hc) s 0 hs
      have hrun : ∀ w, (callFunc f #[.string (strOf s), .int .u8 (.ofNat c)]).run P w = .ok (.value (.int .i64 (Lib.indexByte (s.map UInt8.ofNat) (Int.ofNat c).toNat.toUInt8))) w := by
        intro w
        rw [run_callFunc_extern hf hname hb hn he, Lib.run_indexByteString, hd]
        rfl
      split at h
      · rename_i j hj
        rw [hj] at hi
        simp only [Option.some.injEq] at h
        subst h
        have hv : Lib.indexByte (s.map UInt8.ofNat) (Int.ofNat c).toNat.toUInt8 = (j : Int) := by have := hi.2; simpa using this
        rw [hv] at hrun
        exact ⟨.int .i64 j, by simp only [natA, VR]; rfl, hrun⟩
      · rename_i hj
        rw [hj] at hi
        simp only [Option.some.injEq] at h
        subst h
        rw [show Lib.indexByte (s.map UInt8.ofNat) (Int.ofNat c).toNat.toUInt8 = Int.negSucc 0 from hi] at hrun
        exact ⟨.int .i64 (.negSucc 0), by simp only [VR], hrun⟩
    · cases h
  · cases h
end
end Go.Proofs.YthagammlhhnpnaaGreatDoor.Ev

/-
  The evaluator's answer, as a contract: a call without arguments whose result is known, at a memory whose first blocks are as the call knew them.
-/
namespace Go.Proofs.YthagammlhhnpnaaGreatDoor.Ev
variable {P : Program} {ng : Nat}

/-- the first blocks of a memory, each under its own number -/
def env0 (ng : Nat) (w : World) : Env := { M := fun i => i < ng, blk := fun i => i, size := fun i => match w.heap[i]? with | some (.cells c _ _) => c.size | _ => 0 }

theorem MemoOk.calls {m : Memo} (hm : MemoOk P ng m) (ha : m.args = []) (hlo : m.lo = ng) {w : World} (hng : ng ≤ w.heap.size)
    (hpre : ∀ b ob, (b, ob) ∈ m.pre → ∃ ty vs c, ob = .cells ty vs false false ∧ w.heap[b]? = some (.cells c ty (0, 0)) ∧ VRs (env0 ng w) vs c.toList) :
    Calls P m.f #[] w fun E w' => (∃ e', ER e' (.ret m.out) E) ∧ w'.os = w.os ∧ w'.output = w.output ∧ w'.tape = w.tape ∧ w.heap.size ≤ w'.heap.size ∧ ∀ b, b < w.heap.size → w'.heap[b]? = w.heap[b]? := by
  obtain ⟨σ0, σ', u, u', c1, c2, c3, c4, c5, c6⟩ := hm.does
  intro cs
  rw [ha] at c6
  have hrel : Rel ng w.heap.size (env0 ng w) σ0 w := by
    refine ⟨c2.next, fun i hi => by rw [c1, hlo]; exact hi, fun i hi => Nat.lt_of_lt_of_le hi hng, fun i hi hno => ?_, fun i j _ _ _ _ he => he, fun i hi hgi => absurd hi (Nat.not_lt.2 hgi), c2.fresh⟩
    obtain ⟨ty, vs, c, h1, h2, h3⟩ := hpre _ _ (c3 i (by rw [hlo]; exact hi) hno)
    refine ⟨_, h2, ?_⟩
    rw [h1]
    refine ⟨c, (0, 0), c.toList, [], rfl, (List.append_nil _).symm, h3, ?_, fun _ => rfl, fun _ => rfl⟩
    show c.size = (match w.heap[i]? with | some (.cells c _ _) => c.size | _ => 0)
    rw [h2]
  obtain ⟨e', w', fr, E, d1, d2, d3, d4, d5, d6⟩ := c6 w.heap.size (env0 ng w) w #[] (Nat.le_refl _) hng hrel (fun g hg => ⟨hg, rfl⟩) VRs.nil cs
  refine ⟨E, w', fr, ⟨⟨e', d4⟩, d6.os, d6.output, d6.tape, d6.size, fun b hb => d6.kept b hb fun i hi _ hgi => absurd hi (Nat.not_lt.2 hgi)⟩, ?_, d2, d3⟩
  cases E with
  | returned z => exact d1
  | panicked _ => exact d4.elim
  | outgrown => exact d4.elim
end Go.Proofs.YthagammlhhnpnaaGreatDoor.Ev

