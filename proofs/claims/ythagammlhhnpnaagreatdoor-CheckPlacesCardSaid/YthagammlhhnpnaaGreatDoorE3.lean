/-
  The evaluator, part 4 of 6: a program of the model is run by the kernel, piece by piece, and what it computes is proved of the run itself. No condition.
-/
import Derived.Test.YthagammlhhnpnaaGreatDoorE2
set_option linter.unusedVariables false
set_option linter.unusedSimpArgs false
/-
  The evaluator's operations of every kind, calls among them, with what the machine does.
-/
namespace Go.Proofs.YthagammlhhnpnaaGreatDoor.Ev

inductive COut where
  | ret (v : V)
  | pan (ch : List (V × Bool))

inductive Ent where
  | fn (f : FuncId) (args : List V) (dfd : Bool)
  | rd (l : Nat) (args : List V)

abbrev CallT := Ent → U → St → (COut → U → St → Bool) → Bool

def ER (e : Env) (out : COut) (E : Ending) : Prop :=
  match out, E with
  | .ret v, .returned z => VR e v z
  | .pan ch, .panicked C => CHR e ch C
  | _, _ => False

def EntDoes (P : Program) (ng : Nat) (ent : Ent) (u : U) (σ : St) (out : COut) (u' : U) (σ' : St) : Prop :=
  match ent with
  | .fn f args false => ∀ base e w (ARGS : Array Value), base ≤ w.heap.size → ng ≤ base → Rel ng base e σ w → GE ng e → VRs e args ARGS.toList → ∀ cs, ∃ e' w' fr E,
      Steps P (lone (Frame.enter P f ARGS .normal) cs w) (lone fr cs w') ∧ fr.fn = f ∧ fr.leaving P w' E ∧ ER e' out E ∧ Rel ng base e' σ' w' ∧ Ext ng e σ w e' σ' w'
  | .fn f args true => ∀ base e w (ARGS : Array Value), base ≤ w.heap.size → ng ≤ base → Rel ng base e σ w → GE ng e → VRs e args ARGS.toList → ∀ c cs, UR e u c.mode → ∃ e' w' fr E m,
      Steps P (lone (Frame.enter P f ARGS .deferred) (c :: cs) w) (lone fr ({ c with mode := m } :: cs) w') ∧ fr.kind = .deferred ∧ fr.going P w' E ∧ ER e' out E ∧ UR e' u' m ∧ Rel ng base e' σ' w' ∧ Ext ng e σ w e' σ' w'
  | .rd l args => ∀ base e w (ARGS : Array Value), base ≤ w.heap.size → ng ≤ base → Rel ng base e σ w → GE ng e → e.M l → VRs e args ARGS.toList → ∃ f tmps assign body,
      (Instr.yield (e.blk l) ARGS).run P w = .ok (.round (e.blk l) f tmps assign body) w ∧ ∀ c cs, ∃ e' w',
        (match out with
          | .ret v => ∃ z, Steps P (lone (Frame.round (e.blk l) f tmps assign body .normal) (c :: cs) w) (lone (c.finish z) cs w') ∧ VR e' v z
          | .pan ch => ∃ C, Steps P (lone (Frame.round (e.blk l) f tmps assign body .normal) (c :: cs) w) (lone (c.raise C) cs w') ∧ CHR e' ch C) ∧ Rel ng base e' σ' w' ∧ Ext ng e σ w e' σ' w'

def CallOk (P : Program) (ng : Nat) (C : CallT) : Prop :=
  ∀ ent u σ κ, AWf σ → C ent u σ κ = true → ∃ out u' σ', κ out u' σ' = true ∧ AWf σ' ∧ AExt σ σ' ∧ EntDoes P ng ent u σ out u' σ'

section
variable {P : Program} {ng : Nat} {C : CallT}

noncomputable def valueK (C : CallT) (tab : Tab P) (f : V) (args : List V) (σ : St) (κ : V → St → Bool) (κp : List (V × Bool) → St → Bool) : Bool :=
  match f with
  | .func (.func g) first captured =>
    match tab.ext g with
    | some F =>
      match first, captured with
      | [], [] => match F args with | some v => forceV v fun v => κ v σ | none => false
      | _, _ => false
    | none =>
      match tab.mkr g with
      | some el =>
        match first, captured, args with
        | [], [], [.int .i64 (.ofNat n)] => bif Nat.ble n 140737488355328 then σ.newK (.cells el [] true false) fun b σ' => κ (.slice b 0 1 n none) σ' else false
        | _, _, _ => false
      | none =>
        match tab.fn g with
        | some _ => lappK args captured fun r => lappK first r fun all => C (.fn g all false) .none σ fun out _ σ' =>
          match out with
          | .ret v => κ v σ'
          | .pan ch => κp ch σ'
        | none => false
  | .yieldf l => C (.rd l args) .none σ fun out _ σ' =>
      match out with
      | .ret v => κ v σ'
      | .pan ch => κp ch σ'
  | _ => false

/-- an operation -/
noncomputable def opK (C : CallT) (ng : Nat) (tab : Tab P) (fr : Fr) (ρ : Operand → V) (op : Op) (ds : List ADef) (u : U) (σ : St) (κ : V → List ADef → U → St → Bool) (κp : List (V × Bool) → U → St → Bool) : Bool :=
  match op with
  | .call c =>
    match c.callee with
    | .value f => headV (ρ f) fun f => mapVK ρ c.args.toList fun args => valueK C tab f args σ (fun v σ' => κ v ds u σ') (fun ch σ' => κp ch u σ')
    | .builtin .recover =>
      match fr.rd with
      | none =>
        bif fr.dfd then
          match u with
          | .pan ((v, false) :: older) => κ v ds (.pan ((v, true) :: older)) σ
          | .pan ((v, true) :: older) => κ .nili ds (.pan ((v, true) :: older)) σ
          | .returning => κ .nili ds .returning σ
          | _ => false
        else κ .nili ds u σ
      | some _ => false
    | .builtin .append => memK ng tab ρ (.call c) σ fun v σ' => κ v ds u σ'
    | .builtin .unsafeString => memK ng tab ρ (.call c) σ fun v σ' => κ v ds u σ'
    | .builtin .copy => memK ng tab ρ (.call c) σ fun v σ' => κ v ds u σ'
    | .builtin .len =>
      match pureA tab ρ (.call c) with
      | some v => forceV v fun v => κ v ds u σ
      | none => memK ng tab ρ (.call c) σ fun v σ' => κ v ds u σ'
    | _ => pureK tab ρ (.call c) fun v => κ v ds u σ
  | .defer c =>
    match fr.rd, c.callee with
    | none, .value f =>
      match ρ f with
      | .func (.func g) first captured => mapVK ρ c.args.toList fun args => lappK first args fun all => κ (.tup []) ({ fn := .func g, captured := captured, args := all } :: ds) u σ
      | _ => false
    | _, _ => false
  | .panic x =>
    match ρ x with
    | .iface t v => κp [(.iface t v, false)] u σ
    | _ => false
  | .load t x => memK ng tab ρ (.load t x) σ fun v σ' => κ v ds u σ'
  | .lookup t x k ok => memK ng tab ρ (.lookup t x k ok) σ fun v σ' => κ v ds u σ'
  | .store t x v => memK ng tab ρ (.store t x v) σ fun v σ' => κ v ds u σ'
  | .alloc t => memK ng tab ρ (.alloc t) σ fun v σ' => κ v ds u σ'
  | .box t x => memK ng tab ρ (.box t x) σ fun v σ' => κ v ds u σ'
  | .buildSlice t n ps => memK ng tab ρ (.buildSlice t n ps) σ fun v σ' => κ v ds u σ'
  | .makeMap t r => memK ng tab ρ (.makeMap t r) σ fun v σ' => κ v ds u σ'
  | .makeSlice t l c => memK ng tab ρ (.makeSlice t l c) σ fun v σ' => κ v ds u σ'
  | .mapUpdate t m k x => memK ng tab ρ (.mapUpdate t m k x) σ fun v σ' => κ v ds u σ'
  | .insert t m k x => memK ng tab ρ (.insert t m k x) σ fun v σ' => κ v ds u σ'
  | .mapEntry t m k => memK ng tab ρ (.mapEntry t m k) σ fun v σ' => κ v ds u σ'
  | .entryStore t m s x => memK ng tab ρ (.entryStore t m s x) σ fun v σ' => κ v ds u σ'
  | .range t x => memK ng tab ρ (.range t x) σ fun v σ' => κ v ds u σ'
  | .next x s => memK ng tab ρ (.next x s) σ fun v σ' => κ v ds u σ'
  | .convert s d x =>
    match ρ x with
    | .ptr _ _ => memK ng tab ρ (.convert s d x) σ fun v σ' => κ v ds u σ'
    | _ => pureK tab ρ (.convert s d x) fun v => κ v ds u σ
  | op => pureK tab ρ op fun v => κ v ds u σ

/-- what the machine does at an operation that ends with a value -/
def OpOk (P : Program) (ng : Nat) (fr : Fr) (ρ : Operand → V) (o : Oper) (ds : List ADef) (u : U) (σ : St) (v : V) (ds' : List ADef) (u' : U) (σ' : St) : Prop :=
  ∀ base e (b : Frame) a cs w ops i rest k, base ≤ w.heap.size → ng ≤ base → Rel ng base e σ w → GE ng e → BR e fr b → (∀ x, VR e (ρ x) (a.eval x)) → DRs e ds a.defers → KR e fr u cs → ops[i]? = some o → Region.wanted o (yielded ops a.tmps) = true →
    ∃ e' dl cs' w' z, Steps P (lone (b.atR a (.inRegion ops (i :: rest) :: k)) cs w) (lone (b.atR ({ a with defers := dl }.put o.dst z) (.inRegion ops rest :: k)) cs' w') ∧ VR e' v z ∧ DRs e' ds' dl ∧ Rel ng base e' σ' w' ∧ Ext ng e σ w e' σ' w' ∧ KS e' fr u' cs cs'

/-- .. with a panic -/
def OpPan (P : Program) (ng : Nat) (fr : Fr) (ρ : Operand → V) (o : Oper) (u : U) (σ : St) (ch : List (V × Bool)) (u' : U) (σ' : St) : Prop :=
  ∀ base e (b : Frame) a cs w ops i rest k, base ≤ w.heap.size → ng ≤ base → Rel ng base e σ w → GE ng e → BR e fr b → (∀ x, VR e (ρ x) (a.eval x)) → KR e fr u cs → ops[i]? = some o → Region.wanted o (yielded ops a.tmps) = true →
    ∃ e' cs' w' C, Steps P (lone (b.atR a (.inRegion ops (i :: rest) :: k)) cs w) (lone { b.atR a (.inRegion ops (i :: rest) :: k) with mode := .panicking C } cs' w') ∧ CHR e' ch C ∧ Rel ng base e' σ' w' ∧ Ext ng e σ w e' σ' w' ∧ KS e' fr u' cs cs'

theorem OpDoes.ok {fr : Fr} {ρ : Operand → V} {o : Oper} {ds : List ADef} {u : U} {σ : St} {v : V} {σ' : St} (h : OpDoes P ng ρ o σ v σ') (hd : ∀ c, o.op ≠ .defer c) : OpOk P ng fr ρ o ds u σ v ds u σ' := by
  intro base e b a cs w ops i rest k hb _ hr _ _ hρ hds hk ho hw
  obtain ⟨e', w', nx, z, h1, h2, h3, h4, h5⟩ := h.2.2 base e w a.eval hb hr hρ
  exact ⟨e', a.defers, cs, w', z, .one (stepR_value ho hw hd h2 h1), h3, hds.mono h5.le, h4, h5, (KS.refl (hk.mono h5.le))⟩

theorem run_callFunc {tab : Tab P} {g : FuncId} {fn : Func} (h : tab.fn g = some fn) (args : Array Value) (w : World) : (callFunc g args).run P w = .ok (.enter g args) w := by
  obtain ⟨h1, h2, h3⟩ := tab.fnOk g fn h
  have h5 : ¬ fn.name = "runtime.NumGoroutine" := by simpa using h2
  cases hb : fn.body with
  | none => rw [hb] at h3; cases h3
  | some c => simp [callFunc, h1, h5, hb]

theorem resolve_value (ρ : Operand → Value) (f : Operand) (args : Array Operand) (ts : Array TypeId) (ty : TypeId) {fn : Fn} {first captured : Array Value} (h : ρ f = .func fn first captured) (w : World) :
    (resolve ρ { callee := .value f, args := args, argTypes := ts } ty).run P w = .ok { target := .fn fn captured, args := first ++ args.map ρ } w := by
  simp only [resolve, h, Deferred.ofValue, Sem.run_pure]

theorem opK_sound {tab : Tab P} (hC : CallOk P ng C) {fr : Fr} {ρ : Operand → V} {o : Oper} {ds : List ADef} {u : U} {σ : St} (hwf : AWf σ) {κ : V → List ADef → U → St → Bool} {κp : List (V × Bool) → U → St → Bool}
    (h : opK C ng tab fr ρ o.op ds u σ κ κp = true) :
    (∃ v ds' u' σ', κ v ds' u' σ' = true ∧ AWf σ' ∧ AExt σ σ' ∧ OpOk P ng fr ρ o ds u σ v ds' u' σ') ∨
    (∃ ch u' σ', κp ch u' σ' = true ∧ AWf σ' ∧ AExt σ σ' ∧ OpPan P ng fr ρ o u σ ch u' σ') := by
  have pur : (∀ c, o.op ≠ .defer c) → pureK tab ρ o.op (fun v => κ v ds u σ) = true → ∃ v ds' u' σ', κ v ds' u' σ' = true ∧ AWf σ' ∧ AExt σ σ' ∧ OpOk P ng fr ρ o ds u σ v ds' u' σ' := by
    intro hd hp
    obtain ⟨v, h1, _, h2⟩ := pureK_goes (ng := ng) (κ := fun v σ => κ v ds u σ) hwf hp
    exact ⟨v, ds, u, σ, h1, hwf, .refl σ, h2.ok hd⟩
  have mem : (∀ c, o.op ≠ .defer c) → memK ng tab ρ o.op σ (fun v σ' => κ v ds u σ') = true → ∃ v ds' u' σ', κ v ds' u' σ' = true ∧ AWf σ' ∧ AExt σ σ' ∧ OpOk P ng fr ρ o ds u σ v ds' u' σ' := by
    intro hd hp
    obtain ⟨v, σ', h1, h2⟩ := memK_goes hwf hp
    exact ⟨v, ds, u, σ', h1, h2.1, h2.2.1, h2.ok hd⟩
  obtain ⟨dst, op, ty, pos, after, guard⟩ := o
  simp only at h pur mem
  unfold opK at h
  split at h
  · rename_i c
    have hd : ∀ c', Op.call c ≠ .defer c' := by intro c'; simp
    split at h
    · -- a function's value
      rename_i f hcal
      rw [headV_eq, mapVK_eq] at h
      obtain ⟨callee, args, ts⟩ := c
      simp only at hcal h
      subst hcal
      unfold valueK at h
      split at h
      · rename_i g first captured hf
        have noCells : ∀ {e : Env} {b : Act}, VR e (.func (.func g) [] []) (b.eval f) → b.eval f = .func (.func g) #[] #[] := by
          intro e b hfv
          simp only [VR] at hfv
          obtain ⟨_, fa, ca, hfe, hfa, hca⟩ := hfv
          have hfa' : fa = #[] := by
            have := hfa.length; simp at this
            exact Array.eq_empty_of_size_eq_zero (by simpa using this.symm)
          have hca' : ca = #[] := by
            have := hca.length; simp at this
            exact Array.eq_empty_of_size_eq_zero (by simpa using this.symm)
          subst hfa'
          subst hca'
          exact hfe
        split at h
        · rename_i F hF
          split at h <;> first | (cases h; done) | skip
          split at h
          · rename_i v hv
            rw [forceV_eq] at h
            left
            refine ⟨_, ds, u, σ, h, hwf, .refl σ, ?_⟩
            intro base e b a cs w ops i rest k hb hnb hr hg hbr hρ hds hk ho hw
            have hfv := hρ f
            rw [hf] at hfv
            have hfe := noCells hfv
            have hargsL : VRs e (args.toList.map ρ) (args.map a.eval).toList := by
              rw [Array.toList_map]; exact VRs.map hρ _
            obtain ⟨z, hz1, hz2⟩ := tab.extOk g F hF _ _ hv e _ hargsL
            have hrun : (execOp a.eval ⟨dst, .call ⟨.value f, args, ts⟩, ty, pos, after, guard⟩).run P w = .ok (.value z) w := by
              simp only [execOp, Sem.run_bind, resolve_value a.eval f args ts ty hfe, Result.andThen_ok, invoke]
              simpa using hz2 w
            exact ⟨e, a.defers, cs, w, z, .one (stepR_value ho hw hd (.inl rfl) hrun), hz1, hds, hr, .refl .., .refl hk⟩
          · cases h
        · split at h
          · rename_i el hmk
            split at h <;> first | (cases h; done) | skip
            rename_i n hargs
            rw [cond_eq_ite] at h
            split at h
            · rename_i hle0
              have hle := Nat.le_of_ble_eq_true hle0
              obtain ⟨h1, h2, h3, h4⟩ := newK_goes (P := P) (ng := ng) hwf h
              left
              refine ⟨_, ds, u, _, h1, h2, h3, ?_⟩
              intro base e b a cs w ops i rest k hb hnb hr hg hbr hρ hds hk ho hw
              have hfv := hρ f
              rw [hf] at hfv
              have hfe := noCells hfv
              have hargsL : VRs e [.int .i64 (.ofNat n)] (args.map a.eval).toList := by
                rw [Array.toList_map, ← hargs]; exact VRs.map hρ _
              have hz : args.map a.eval = #[.int .i64 n] := by
                have hl := hargsL.length
                simp at hl
                obtain ⟨z, hz⟩ : ∃ z, args.map a.eval = #[z] := Array.size_eq_one_iff.1 (by simpa using hl.symm)
                rw [hz] at hargsL
                simp only [VRs, VR, and_true] at hargsL
                rw [hz, hargsL]
                rfl
              obtain ⟨cs0, w1, m1, m2, m3, m4, m5, m6⟩ := tab.mkOk g el hmk n hle w
              have hrun : (execOp a.eval ⟨dst, .call ⟨.value f, args, ts⟩, ty, pos, after, guard⟩).run P w = .ok (.value (.slice (some ⟨w.heap.size, 0, none⟩) n cs0.size)) { w1 with heap := w1.heap.push (.cells cs0 el) } := by
                simp only [execOp, Sem.run_bind, resolve_value a.eval f args ts ty hfe, Result.andThen_ok, invoke, hz]
                simpa using m6
              have hr1 : Rel ng base e σ w1 := hr.gc m2
              obtain ⟨w', g1, g2, g3⟩ := h4 base e w1 (.cells cs0 el) cs0.size (by rw [m2]; exact hb) hr1 ⟨cs0, (0, 0), [], cs0.toList, rfl, by simp, VRs.nil, by simp [Env.more], by simp, fun _ => rfl⟩
              have hw' : w' = { w1 with heap := w1.heap.push (.cells cs0 el) } := by
                have : (newObj (.cells cs0 el)).run P w1 = .ok w1.heap.size { w1 with heap := w1.heap.push (.cells cs0 el) } := rfl
                rw [this] at g1
                simp only [Result.ok.injEq] at g1
                exact g1.2.symm
              rw [← hw'] at hrun
              have hx : Ext ng e σ w (e.more σ.next w1.heap.size cs0.size) (σ.more (.cells el [] true false)) w' :=
                ⟨g3.le, g3.next, by rw [← m2]; exact g3.size, g3.newer, by rw [← m2]; exact g3.kept, by rw [← m2]; exact g3.orig, g3.logs, g3.looks, g3.os.trans m3, g3.output.trans m4, g3.tape.trans m5⟩
              refine ⟨_, a.defers, cs, w', _, .one (stepR_value ho hw hd (.inl rfl) hrun), ?_, hds.mono hx.le, g2, hx, .refl (hk.mono hx.le)⟩
              simp only [VR]
              refine ⟨.inr rfl, cs0.size, ?_, m1, ?_, by simp, ?_⟩
              · simp [Env.more, m2]
              · simp [Env.more]
              · intro _; simp [Env.more]
            · cases h
          · split at h
            · rename_i fn hfn
              rw [lappK_eq, lappK_eq] at h
              obtain ⟨out, u1, σ', h1, h2, h3, h4⟩ := hC _ _ _ _ hwf h
              have run : ∀ base e (b : Frame) (a : Act) cs w (ops : Array Oper) i rest (k : List Item), base ≤ w.heap.size → ng ≤ base → Rel ng base e σ w → GE ng e → (∀ x, VR e (ρ x) (a.eval x)) → ops[i]? = some ⟨dst, .call ⟨.value f, args, ts⟩, ty, pos, after, guard⟩ → Region.wanted ⟨dst, .call ⟨.value f, args, ts⟩, ty, pos, after, guard⟩ (yielded ops a.tmps) = true →
                  ∃ e' w' fr' E, Steps P (lone (b.atR a (.inRegion ops (i :: rest) :: k)) cs w) (lone fr' (b.atR a (.inRegion ops (i :: rest) :: k) :: cs) w') ∧ fr'.leaving P w' E ∧ ER e' out E ∧ Rel ng base e' σ' w' ∧ Ext ng e σ w e' σ' w' := by
                intro base e b a cs w ops i rest k hb hnb hr hg hρ ho hw
                have hfv := hρ f
                rw [hf] at hfv
                simp only [VR] at hfv
                obtain ⟨_, fa, ca, hfe, hfa, hca⟩ := hfv
                have hrun : (execOp a.eval ⟨dst, .call ⟨.value f, args, ts⟩, ty, pos, after, guard⟩).run P w = .ok (.enter g (fa ++ args.map a.eval ++ ca)) w := by
                  simp only [execOp, Sem.run_bind, resolve_value a.eval f args ts ty hfe, Result.andThen_ok, invoke, run_callFunc hfn]
                have hall : VRs e (first ++ (args.toList.map ρ ++ captured)) (fa ++ args.map a.eval ++ ca).toList := by
                  have : (fa ++ args.map a.eval ++ ca).toList = fa.toList ++ ((args.toList.map a.eval) ++ ca.toList) := by simp
                  rw [this]
                  exact hfa.app ((VRs.map hρ _).app hca)
                obtain ⟨e', w', fr', E, g1, _, g3, g4, g5, g6⟩ := h4 base e w _ hb hnb hr hg hall (b.atR a (.inRegion ops (i :: rest) :: k) :: cs)
                exact ⟨e', w', fr', E, .head (stepR_enter ho hw hd hrun) g1, g3, g4, g5, g6⟩
              cases out with
              | ret v =>
                left
                refine ⟨v, ds, u, σ', h1, h2, h3, ?_⟩
                intro base e b a cs w ops i rest k hb hnb hr hg hbr hρ hds hk ho hw
                obtain ⟨e', w', fr', E, g1, g2, g3, g4, g5⟩ := run base e b a cs w ops i rest k hb hnb hr hg hρ ho hw
                cases E with
                | returned z =>
                  have hst := step_leave_returned (c := b.atR a (.inRegion ops (i :: rest) :: k)) (cs := cs) g2
                  have hfin : (b.atR a (.inRegion ops (i :: rest) :: k)).finish z = b.atR (a.put dst z) (.inRegion ops rest :: k) := by
                    rw [Frame.finish_atR, ho]; rfl
                  rw [hfin] at hst
                  exact ⟨e', a.defers, cs, w', z, Steps.trans g1 (.one hst), g3, hds.mono g5.le, g4, g5, .refl (hk.mono g5.le)⟩
                | panicked C' => exact g3.elim
                | outgrown => exact g3.elim
              | pan ch =>
                right
                refine ⟨ch, u, σ', h1, h2, h3, ?_⟩
                intro base e b a cs w ops i rest k hb hnb hr hg hbr hρ hk ho hw
                obtain ⟨e', w', fr', E, g1, g2, g3, g4, g5⟩ := run base e b a cs w ops i rest k hb hnb hr hg hρ ho hw
                cases E with
                | returned z => exact g3.elim
                | panicked C' =>
                  have hst := step_leave_panicked (c := b.atR a (.inRegion ops (i :: rest) :: k)) (cs := cs) g2
                  rw [Frame.raise_atR] at hst
                  exact ⟨e', cs, w', C', Steps.trans g1 (.one hst), g3, g4, g5, .refl (hk.mono g5.le)⟩
                | outgrown => exact g3.elim
            · cases h
      · rename_i l hf
        obtain ⟨out, u1, σ', h1, h2, h3, h4⟩ := hC _ _ _ _ hwf h
        have run : ∀ base e (b : Frame) (a : Act) cs w (ops : Array Oper) i rest (k : List Item), base ≤ w.heap.size → ng ≤ base → Rel ng base e σ w → GE ng e → (∀ x, VR e (ρ x) (a.eval x)) → ops[i]? = some ⟨dst, .call ⟨.value f, args, ts⟩, ty, pos, after, guard⟩ → Region.wanted ⟨dst, .call ⟨.value f, args, ts⟩, ty, pos, after, guard⟩ (yielded ops a.tmps) = true →
            ∃ e' w', (match out with
              | .ret v => ∃ z, Steps P (lone (b.atR a (.inRegion ops (i :: rest) :: k)) cs w) (lone ((b.atR a (.inRegion ops (i :: rest) :: k)).finish z) cs w') ∧ VR e' v z
              | .pan ch => ∃ C, Steps P (lone (b.atR a (.inRegion ops (i :: rest) :: k)) cs w) (lone ((b.atR a (.inRegion ops (i :: rest) :: k)).raise C) cs w') ∧ CHR e' ch C) ∧ Rel ng base e' σ' w' ∧ Ext ng e σ w e' σ' w' := by
          intro base e b a cs w ops i rest k hb hnb hr hg hρ ho hw
          have hfv := hρ f
          rw [hf] at hfv
          simp only [VR] at hfv
          obtain ⟨hm, hfe⟩ := hfv
          have hargs : VRs e (args.toList.map ρ) (#[] ++ args.map a.eval).toList := by
            rw [Array.empty_append, Array.toList_map]; exact VRs.map hρ _
          obtain ⟨g, tmps, assign, body, y1, y2⟩ := h4 base e w _ hb hnb hr hg hm hargs
          have hrun : (execOp a.eval ⟨dst, .call ⟨.value f, args, ts⟩, ty, pos, after, guard⟩).run P w = .ok (.round (e.blk l) g tmps assign body) w := by
            simp only [execOp, Sem.run_bind, resolve_value a.eval f args ts ty hfe, Result.andThen_ok, invoke]
            exact y1
          obtain ⟨e', w', y3, y4, y5⟩ := y2 (b.atR a (.inRegion ops (i :: rest) :: k)) cs
          have hst := stepR_round (b := b) (k := k) (cs := cs) (rest := rest) ho hw hd hrun
          refine ⟨e', w', ?_, y4, y5⟩
          cases out with
          | ret v => obtain ⟨z, y6, y7⟩ := y3; exact ⟨z, .head hst y6, y7⟩
          | pan ch => obtain ⟨C', y6, y7⟩ := y3; exact ⟨C', .head hst y6, y7⟩
        cases out with
        | ret v =>
          left
          refine ⟨v, ds, u, σ', h1, h2, h3, ?_⟩
          intro base e b a cs w ops i rest k hb hnb hr hg hbr hρ hds hk ho hw
          obtain ⟨e', w', ⟨z, g1, g3⟩, g4, g5⟩ := run base e b a cs w ops i rest k hb hnb hr hg hρ ho hw
          have hfin : (b.atR a (.inRegion ops (i :: rest) :: k)).finish z = b.atR (a.put dst z) (.inRegion ops rest :: k) := by
            rw [Frame.finish_atR, ho]; rfl
          rw [hfin] at g1
          exact ⟨e', a.defers, cs, w', z, g1, g3, hds.mono g5.le, g4, g5, .refl (hk.mono g5.le)⟩
        | pan ch =>
          right
          refine ⟨ch, u, σ', h1, h2, h3, ?_⟩
          intro base e b a cs w ops i rest k hb hnb hr hg hbr hρ hk ho hw
          obtain ⟨e', w', ⟨C', g1, g3⟩, g4, g5⟩ := run base e b a cs w ops i rest k hb hnb hr hg hρ ho hw
          rw [Frame.raise_atR] at g1
          exact ⟨e', cs, w', C', g1, g3, g4, g5, .refl (hk.mono g5.le)⟩
      · cases h
    · -- recover
      rename_i hcal
      left
      obtain ⟨callee, args, ts⟩ := c
      simp only at hcal
      subst hcal
      have hrun : ∀ (a : Act) w, (execOp a.eval ⟨dst, .call ⟨.builtin .recover, args, ts⟩, ty, pos, after, guard⟩).run P w = .ok .recover w := by
        intro a w
        simp only [execOp, resolve, Sem.run_bind, Sem.run_pure, Result.andThen_ok, invoke, builtin]
      split at h
      · rename_i hrd
        have hro : ∀ {e : Env} {b : Frame}, BR e fr b → b.roundOf = none := by
          intro e b hbr
          have := hbr.2.2
          rw [hrd] at this
          exact this
        rw [cond_eq_ite] at h
        split at h
        · rename_i hdf
          split at h
          · rename_i v older
            refine ⟨_, _, _, σ, h, hwf, .refl σ, ?_⟩
            intro base e b a cs w ops i rest k hb hnb hr hg hbr hρ hds hk ho hw
            obtain ⟨c, r, hcs, hu⟩ := hk hdf
            obtain ⟨CH, hm, hch⟩ := hu
            cases CH with
            | nil => exact hch.elim
            | cons x CH =>
              obtain ⟨⟨q1, q2, q3⟩, q4⟩ := hch
              have hrec : recoverD cs = some (x.v, { c with mode := .panicking ({ v := x.v, recovered := true } :: CH) } :: r) := by
                obtain ⟨xv, xr, xg⟩ := x
                simp only at q2 q3
                subst q2
                subst q3
                simp only [hcs, recoverD, hm]
              have hst := stepR_recover_some (k := k) (rest := rest) ho hw hd (hro hbr) (hrun a w) (by rw [hbr.2.1, if_pos hdf]) hrec
              have hks : KS e fr (.pan ((v, true) :: older)) cs ({ c with mode := .panicking ({ v := x.v, recovered := true } :: CH) } :: r) :=
                ⟨fun hf => absurd (hdf.symm.trans hf) (by simp), fun _ => ⟨c, r, .panicking ({ v := x.v, recovered := true } :: CH), hcs, rfl, ⟨_, rfl, ⟨⟨q1, rfl, rfl⟩, q4⟩⟩⟩⟩
              exact ⟨e, a.defers, _, w, x.v, .one hst, q1, hds, hr, .refl .., hks⟩
          · rename_i v older
            refine ⟨_, _, _, σ, h, hwf, .refl σ, ?_⟩
            intro base e b a cs w ops i rest k hb hnb hr hg hbr hρ hds hk ho hw
            obtain ⟨c, r, hcs, hu⟩ := hk hdf
            obtain ⟨CH, hm, hch⟩ := hu
            cases CH with
            | nil => exact hch.elim
            | cons x CH =>
              obtain ⟨⟨q1, q2, q3⟩, q4⟩ := hch
              have hrec : recoverD cs = none := by
                obtain ⟨xv, xr, xg⟩ := x
                simp only at q2 q3
                subst q2
                subst q3
                simp only [hcs, recoverD, hm]
              have hst := stepR_recover_none (k := k) (rest := rest) ho hw hd (hro hbr) (hrun a w) (.inr ⟨by rw [hbr.2.1, if_pos hdf], hrec⟩)
              exact ⟨e, a.defers, cs, w, .nilIface, .one hst, by simp only [VR], hds, hr, .refl .., .refl hk⟩
          · refine ⟨_, _, _, σ, h, hwf, .refl σ, ?_⟩
            intro base e b a cs w ops i rest k hb hnb hr hg hbr hρ hds hk ho hw
            obtain ⟨c, r, hcs, hu⟩ := hk hdf
            have hu' : c.mode = .returning := hu
            have hrec : recoverD cs = none := by simp only [hcs, recoverD, hu']
            have hst := stepR_recover_none (k := k) (rest := rest) ho hw hd (hro hbr) (hrun a w) (.inr ⟨by rw [hbr.2.1, if_pos hdf], hrec⟩)
            exact ⟨e, a.defers, cs, w, .nilIface, .one hst, by simp only [VR], hds, hr, .refl .., .refl hk⟩
          · cases h
        · rename_i hdf
          have hdf' : fr.dfd = false := by simpa using hdf
          refine ⟨_, _, _, σ, h, hwf, .refl σ, ?_⟩
          intro base e b a cs w ops i rest k hb hnb hr hg hbr hρ hds hk ho hw
          have hst := stepR_recover_none (k := k) (rest := rest) (cs := cs) ho hw hd (hro hbr) (hrun a w) (.inl (by rw [hbr.2.1, if_neg hdf]))
          exact ⟨e, a.defers, cs, w, .nilIface, .one hst, by simp only [VR], hds, hr, .refl .., .refl hk⟩
      · cases h
    · exact .inl (mem hd h)
    · exact .inl (mem hd h)
    · exact .inl (mem hd h)
    · split at h
      · rename_i v hv
        rw [forceV_eq] at h
        left
        refine ⟨v, ds, u, σ, h, hwf, .refl σ, ?_⟩
        have hdo : OpDoes P ng ρ ⟨dst, .call c, ty, pos, after, guard⟩ σ v σ := by
          refine ⟨hwf, .refl σ, fun base e w R hb hr hρ => ?_⟩
          obtain ⟨z, g1, g2⟩ := pureA_sound (P := P) (o := ⟨dst, .call c, ty, pos, after, guard⟩) hv hρ
          exact ⟨e, w, _, z, g2 w, .inl rfl, g1, hr, .refl ..⟩
        exact hdo.ok hd
      · exact .inl (mem hd h)
    · exact .inl (pur hd h)
  · -- defer
    rename_i c
    left
    obtain ⟨callee, args, ts⟩ := c
    simp only at h
    split at h
    · rename_i f hrd
      split at h
      · rename_i g first captured hf
        rw [mapVK_eq, lappK_eq] at h
        refine ⟨_, _, u, σ, h, hwf, .refl σ, ?_⟩
        intro base e b a cs w ops i rest k hb hnb hr hg hbr hρ hds hk ho hw
        have hro : b.roundOf = none := by
          have := hbr.2.2
          rw [hrd] at this
          exact this
        have hfv := hρ f
        rw [hf] at hfv
        simp only [VR] at hfv
        obtain ⟨_, fa, ca, hfe, hfa, hca⟩ := hfv
        have hst := stepR_defer (P := P) (k := k) (cs := cs) (rest := rest) ho hw rfl hro (resolve_value a.eval f args ts ty hfe w)
        refine ⟨e, { target := .fn (.func g) ca, args := fa ++ args.map a.eval } :: a.defers, cs, w, undef, .one hst, ?_, ⟨?_, hds⟩, hr, .refl .., .refl hk⟩
        · simp only [VR]; exact ⟨_, rfl, VRs.nil⟩
        · refine ⟨by simp, ca, fa ++ args.map a.eval, rfl, hca, ?_⟩
          rw [Array.toList_append, Array.toList_map]
          exact hfa.app (VRs.map hρ _)
      · cases h
    · cases h
  · -- panic
    rename_i x
    right
    split at h
    · rename_i t v hx
      refine ⟨_, u, σ, h, hwf, .refl σ, ?_⟩
      intro base e b a cs w ops i rest k hb hnb hr hg hbr hρ hk ho hw
      have hxv := hρ x
      rw [hx] at hxv
      have hxv0 := hxv
      simp only [VR] at hxv
      obtain ⟨y, hye, hyv⟩ := hxv
      have hrun : (execOp a.eval ⟨dst, .panic x, ty, pos, after, guard⟩).run P w = .halt (.panic (.iface t y)) w := by
        simp only [execOp, hye, Instr.panic, Sem.run_bind]
        rfl
      have hst := stepR_panic (b := b) (k := k) (cs := cs) (rest := rest) ho hw (by intro c; simp) hrun
      rw [hye] at hxv0
      exact ⟨e, cs, w, _, .one hst, ⟨⟨hxv0, rfl, rfl⟩, trivial⟩, hr, .refl .., .refl hk⟩
    · cases h
  all_goals first
    | exact .inl (mem (by intro c; simp) h)
    | (split at h <;> first | exact .inl (mem (by intro c; simp) h) | exact .inl (pur (by intro c; simp) h))
    | skip
  · rename_i hdf _ _ _ _ _ _ _ _ _ _ _ _ _ _ _ _
    exact .inl (pur (by intro c; first | exact hdf c | skip) h)
end
end Go.Proofs.YthagammlhhnpnaaGreatDoor.Ev

/-
  The evaluator's regions in the order of their text.
-/
namespace Go.Proofs.YthagammlhhnpnaaGreatDoor.Ev

noncomputable def beqB (a b : Bool) : Bool := Bool.rec (motive := fun _ => Bool) (Bool.rec (motive := fun _ => Bool) true false b) b a
theorem beqB_eq (a b : Bool) : beqB a b = decide (a = b) := by cases a <;> cases b <;> rfl

/-- whether an operation's guard lets it run -/
noncomputable def wantA (L : List Oper) (tm : T V) (o : Oper) : Option Bool :=
  match o.guard with
  | none => some true
  | some (j, want) =>
    match lget L j with
    | some oj =>
      match oj.dst with
      | some d => bif Nat.blt d 512 then (match tget tm d with | .bool b => some (beqB b want) | .tup _ => some false | _ => none) else none
      | none => some false
    | none => some false

theorem wantA_sound {ops : Array Oper} {tm : T V} {o : Oper} {r : Bool} (h : wantA ops.toList tm o = some r) {e : Env} {nt : Nat} {tmps : Array Value}
    (ht : ∀ d, (∃ j oj want, o.guard = some (j, want) ∧ ops[j]? = some oj ∧ oj.dst = some d) → d < 2 ^ dt → VR e (tget tm d) (tmps.getD d undef)) (_hn : tmps.size = nt) : Region.wanted o (yielded ops tmps) = r := by
  unfold wantA at h
  unfold Region.wanted
  split at h
  · rename_i hg
    simp only [Option.some.injEq] at h
    rw [hg]
    exact h
  · rename_i j want hg
    rw [hg]
    simp only
    rw [lget_eq, Array.getElem?_toList] at h
    split at h
    · rename_i oj hj
      split at h
      · rename_i d hd
        rw [cond_eq_ite] at h
        split at h
        · rename_i hlt
          have hv := ht d ⟨j, oj, want, hg, hj, hd⟩ (blt_lt hlt)
          have hy : yielded ops tmps j = match tmps[d]? with | some (.bool b) => some b | _ => none := by
            simp only [yielded, hj, Option.bind_some, hd]
            rfl
          rw [hy]
          split at h
          · rename_i b hb
            rw [hb] at hv
            simp only [VR] at hv
            simp only [Option.some.injEq] at h
            have : tmps[d]? = some (.bool b) := by
              rw [Array.getD_eq_getD_getElem?] at hv
              cases hx : tmps[d]? with
              | none => rw [hx] at hv; simp [undef] at hv
              | some y => rw [hx] at hv; simp at hv; rw [hv]
            rw [this, ← h, beqB_eq]
            cases b <;> cases want <;> rfl
          · rename_i l hb
            rw [hb] at hv
            simp only [VR] at hv
            obtain ⟨ar, hv, _⟩ := hv
            simp only [Option.some.injEq] at h
            subst h
            rw [Array.getD_eq_getD_getElem?] at hv
            cases hx : tmps[d]? with
            | none => rfl
            | some y => rw [hx] at hv; simp at hv; rw [hv]; rfl
          · cases h
        · cases h
      · rename_i hd
        simp only [Option.some.injEq] at h
        subst h
        have : yielded ops tmps j = none := by simp only [yielded, hj, Option.bind_some, hd, Option.bind_none]
        rw [this]; rfl
    · rename_i hj
      simp only [Option.some.injEq] at h
      subst h
      have : yielded ops tmps j = none := by simp only [yielded, hj, Option.bind_none]
      rw [this]; rfl

section
variable {P : Program} {ng : Nat} {C : CallT}

abbrev OutT := T V → List ADef → U → St → Bool

noncomputable def opsK (C : CallT) (ng : Nat) (tab : Tab P) (fr : Fr) (L : List Oper) (κ : OutT) (κp : List (V × Bool) → OutT) : List Oper → OutT :=
  fun l => List.rec (motive := fun _ => OutT) κ (fun o _ ih tm ds u σ =>
    match wantA L tm o with
    | some true => opK C ng tab fr (evalA ng tm) o.op ds u σ (fun v ds u σ => putT fr.nt o.dst v tm fun tm => ih tm ds u σ) (fun ch u σ => κp ch tm ds u σ)
    | some false => putT fr.nt o.dst (.tup []) tm fun tm => ih tm ds u σ
    | none => false) l

theorem opsK_cons {tab : Tab P} {fr : Fr} {L : List Oper} {κ : OutT} {κp : List (V × Bool) → OutT} {o : Oper} {l : List Oper} {tm : T V} {ds : List ADef} {u : U} {σ : St} :
    opsK C ng tab fr L κ κp (o :: l) tm ds u σ = match wantA L tm o with
      | some true => opK C ng tab fr (evalA ng tm) o.op ds u σ (fun v ds u σ => putT fr.nt o.dst v tm fun tm => opsK C ng tab fr L κ κp l tm ds u σ) (fun ch u σ => κp ch tm ds u σ)
      | some false => putT fr.nt o.dst (.tup []) tm fun tm => opsK C ng tab fr L κ κp l tm ds u σ
      | none => false := rfl

theorem SR.want {base : Nat} {fr : Fr} {e : Env} {tm : T V} {ds : List ADef} {u : U} {σ : St} {b : Frame} {a : Act} {cs : List Frame} {w : World} (h : SR ng base fr e tm ds u σ b a cs w) {ops : Array Oper} {o : Oper} {r : Bool} (hw : wantA ops.toList tm o = some r) :
    Region.wanted o (yielded ops a.tmps) = r := wantA_sound hw (fun d _ hd => h.tm.rel d hd) h.tm.size

theorem opsK_sound {tab : Tab P} (hC : CallOk P ng C) {fr : Fr} {ops : Array Oper} {κ : OutT} {κp : List (V × Bool) → OutT} : ∀ (l : List Oper) (i : Nat) (tm : T V) (ds : List ADef) (u : U) (σ : St), ops.toList.drop i = l → AWf σ →
    opsK C ng tab fr ops.toList κ κp l tm ds u σ = true →
    (∃ tm' ds' u' σ', κ tm' ds' u' σ' = true ∧ AWf σ' ∧ AExt σ σ' ∧ ∀ base e (b : Frame) a cs w k, ng ≤ base → SR ng base fr e tm ds u σ b a cs w →
      To P ng base fr b e σ w cs (lone (b.atR a (.inRegion ops (List.range' i l.length) :: k)) cs w) k tm' ds' u' σ') ∨
    (∃ ch tm' ds' u' σ', κp ch tm' ds' u' σ' = true ∧ AWf σ' ∧ AExt σ σ' ∧ ∀ base e (b : Frame) a cs w k, ng ≤ base → SR ng base fr e tm ds u σ b a cs w →
      Pan P ng base fr b e σ w cs (lone (b.atR a (.inRegion ops (List.range' i l.length) :: k)) cs w) ch tm' ds' u' σ') := by
  intro l
  induction l with
  | nil =>
    intro i tm ds u σ hl hwf h
    left
    refine ⟨tm, ds, u, σ, h, hwf, .refl σ, fun base e b a cs w k hnb hs => ?_⟩
    exact To.one hs stepR_region_end
  | cons o l ih =>
    intro i tm ds u σ hl hwf h
    rw [opsK_cons] at h
    have ho : ops[i]? = some o := by
      rw [← Array.getElem?_toList, ← List.head?_drop, hl]; rfl
    have hl' : ops.toList.drop (i + 1) = l := by
      rw [← List.drop_drop, hl]; rfl
    have hrange : List.range' i (o :: l).length = i :: List.range' (i + 1) l.length := by simp [List.range'_succ]
    rw [hrange]
    split at h
    · rename_i hwant
      rcases opK_sound hC hwf h with ⟨v, ds', u', σ', h1, h2, h3, h4⟩ | ⟨ch, u', σ', h1, h2, h3, h4⟩
      · obtain ⟨h5, h6⟩ := putT_eq h1
        have first : ∀ base e (b : Frame) a cs w k, ng ≤ base → SR ng base fr e tm ds u σ b a cs w → To P ng base fr b e σ w cs (lone (b.atR a (.inRegion ops (i :: List.range' (i + 1) l.length) :: k)) cs w) (.inRegion ops (List.range' (i + 1) l.length) :: k) (putP o.dst v tm) ds' u' σ' := by
          intro base e b a cs w k hnb hs
          obtain ⟨e', dl, cs', w', z, g1, g2, g3, g4, g5, g6⟩ := h4 base e b a cs w ops i (List.range' (i + 1) l.length) k hs.room hnb hs.rel hs.glob hs.bf (fun x => evalA_sound hs.glob hs.tm x) hs.ds hs.kr ho (hs.want hwant)
          refine ⟨e', _, cs', w', g1, ⟨Nat.le_trans hs.room g5.size, g4, hs.glob.mono g5.le, hs.bf.mono g5.le, ?_, ?_, g6.kr⟩, g5, g6⟩
          · have := TR.put (a := { a with defers := dl }) (hs.tm.mono g5.le) h6 g2
            exact this
          · have : ({ a with defers := dl }.put o.dst z : Act).defers = dl := by cases o.dst <;> rfl
            rw [this]; exact g3
        rcases ih (i + 1) _ _ _ _ hl' h2 h5 with ⟨tm2, ds2, u2, σ2, k1, k2, k3, k4⟩ | ⟨ch, tm2, ds2, u2, σ2, k1, k2, k3, k4⟩
        · exact .inl ⟨tm2, ds2, u2, σ2, k1, k2, h3.trans k3, fun base e b a cs w k hnb hs => (first base e b a cs w k hnb hs).trans fun e a cs w hs' => k4 base e b a cs w k hnb hs'⟩
        · exact .inr ⟨ch, tm2, ds2, u2, σ2, k1, k2, h3.trans k3, fun base e b a cs w k hnb hs => (first base e b a cs w k hnb hs).pan fun e a cs w hs' => k4 base e b a cs w k hnb hs'⟩
      · right
        refine ⟨ch, tm, ds, u', σ', h1, h2, h3, fun base e b a cs w k hnb hs => ?_⟩
        obtain ⟨e', cs', w', C', g1, g2, g3, g4, g5⟩ := h4 base e b a cs w ops i (List.range' (i + 1) l.length) k hs.room hnb hs.rel hs.glob hs.bf (fun x => evalA_sound hs.glob hs.tm x) hs.kr ho (hs.want hwant)
        exact ⟨e', a, cs', w', _, C', g1, g2, ⟨Nat.le_trans hs.room g4.size, g3, hs.glob.mono g4.le, hs.bf.mono g4.le, hs.tm.mono g4.le, hs.ds.mono g4.le, g5.kr⟩, g4, g5⟩
    · rename_i hwant
      obtain ⟨h5, h6⟩ := putT_eq h
      have first : ∀ base e (b : Frame) a cs w k, ng ≤ base → SR ng base fr e tm ds u σ b a cs w → To P ng base fr b e σ w cs (lone (b.atR a (.inRegion ops (i :: List.range' (i + 1) l.length) :: k)) cs w) (.inRegion ops (List.range' (i + 1) l.length) :: k) (putP o.dst (.tup []) tm) ds u σ := by
        intro base e b a cs w k hnb hs
        have hsk := stepR_op_skip (P := P) (b := b) (a := a) (k := k) (cs := cs) (w := w) (ops := ops) (i := i) (rest := List.range' (i + 1) l.length) (by simp [ho]; exact hs.want hwant)
        have hdst : (ops[i]?).bind (·.dst) = o.dst := by rw [ho]; rfl
        rw [hdst] at hsk
        refine ⟨e, _, cs, w, .one hsk, ⟨hs.room, hs.rel, hs.glob, hs.bf, TR.put hs.tm h6 (by simp only [VR]; exact ⟨_, rfl, VRs.nil⟩), ?_, hs.kr⟩, .refl .., .refl hs.kr⟩
        have : (a.put o.dst undef).defers = a.defers := by cases o.dst <;> rfl
        rw [this]; exact hs.ds
      rcases ih (i + 1) _ _ _ _ hl' hwf h5 with ⟨tm2, ds2, u2, σ2, k1, k2, k3, k4⟩ | ⟨ch, tm2, ds2, u2, σ2, k1, k2, k3, k4⟩
      · exact .inl ⟨tm2, ds2, u2, σ2, k1, k2, k3, fun base e b a cs w k hnb hs => (first base e b a cs w k hnb hs).trans fun e a cs w hs' => k4 base e b a cs w k hnb hs'⟩
      · exact .inr ⟨ch, tm2, ds2, u2, σ2, k1, k2, k3, fun base e b a cs w k hnb hs => (first base e b a cs w k hnb hs).pan fun e a cs w hs' => k4 base e b a cs w k hnb hs'⟩
    · cases h
end
end Go.Proofs.YthagammlhhnpnaaGreatDoor.Ev

/-
  The evaluator's drawn regions: evaluated once, in the order of the text; what is checked, so that every order comes to the same.
-/
namespace Go.Proofs.YthagammlhhnpnaaGreatDoor.Ev

/-! ### quiet allocations -/
section
variable {P : Program}

noncomputable def newO (tab : Tab P) (ρ : Operand → V) (op : Op) (κ : Ob → (Nat → V) → Bool) : Bool :=
  match op with
  | .alloc elem =>
    match tab.ty elem with
    | some ti => match ti.zero.cellsA with | some l => κ (.cells elem l false false) fun id => .ptr id 0 | none => false
    | none => false
  | .box elem x => headV (ρ x) fun v => match v.cellsA with | some l => κ (.cells elem l false false) fun id => .ptr id 0 | none => false
  | .buildSlice t len parts =>
    match tab.ty t with
    | some ti =>
      match ti.desc with
      | .slice elem =>
        match tab.ty elem with
        | some eti =>
          bif Nat.ble (Nat.mul len eti.size) 16777216 then
            match zerosA eti len with
            | some zs => partsK ρ parts.toList fun ps =>
              match fillA (fun i => some (Nat.mul i eti.size, eti.size)) zs ps with
              | some cs => lappK cs [] fun cs => κ (.cells elem cs false false) fun id => .slice id 0 eti.size len (some len)
              | none => false
            | none => false
          else false
        | none => false
      | _ => false
    | none => false
  | .makeSlice t l c =>
    match tab.ty t, ρ l, ρ c with
    | some ti, .int _ (.ofNat l), .int _ (.ofNat c) =>
      match ti.desc with
      | .slice elem =>
        match tab.ty elem with
        | some eti =>
          bif Nat.ble l c && Nat.blt c 4294967296 && Nat.ble (Nat.mul eti.bytes c) 281474976710656 then
            match zerosA eti c with
            | some zs => lappK zs [] fun zs => κ (.cells elem zs false false) fun id => .slice id 0 eti.size l (some c)
            | none => false
          else false
        | none => false
      | _ => false
    | _, _, _ => false
  | .makeMap _ none => κ (.map [] 0) fun id => .mapv id
  | _ => false

theorem fill_size : ∀ (l : List (Nat × Value)) (c o : Array Value) (pl : Nat → Option (Nat × Nat)), Instr.fill pl c l = some o → o.size = c.size := by
  intro l
  induction l with
  | nil => intro c o pl hf; simp only [Instr.fill, Option.some.injEq] at hf; rw [← hf]
  | cons p l ih =>
    intro c o pl hf
    obtain ⟨i, v⟩ := p
    simp only [Instr.fill] at hf
    split at hf
    · cases hf
    · split at hf
      · cases hf
      · rw [ih _ _ _ hf]
        have hz : ∀ (zl : List (Value × Nat)) (cs : Array Value) (off : Nat), (zl.foldl (fun (cs : Array Value) (p : Value × Nat) => cs.setIfInBounds (off + p.2) p.1) cs).size = cs.size := by
          intro zl
          induction zl with
          | nil => intro cs off; rfl
          | cons q zl ih2 => intro cs off; rw [List.foldl_cons, ih2]; simp
        rw [← Array.foldl_toList]
        exact hz _ _ _

theorem buildSlice_run {t elem : TypeId} {eti : TI} (hu : P.underlying t = some (.slice elem)) (oke : TIok P elem eti) {len : Nat} (hlim : len * eti.size ≤ 16777216) {zs cs : List V} (hzs : zerosA eti len = some zs) {e : Env} {parts : List (Nat × V)} {PARTS : Array (Nat × Value)}
    (hcs : fillA (fun i => some (Nat.mul i eti.size, eti.size)) zs parts = some cs) (hp : PRs e parts PARTS.toList) :
    ∃ OUT : Array Value, VRs e cs OUT.toList ∧ OUT.size = len * eti.size ∧ ∀ w : World, (Instr.buildSlice t len PARTS).run P w = .ok (.slice (some ⟨w.heap.size, 0, none⟩) len len) (w.alloc (.cells OUT elem)) := by
  obtain ⟨Z, c, rfl, z2, z3, z4⟩ := zerosA_sound oke hzs e
  obtain ⟨OUT, f1, f2⟩ := fillA_sound _ _ _ _ _ hp hcs z2
  refine ⟨OUT, f2, by rw [fill_size _ _ _ _ f1, z3], fun w => ?_⟩
  have hno : ¬ len * eti.size > 2 ^ 24 := by omega
  have z4' := z4 w
  have g1 : (newRow elem OUT).run P w = .ok ⟨w.heap.size, 0, none⟩ (w.alloc (.cells OUT elem)) := rfl
  simp only [Instr.buildSlice, Sem.run_bind, Go.run_underlying hu, Result.andThen_ok, oke.run_sizeOf, hno, if_false, Sem.run_pure]
  have f1' : Instr.fill (fun i => some (i * eti.size, eti.size)) ((Array.range (len * eti.size)).map (Z[· % Z.size]!)) PARTS.toList = some OUT := f1
  by_cases h0 : len * eti.size = 0
  · rw [if_pos h0] at z4' ⊢
    simp only [Sem.run_pure, Result.ok.injEq, and_true] at z4'
    subst z4'
    simp only [Sem.run_bind, Sem.run_pure, Result.andThen_ok]
    rw [f1']
    simp only [Sem.run_bind, g1, Result.andThen_ok, Sem.run_pure]
  · rw [if_neg h0] at z4' ⊢
    simp only [Sem.run_bind, Sem.run_pure] at z4' ⊢
    cases hz : (zeroValue elem).run P w with
    | halt x w1 => rw [hz] at z4'; cases z4'
    | ok zv w1 =>
      rw [hz] at z4'
      simp only [Result.andThen_ok, Result.ok.injEq] at z4'
      obtain ⟨rfl, rfl⟩ := z4'
      simp only [Result.andThen_ok]
      rw [f1']
      simp only [Sem.run_bind, g1, Result.andThen_ok, Sem.run_pure]

theorem makeSlice_run {t elem : TypeId} {eti : TI} (hu : P.underlying t = some (.slice elem)) (oke : TIok P elem eti) {l c : Nat} (hlc : l ≤ c) (hcm : c < 4294967296) (hcb : eti.bytes * c ≤ 281474976710656) {zs : List V} (hzs : zerosA eti c = some zs) (e : Env) (lk ck : IntKind) :
    ∃ OUT : Array Value, VRs e zs OUT.toList ∧ OUT.size = c * eti.size ∧ ∀ w : World, (Instr.makeSlice t (.int lk (.ofNat l)) (.int ck (.ofNat c))).run P w = .ok (.slice (some ⟨w.heap.size, 0, none⟩) l c) (w.alloc (.cells OUT elem)) := by
  obtain ⟨i, i1, i2, i3, _, zv, i5, _⟩ := oke.info
  obtain ⟨Z, ce, hce, z2, z3, z4⟩ := zerosA_sound oke hzs e
  refine ⟨ce, z2, z3, fun w => ?_⟩
  have z4' := z4 w
  have hcem : ce = madeCells zv.cells (c * i.size) := by
    rw [hce, i2]
    unfold madeCells
    by_cases h0 : c * eti.size = 0
    · rw [h0]; simp
    · rw [if_neg h0] at z4'
      simp [zeroValue, typeInfo, i1, i5] at z4'
      rw [z4']
  have hrun := run_make (P := P) w t elem i zv hu i1 i5 lk ck (l : Int) (c : Int) (by omega) (by omega) (by rw [i3, ← Int.natCast_mul]; exact Int.ofNat_le.2 hcb) (by omega)
  rw [hcem]
  exact hrun

/-- what a quiet allocation does, in whatever state: the block's number is 'id' -/
def NewOk (P : Program) (ρ : Operand → V) (o : Oper) (ob : Ob) (mk : Nat → V) : Prop :=
  ob.isNo = false ∧ ∀ e w R id, ¬ e.M id → (∀ x, VR e (ρ x) (R x)) → ∃ obj size z, (execOp R o).run P w = .ok (.value z) (w.alloc obj) ∧ OR (e.more id w.heap.size size) ob id obj ∧ VR (e.more id w.heap.size size) (mk id) z

theorem row_or {e : Env} {id blk : Nat} {elem : TypeId} {l : List V} {c : Array Value} (hn : ¬ e.M id) (hc : VRs e l c.toList) : OR (e.more id blk c.size) (.cells elem l false false) id (.cells c elem) :=
  ⟨c, (0, 0), c.toList, [], rfl, by simp, VRs.mono (Env.le_more e id blk c.size hn) _ _ hc, by simp [Env.more], fun _ => rfl, fun _ => rfl⟩

theorem newO_ok {tab : Tab P} {ρ : Operand → V} {o : Oper} {κ : Ob → (Nat → V) → Bool} (h : newO tab ρ o.op κ = true) : ∃ ob mk, κ ob mk = true ∧ NewOk P ρ o ob mk := by
  have val : ∀ {s : Sem Value} {z : Value} {w w' : World}, s.run P w = .ok z w' → (do pure (.value (← s)) : Sem Next).run P w = .ok (.value z) w' := by
    intro s z w w' hs
    rw [Sem.run_bind, hs]
    rfl
  obtain ⟨dst, op, ty, pos, after, guard⟩ := o
  simp only at h
  unfold newO at h
  split at h
  · rename_i elem
    split at h
    · rename_i ti hti
      have ok := tab.tyOk _ _ hti
      obtain ⟨z, hz1, hz2⟩ := ok.run_zero
      split at h
      · rename_i l hl
        refine ⟨_, _, h, rfl, fun e w R id hn hρ => ?_⟩
        have hc := V.cellsA_sound hl (hz1 e)
        refine ⟨.cells z.cells elem, z.cells.size, .pointer (some ⟨w.heap.size, 0, none⟩), val ?_, row_or hn hc, ?_⟩
        · simp only [Instr.alloc, Sem.run_bind, hz2, Result.andThen_ok]
          rfl
        · simp only [VR]; exact ⟨.inr rfl, by simp [Env.more]⟩
      · cases h
    · cases h
  · rename_i elem x
    rw [headV_eq] at h
    split at h
    · rename_i l hl
      refine ⟨_, _, h, rfl, fun e w R id hn hρ => ?_⟩
      have hc := V.cellsA_sound hl (hρ x)
      refine ⟨.cells (R x).cells elem, (R x).cells.size, .pointer (some ⟨w.heap.size, 0, none⟩), val rfl, row_or hn hc, ?_⟩
      simp only [VR]; exact ⟨.inr rfl, by simp [Env.more]⟩
    · cases h
  · rename_i t len parts
    split at h
    · rename_i ti hti
      have ok := tab.tyOk _ _ hti
      split at h
      · rename_i elem hd
        have hu := ok.under
        rw [hd] at hu
        split at h
        · rename_i eti heti
          have oke := tab.tyOk _ _ heti
          rw [cond_eq_ite] at h
          split at h
          · rename_i hlim
            split at h
            · rename_i zs hzs
              rw [partsK_eq] at h
              split at h
              · rename_i cs hcs
                rw [lappK_eq, List.append_nil] at h
                refine ⟨_, _, h, rfl, fun e w R id hn hρ => ?_⟩
                obtain ⟨OUT, f1, f2, f3⟩ := buildSlice_run hu oke (Nat.le_of_ble_eq_true hlim) hzs (PARTS := parts.map fun (i, x) => (i, R x)) hcs (by rw [Array.toList_map]; exact PRs.map hρ _)
                refine ⟨.cells OUT elem, OUT.size, .slice (some ⟨w.heap.size, 0, none⟩) len len, val (f3 w), row_or hn f1, ?_⟩
                simp only [VR]
                refine ⟨.inr rfl, len, by simp [Env.more], Nat.le_refl _, ?_, by simp, by simp⟩
                simp [Env.more, f2]
              · cases h
            · cases h
          · cases h
        · cases h
      · cases h
    · cases h
  · rename_i t l c
    split at h
    · rename_i ti lk l' ck c' hti hl hc
      have ok := tab.tyOk _ _ hti
      split at h
      · rename_i elem hd
        have hu := ok.under
        rw [hd] at hu
        split at h
        · rename_i eti heti
          have oke := tab.tyOk _ _ heti
          rw [cond_eq_ite] at h
          split at h
          · rename_i hc0
            simp only [Bool.and_eq_true] at hc0
            obtain ⟨⟨hc1, hc2⟩, hc3⟩ := hc0
            split at h
            · rename_i zs hzs
              rw [lappK_eq, List.append_nil] at h
              refine ⟨_, _, h, rfl, fun e w R id hn hρ => ?_⟩
              obtain ⟨OUT, f1, f2, f3⟩ := makeSlice_run hu oke (Nat.le_of_ble_eq_true hc1) (blt_lt hc2) (Nat.le_of_ble_eq_true hc3) hzs e lk ck
              have h1 := hρ l
              have h2 := hρ c
              rw [hl] at h1
              rw [hc] at h2
              simp only [VR] at h1 h2
              refine ⟨.cells OUT elem, OUT.size, .slice (some ⟨w.heap.size, 0, none⟩) l' c', val ?_, row_or hn f1, ?_⟩
              · show (Instr.makeSlice t (R l) (R c)).run P w = _
                rw [h1, h2]; exact f3 w
              · simp only [VR]
                refine ⟨.inr rfl, c', by simp [Env.more], Nat.le_of_ble_eq_true hc1, ?_, by simp, by simp⟩
                simp [Env.more, f2]
            · cases h
          · cases h
        · cases h
      · cases h
    · cases h
  · rename_i t
    refine ⟨_, _, h, rfl, fun e w R id hn hρ => ?_⟩
    refine ⟨.map #[] 0, 0, .map (some w.heap.size), val rfl, ⟨#[], rfl, trivial⟩, ?_⟩
    simp only [VR]; exact ⟨.inr rfl, by simp [Env.more]⟩
  · cases h
end
end Go.Proofs.YthagammlhhnpnaaGreatDoor.Ev

/-
  An operation of the evaluator looks at its operands alone.
-/
namespace Go.Proofs.YthagammlhhnpnaaGreatDoor.Ev
section
variable {P : Program} {ng : Nat} {C : CallT} {tab : Tab P} {ρ ρ' : Operand → V}

theorem map_congr' {l : List Operand} (h : ∀ x ∈ l, ρ x = ρ' x) : l.map ρ = l.map ρ' := List.map_congr_left h
theorem parts_congr {l : List (Nat × Operand)} (h : ∀ p ∈ l, ρ p.2 = ρ' p.2) : (l.map fun p => (p.1, ρ p.2)) = (l.map fun p => (p.1, ρ' p.2)) :=
  List.map_congr_left fun p hp => by rw [h p hp]

theorem pureA_congr (op : Op) (h : ∀ x ∈ op.operands, ρ x = ρ' x) : pureA tab ρ op = pureA tab ρ' op := by
  cases op <;> simp only [Op.operands] at h <;> simp only [pureA]
  case build t ps => rw [parts_congr fun p hp => h _ (by simp; exact ⟨p.1, by simpa using hp⟩)]
  case makeFunc fn first captured => rw [map_congr' fun x hx => h x (by simp; exact .inl (by simpa using hx)), map_congr' fun x hx => h x (by simp; exact .inr (by simpa using hx))]
  case slice t x lo hi mx => cases lo <;> cases hi <;> cases mx <;> simp_all [mapOp]
  case call c =>
    obtain ⟨callee, args, ts⟩ := c
    simp only
    split
    · split
      · rename_i t x ht hx
        have hxa : args = #[x] := by apply Array.ext'; simpa using hx
        subst hxa
        rw [h x (by simp [Call.operands])]
      · rfl
    · split
      · rename_i x y hx
        have hxa : args = #[x, y] := by apply Array.ext'; simpa using hx
        subst hxa
        rw [h x (by simp [Call.operands]), h y (by simp [Call.operands])]
      · rfl
    · split
      · rename_i x y hx
        have hxa : args = #[x, y] := by apply Array.ext'; simpa using hx
        subst hxa
        rw [h x (by simp [Call.operands]), h y (by simp [Call.operands])]
      · rfl
    · split
      · rename_i t x ht hx
        have hxa : args = #[x] := by apply Array.ext'; simpa using hx
        subst hxa
        rw [h x (by simp [Call.operands])]
      · rfl
    · split
      · rename_i x hx
        have hxa : args = #[x] := by apply Array.ext'; simpa using hx
        subst hxa
        rw [h x (by simp [Call.operands])]
      · rfl
    · rfl
  all_goals (first | rfl | (simp_all; done))

theorem pureK_congr (op : Op) (κ : V → Bool) (h : ∀ x ∈ op.operands, ρ x = ρ' x) : pureK tab ρ op κ = pureK tab ρ' op κ := by
  have hp := pureA_congr (tab := tab) op h
  cases op <;> simp only [Op.operands] at h <;> simp only [pureK]
  case build t ps => rw [partsK_eq, partsK_eq, parts_congr fun p hp => h _ (by simp; exact ⟨p.1, by simpa using hp⟩)]
  case makeFunc fn first captured =>
    split
    · rw [mapVK_eq, mapVK_eq, mapVK_eq, mapVK_eq, map_congr' fun x hx => h x (by simp; exact .inl (by simpa using hx)), map_congr' fun x hx => h x (by simp; exact .inr (by simpa using hx))]
    · rfl
  all_goals (first | rfl | (rw [hp]; done) | (simp_all; done))

theorem memK_congr (op : Op) (σ : St) (κ : V → St → Bool) (h : ∀ x ∈ op.operands, ρ x = ρ' x) : memK ng tab ρ op σ κ = memK ng tab ρ' op σ κ := by
  cases op <;> simp only [Op.operands] at h <;> simp only [memK]
  case buildSlice t n ps => rw [partsK_eq, partsK_eq, parts_congr fun p hp => h _ (by simp; exact ⟨p.1, by simpa using hp⟩)]
  case makeMap t r => cases r <;> rfl
  case next x s => cases s <;> simp_all
  case call c =>
    obtain ⟨callee, args, ts⟩ := c
    simp only
    split
    · split
      · rename_i t tx s x ht hx
        have hxa : args = #[s, x] := by apply Array.ext'; simpa using hx
        subst hxa
        rw [h s (by simp [Call.operands]), h x (by simp [Call.operands])]
      · rfl
    · split
      · rename_i t x ht hx
        have hxa : args = #[x] := by apply Array.ext'; simpa using hx
        subst hxa
        rw [h x (by simp [Call.operands])]
      · rfl
    · split
      · rename_i t it x y ht hx
        have hxa : args = #[x, y] := by apply Array.ext'; simpa using hx
        subst hxa
        rw [h x (by simp [Call.operands]), h y (by simp [Call.operands])]
      · rfl
    · split
      · rename_i t it x y ht hx
        have hxa : args = #[x, y] := by apply Array.ext'; simpa using hx
        subst hxa
        rw [h x (by simp [Call.operands]), h y (by simp [Call.operands])]
      · rfl
    · rfl
  all_goals (first | rfl | (simp_all; done))

theorem newO_congr (op : Op) (κ : Ob → (Nat → V) → Bool) (h : ∀ x ∈ op.operands, ρ x = ρ' x) : newO tab ρ op κ = newO tab ρ' op κ := by
  cases op <;> simp only [Op.operands] at h <;> simp only [newO]
  case makeMap t r => cases r <;> rfl
  case buildSlice t n ps =>
    have he := parts_congr (ρ := ρ) (ρ' := ρ') (l := ps.toList) fun p hp => h _ (by simp; exact ⟨p.1, by simpa using hp⟩)
    simp only [partsK_eq, he]
  all_goals (first | rfl | (simp_all; done))

theorem opK_congr (fr : Fr) (op : Op) (ds : List ADef) (u : U) (σ : St) (κ : V → List ADef → U → St → Bool) (κp : List (V × Bool) → U → St → Bool) (h : ∀ x ∈ op.operands, ρ x = ρ' x) :
    opK C ng tab fr ρ op ds u σ κ κp = opK C ng tab fr ρ' op ds u σ κ κp := by
  have hp := fun κ => pureK_congr (tab := tab) op κ h
  have hm := fun σ κ => memK_congr (ng := ng) (tab := tab) op σ κ h
  have ha := pureA_congr (tab := tab) op h
  cases op <;> simp only [opK]
  case call c =>
    split
    · rename_i f hf
      obtain ⟨callee, args, ts⟩ := c
      simp only at hf
      subst hf
      simp only [Op.operands] at h
      rw [headV_eq, headV_eq, mapVK_eq, mapVK_eq, h f (by simp [Call.operands]), map_congr' fun x hx => h x (by simp [Call.operands]; exact .inr (by simpa using hx))]
    · rfl
    · rw [hm]
    · rw [hm]
    · rw [hm]
    · rw [ha, hm]
    · rw [hp]
  case defer c =>
    obtain ⟨callee, args, ts⟩ := c
    simp only
    split
    · rename_i f hrd
      simp only [Op.operands] at h
      rw [h f (by simp [Call.operands])]
      split
      · rw [mapVK_eq, mapVK_eq, map_congr' fun x hx => h x (by simp [Call.operands]; exact .inr (by simpa using hx))]
      · rfl
    · rfl
  case panic x => rw [h x (by simp [Op.operands])]
  case convert s d x =>
    rw [h x (by simp [Op.operands])]
    split
    · rw [hm]
    · rw [hp]
  all_goals (first | (rw [hm]; done) | (rw [hp]; done) | rfl)
end
end Go.Proofs.YthagammlhhnpnaaGreatDoor.Ev

/-
  Values that mention blocks below a bound only; environments cut at a bound.
-/
namespace Go.Proofs.YthagammlhhnpnaaGreatDoor.Ev

mutual
/-- a value mentions blocks below 'n' only -/
def V.bd (n : Nat) : V → Bool
  | .ptr b _ => Nat.blt b n
  | .slice b _ _ _ _ => Nat.blt b n
  | .mapv b => Nat.blt b n
  | .yieldf b => Nat.blt b n
  | .func _ f c => V.bds n f && V.bds n c
  | .iface _ v => V.bd n v
  | .agg l => V.bds n l
  | .tup l => V.bds n l
  | _ => true
def V.bds (n : Nat) : List V → Bool
  | [] => true
  | v :: l => V.bd n v && V.bds n l
end

def Env.cut (e : Env) (n : Nat) : Env := ⟨fun i => e.M i ∧ i < n, e.blk, e.size⟩

theorem Env.cut_le (e : Env) (n : Nat) : (e.cut n).le e := ⟨fun _ h => ⟨h.1, rfl, rfl⟩⟩
theorem Env.cut_mono {e e' : Env} {n n' : Nat} (h : e.le e') (hn : n ≤ n') : (e.cut n).le (e'.cut n') :=
  ⟨fun i hi => let ⟨h1, h2, h3⟩ := h.mono i hi.1; ⟨⟨h1, Nat.lt_of_lt_of_le hi.2 hn⟩, h2, h3⟩⟩

mutual
theorem VR.cut {e : Env} {n : Nat} : ∀ (v : V) (x : Value), v.bd n = true → VR e v x → VR (e.cut n) v x
  | .int .., _, _, r | .bool _, _, _, r | .str _, _, _, r | .nilp, _, _, r | .nils, _, _, r | .emp, _, _, r | .nilm, _, _, r | .nilf, _, _, r | .nili, _, _, r | .junk, _, _, r => by simp only [VR] at r ⊢ <;> exact r
  | .ptr b o, x, h, r => by
    simp only [VR] at r ⊢
    exact ⟨⟨r.1, blt_lt h⟩, r.2⟩
  | .slice b o es len cap, x, h, r => by
    simp only [VR] at r ⊢
    exact ⟨⟨r.1, blt_lt h⟩, r.2⟩
  | .mapv b, x, h, r => by
    simp only [VR] at r ⊢
    exact ⟨⟨r.1, blt_lt h⟩, r.2⟩
  | .yieldf b, x, h, r => by
    simp only [VR] at r ⊢
    exact ⟨⟨r.1, blt_lt h⟩, r.2⟩
  | .func fn f c, x, h, r => by
    simp only [V.bd, Bool.and_eq_true] at h
    simp only [VR] at r ⊢
    obtain ⟨r0, a, b, r1, r2, r3⟩ := r
    exact ⟨r0, a, b, r1, VRs.cut f _ h.1 r2, VRs.cut c _ h.2 r3⟩
  | .iface t v, x, h, r => by
    simp only [V.bd] at h
    simp only [VR] at r ⊢
    obtain ⟨y, r1, r2⟩ := r
    exact ⟨y, r1, VR.cut v y h r2⟩
  | .agg l, x, h, r => by
    simp only [V.bd] at h
    simp only [VR] at r ⊢
    obtain ⟨a, r1, r2⟩ := r
    exact ⟨a, r1, VRs.cut l _ h r2⟩
  | .tup l, x, h, r => by
    simp only [V.bd] at h
    simp only [VR] at r ⊢
    obtain ⟨a, r1, r2⟩ := r
    exact ⟨a, r1, VRs.cut l _ h r2⟩
theorem VRs.cut {e : Env} {n : Nat} : ∀ (l : List V) (m : List Value), V.bds n l = true → VRs e l m → VRs (e.cut n) l m
  | [], [], _, _ => VRs.nil
  | v :: l, x :: m, h, r => by
    simp only [V.bds, Bool.and_eq_true] at h
    simp only [VRs] at r
    exact VRs.cons (VR.cut v x h.1 r.1) (VRs.cut l m h.2 r.2)
  | [], _ :: _, _, r => by simp only [VRs] at r
  | _ :: _, [], _, r => by simp only [VRs] at r
end

/-- environments that say the same of what they know -/
theorem Rel.congr {ng base : Nat} {e e' : Env} {σ : St} {w : World} (h : Rel ng base e σ w) (hle : e.le e') (hM : ∀ i, e'.M i → e.M i) : Rel ng base e' σ w where
  next := h.next
  lim := fun i hi => h.lim i (hM i hi)
  there := fun i hi => by rw [(hle.mono i (hM i hi)).2.1]; exact h.there i (hM i hi)
  obj := fun i hi hn => by
    obtain ⟨o, h1, h2⟩ := h.obj i (hM i hi) hn
    exact ⟨o, by rw [(hle.mono i (hM i hi)).2.1]; exact h1, h2.mono hle (hM i hi)⟩
  inj := fun i j hi hj hni hnj he => h.inj i j (hM i hi) (hM j hj) hni hnj (by rw [(hle.mono i (hM i hi)).2.1, (hle.mono j (hM j hj)).2.1] at he; exact he)
  own := fun i hi hg => by rw [(hle.mono i (hM i hi)).2.1]; exact h.own i (hM i hi) hg
  fresh := h.fresh

end Go.Proofs.YthagammlhhnpnaaGreatDoor.Ev

/-
  The evaluator's drawn regions: the run in the order of the text, with what is checked of each pair of operations, as a record.
-/
namespace Go.Proofs.YthagammlhhnpnaaGreatDoor.Ev

theorem orMap {a b c : Prop} (f : b → c) (h : a ∨ b) : a ∨ c := by
  rcases h with h | h
  · exact .inl h
  · exact .inr (f h)

/-- which operations are evaluated how: 0: no memory; 1: a reading; 2: a quiet allocation; 3: all others, which keep their order -/
def opClass : Op → Nat
  | .load .. => 1
  | .alloc .. | .box .. | .buildSlice .. | .makeSlice .. | .makeMap _ none => 2
  | .move _ | .assign _ | .pick .. | .build .. | .nilCheck _ | .binOp .. | .unOp .. | .convert .. | .makeInterface .. | .makeFunc .. | .slice .. | .fieldAddr .. | .field .. | .indexAddr .. | .index .. | .typeAssert .. | .extract .. => 0
  | .call c =>
    match c.callee with
    | .builtin .len | .builtin .max | .builtin .cap | .builtin .min | .builtin .unsafeSliceData => 0
    | _ => 3
  | _ => 3

noncomputable def dirB (o : Oper) (j : Nat) : Bool :=
  List.rec (motive := fun _ => Bool) false (fun e _ ih => Bool.rec (motive := fun _ => Bool) ih (Region.binds .any e) (Nat.beq e.on j)) o.after.toList

theorem dirB_spec {o : Oper} {j : Nat} (h : dirB o j = true) : ∃ e ∈ o.after, Region.binds .any e = true ∧ e.on = j := by
  have key : ∀ l : List Edge, (List.rec (motive := fun _ => Bool) false (fun e _ ih => Bool.rec (motive := fun _ => Bool) ih (Region.binds .any e) (Nat.beq e.on j)) l : Bool) = true → ∃ e ∈ l, Region.binds .any e = true ∧ e.on = j := by
    intro l
    induction l with
    | nil => intro h; cases h
    | cons e l ih =>
      intro h
      have h' : Bool.rec (motive := fun _ => Bool) (List.rec (motive := fun _ => Bool) false (fun e _ ih => Bool.rec (motive := fun _ => Bool) ih (Region.binds .any e) (Nat.beq e.on j)) l) (Region.binds .any e) (Nat.beq e.on j) = true := h
      cases hb : Nat.beq e.on j with
      | true =>
        rw [hb] at h'
        exact ⟨e, by simp, h', Nat.eq_of_beq_eq_true hb⟩
      | false =>
        rw [hb] at h'
        obtain ⟨x, h1, h2⟩ := ih h'
        exact ⟨x, by simp [h1], h2⟩
  obtain ⟨e, h1, h2⟩ := key _ h
  exact ⟨e, by simpa using h1, h2⟩

/-- whether an operation comes behind the j-th in every order: by its own edge, or by edges of those that it hangs on -/
noncomputable def goB (L : List Oper) : Nat → Oper → Nat → Bool
  | 0, o, j => dirB o j
  | n + 1, o, j => dirB o j || o.after.toList.any fun e => Region.binds .any e && (Nat.blt j e.on && match lget L e.on with | some ok => goB L n ok j | none => false)
noncomputable def ordB (L : List Oper) (o : Oper) (j : Nat) : Bool := goB L 5 o j
noncomputable def ordC (L : List Oper) (o : Oper) (j : Nat) (c : Bool) : Bool := dirB o j || (c || ordB L o j)
theorem ordB_dir {L : List Oper} {o : Oper} {j : Nat} (h : dirB o j = true) : ordB L o j = true := by
  simp only [ordB, goB, h, Bool.true_or]
theorem ordC_spec {L : List Oper} {o : Oper} {j : Nat} {c : Bool} (h : ordC L o j c = true) : ordB L o j = true ∨ c = true := by
  unfold ordC at h
  simp only [Bool.or_eq_true] at h
  rcases h with h | h | h
  · exact .inl (ordB_dir h)
  · exact .inr h
  · exact .inl h

theorem goB_in {ops : Array Oper} {S : List Nat} (hcl : ∀ i ∈ S, ∀ o, ops[i]? = some o → ∀ e ∈ o.after, Region.binds .any e = true → e.on ∈ S) : ∀ (n : Nat) (o : Oper) (j : Nat),
    (∀ e ∈ o.after, Region.binds .any e = true → e.on ∈ S) → goB ops.toList n o j = true → j ∈ S
  | 0, o, j, hp, h => by
    obtain ⟨e, h1, h2, h3⟩ := dirB_spec h
    have := hp e h1 h2
    rwa [h3] at this
  | n + 1, o, j, hp, h => by
    simp only [goB, Bool.or_eq_true, List.any_eq_true, Bool.and_eq_true] at h
    rcases h with h | ⟨e, h1, h2, h3, h4⟩
    · obtain ⟨e, h1, h2, h3⟩ := dirB_spec h
      have := hp e h1 h2
      rwa [h3] at this
    · have hS := hp e (by simpa using h1) h2
      rw [lget_eq, Array.getElem?_toList] at h4
      split at h4
      · rename_i ok hok
        exact goB_in hcl n ok j (fun e' h' hb' => hcl _ hS ok hok e' h' hb') h4
      · cases h4

def opTmps (o : Oper) : List Tmp := o.op.operands.toList.filterMap fun | .tmp t => some t | _ => none
noncomputable def gdTmp (L : List Oper) (o : Oper) : List Tmp :=
  match o.guard with
  | some (g, _) => match lget L g with | some og => og.dst.toList | none => []
  | none => []
noncomputable def looksA (L : List Oper) (o : Oper) : List Tmp := opTmps o ++ gdTmp L o

noncomputable def pairB (L : List Oper) (oi : Oper) (oj : Oper) (j : Nat) : Bool :=
  (match oi.dst, oj.dst with | some d, some d' => !(Nat.beq d d') | _, _ => true) &&
  (match oj.dst with | some d => !((looksA L oi).contains d) || ordB L oi j | none => true) &&
  (match oi.dst with | some d => !((looksA L oj).contains d) || ordB L oi j | none => true)

noncomputable def staticB (L : List Oper) : Bool :=
  L.zipIdx.all fun p => p.1.after.toList.all (fun e => !(Region.binds .any e) || Nat.blt e.on p.2) && L.zipIdx.all fun q => !(Nat.blt q.2 p.2) || pairB L p.1 q.1 q.2

noncomputable def allL {α : Type} (f : α → Bool) : List α → Bool := fun l => List.rec (motive := fun _ => Bool) true (fun a _ ih => Bool.rec (motive := fun _ => Bool) false ih (f a)) l
theorem allL_spec {α : Type} {f : α → Bool} : ∀ {l : List α}, allL f l = true → ∀ a ∈ l, f a = true
  | [], _, _, ha => by cases ha
  | b :: l, h, a, ha => by
    have h' : Bool.rec (motive := fun _ => Bool) false (allL f l) (f b) = true := h
    cases hb : f b with
    | false => rw [hb] at h'; cases h'
    | true =>
      rw [hb] at h'
      rcases List.mem_cons.1 ha with rfl | ha
      · exact hb
      · exact allL_spec (l := l) h' a ha

/-- the cells of a new block mention older blocks only -/
noncomputable def obBd (n : Nat) (ob : Ob) : Bool :=
  match ob with
  | .cells _ l _ _ => allL (fun v => v.bd n) l
  | .map [] _ => true
  | _ => false
noncomputable def opsBd (n : Nat) (ρ : Operand → V) (o : Oper) : Bool := allL (fun x => (ρ x).bd n) o.op.operands.toList

inductive Kd where
  | skip
  | quiet
  | load (b x n : Nat)
  | new (ob : Ob)
  | eff (log : List (Nat × Nat × Nat))

structure Tr where
  i : Nat
  o : Oper
  kd : Kd
  v : V
  tm : T V
  ds : List ADef
  u : U
  σ : St

/-- no entry of a log is of these cells -/
noncomputable def clearB (log : List (Nat × Nat × Nat)) (b x n : Nat) : Bool := allL (fun p => Bool.rec (motive := fun _ => Bool) true (Nat.ble (Nat.add p.2.1 p.2.2) x || Nat.ble (Nat.add x n) p.2.1) (Nat.beq p.1 b)) log
def ClearC (log : List (Nat × Nat × Nat)) (b x n : Nat) : Prop := ∀ p ∈ log, p.1 = b → p.2.1 + p.2.2 ≤ x ∨ x + n ≤ p.2.1
theorem clearB_spec {log : List (Nat × Nat × Nat)} {b x n : Nat} (h : clearB log b x n = true) : ClearC log b x n := by
  intro p hp he
  have := allL_spec h p hp
  have hb : Nat.beq p.1 b = true := by rw [he]; exact Nat.beq_refl b
  rw [hb] at this
  simp only [Bool.or_eq_true] at this
  rcases this with h | h
  · exact .inl (Nat.le_of_ble_eq_true h)
  · exact .inr (Nat.le_of_ble_eq_true h)
noncomputable def noneB (log : List (Nat × Nat × Nat)) (b : Nat) : Bool := allL (fun p => !(Nat.beq p.1 b)) log
theorem noneB_spec {log : List (Nat × Nat × Nat)} {b : Nat} (h : noneB log b = true) : ∀ p ∈ log, p.1 ≠ b := by
  intro p hp he
  have := allL_spec h p hp
  rw [he, Nat.beq_refl] at this
  cases this

noncomputable def lastEff : List Tr → Option Nat := fun l => List.rec (motive := fun _ => Option Nat) none (fun s _ ih => match s.kd with | .eff _ => some s.i | _ => ih) l

/-- what is checked of an operation that keeps its order, against those before it -/
noncomputable def effB (L : List Oper) (o : Oper) (log : List (Nat × Nat × Nat)) (hist : List Tr) : Bool :=
  (match lastEff hist with | some j => ordB L o j | none => true) &&
  allL (fun s => match s.kd with | .load b x n => ordC L o s.i (clearB log b x n) | .new _ => ordC L o s.i (noneB log s.σ.next) | _ => true) hist
noncomputable def loadB (L : List Oper) (o : Oper) (b x n : Nat) (hist : List Tr) : Bool :=
  allL (fun s => match s.kd with | .eff log => ordC L o s.i (clearB log b x n) | .new _ => !(Nat.beq b s.σ.next) | _ => true) hist
/-- whether all that come behind hang on the i-th -/
noncomputable def hangB (i : Nat) (rest : List Oper) : Bool := allL (fun o => !(allL (fun e => !(Region.binds .any e && Nat.ble i e.on)) o.after.toList)) rest

def V.undefV : V := .tup []

noncomputable def junkK (L : List Oper) (tm : T V) (κ : T V → Bool) : Bool :=
  List.rec (motive := fun _ => T V → Bool) κ (fun (o : Oper) _ ih tm => match o.dst with | some d => bif Nat.blt d 512 then T.setK V.undefV V.junk dt d tm ih else false | none => ih tm) L tm
noncomputable def junkP : List Oper → T V → T V
  | [], tm => tm
  | o :: L, tm => junkP L (match o.dst with | some d => T.set V.undefV V.junk dt d tm | none => tm)
theorem junkK_eq : ∀ (L : List Oper) (tm : T V) (κ : T V → Bool), junkK L tm κ = true → κ (junkP L tm) = true ∧ ∀ o ∈ L, ∀ d, o.dst = some d → d < 2 ^ dt
  | [], tm, κ, h => ⟨h, by simp⟩
  | o :: L, tm, κ, h => by
    have h' : (match o.dst with | some d => bif Nat.blt d 512 then T.setK V.undefV V.junk dt d tm (fun tm => junkK L tm κ) else false | none => junkK L tm κ) = true := h
    cases hd : o.dst with
    | none =>
      rw [hd] at h'
      obtain ⟨h1, h2⟩ := junkK_eq L tm κ h'
      refine ⟨by simp only [junkP, hd]; exact h1, fun x hx d hxd => ?_⟩
      rcases List.mem_cons.1 hx with rfl | hx
      · rw [hd] at hxd; cases hxd
      · exact h2 x hx d hxd
    | some d =>
      rw [hd] at h'
      simp only [cond_eq_ite] at h'
      split at h'
      · rename_i hlt
        rw [T.setK_eq] at h'
        obtain ⟨h1, h2⟩ := junkK_eq L _ κ h'
        refine ⟨by simp only [junkP, hd]; exact h1, fun x hx d' hxd => ?_⟩
        rcases List.mem_cons.1 hx with rfl | hx
        · rw [hd] at hxd
          simp only [Option.some.injEq] at hxd
          subst hxd
          exact blt_lt hlt
        · exact h2 x hx d' hxd
      · cases h'

section
variable {P : Program} {ng : Nat} {C : CallT}

noncomputable def drawK (C : CallT) (ng : Nat) (tab : Tab P) (fr : Fr) (L : List Oper) (κ : OutT) (κp : List (V × Bool) → OutT) : List Oper → Nat → List Tr → OutT :=
  fun l => List.rec (motive := fun _ => Nat → List Tr → OutT) (fun _ _ => κ) (fun o rest ih i hist tm ds u σ =>
    match wantA L tm o with
    | some false => putT fr.nt o.dst (.tup []) tm fun tm' => ih (Nat.succ i) ({ i := i, o := o, kd := .skip, v := .tup [], tm := tm, ds := ds, u := u, σ := σ } :: hist) tm' ds u σ
    | some true =>
      match opClass o.op with
      | 0 => pureK tab (evalA ng tm) o.op fun v => putT fr.nt o.dst v tm fun tm' => ih (Nat.succ i) ({ i := i, o := o, kd := .quiet, v := v, tm := tm, ds := ds, u := u, σ := σ } :: hist) tm' ds u σ
      | 1 =>
        match o.op with
        | .load t y =>
          match loadO tab σ t (evalA ng tm y), loadAt? tab t (evalA ng tm y) with
          | some v, (b, x, n) =>
            bif Nat.blt b σ.next && loadB L o b x n hist then
              headV v fun v => putT fr.nt o.dst v tm fun tm' => ih (Nat.succ i) ({ i := i, o := o, kd := .load b x n, v := v, tm := tm, ds := ds, u := u, σ := σ } :: hist) tm' ds u σ
            else false
          | none, _ => false
        | _ => false
      | 2 => newO tab (evalA ng tm) o.op fun ob mk => bif obBd σ.next ob then σ.newK ob fun id σ' => headV (mk id) fun v => putT fr.nt o.dst v tm fun tm' =>
          ih (Nat.succ i) ({ i := i, o := o, kd := .new ob, v := v, tm := tm, ds := ds, u := u, σ := σ } :: hist) tm' ds u σ' else false
      | _ => bif opsBd σ.next (evalA ng tm) o then opK C ng tab fr (evalA ng tm) o.op ds u { σ with log := [] }
          (fun v ds' u' σ1 => bif effB L o σ1.log hist then putT fr.nt o.dst v tm fun tm' => lappK σ1.log σ.log fun lg =>
            ih (Nat.succ i) ({ i := i, o := o, kd := .eff σ1.log, v := v, tm := tm, ds := ds, u := u, σ := σ } :: hist) tm' ds' u' { σ1 with log := lg } else false)
          (fun ch u' σ1 => bif effB L o σ1.log hist && hangB i rest then junkK L tm fun tm' => lappK σ1.log σ.log fun lg => κp ch tm' ds u' { σ1 with log := lg } else false) else false
    | none => false) l

theorem drawK_cons {tab : Tab P} {fr : Fr} {L : List Oper} {κ : OutT} {κp : List (V × Bool) → OutT} {o : Oper} {rest : List Oper} {i : Nat} {hist : List Tr} {tm : T V} {ds : List ADef} {u : U} {σ : St} :
    drawK C ng tab fr L κ κp (o :: rest) i hist tm ds u σ = match wantA L tm o with
    | some false => putT fr.nt o.dst (.tup []) tm fun tm' => drawK C ng tab fr L κ κp rest (Nat.succ i) ({ i := i, o := o, kd := .skip, v := .tup [], tm := tm, ds := ds, u := u, σ := σ } :: hist) tm' ds u σ
    | some true =>
      match opClass o.op with
      | 0 => pureK tab (evalA ng tm) o.op fun v => putT fr.nt o.dst v tm fun tm' => drawK C ng tab fr L κ κp rest (Nat.succ i) ({ i := i, o := o, kd := .quiet, v := v, tm := tm, ds := ds, u := u, σ := σ } :: hist) tm' ds u σ
      | 1 =>
        match o.op with
        | .load t y =>
          match loadO tab σ t (evalA ng tm y), loadAt? tab t (evalA ng tm y) with
          | some v, (b, x, n) =>
            bif Nat.blt b σ.next && loadB L o b x n hist then
              headV v fun v => putT fr.nt o.dst v tm fun tm' => drawK C ng tab fr L κ κp rest (Nat.succ i) ({ i := i, o := o, kd := .load b x n, v := v, tm := tm, ds := ds, u := u, σ := σ } :: hist) tm' ds u σ
            else false
          | none, _ => false
        | _ => false
      | 2 => newO tab (evalA ng tm) o.op fun ob mk => bif obBd σ.next ob then σ.newK ob fun id σ' => headV (mk id) fun v => putT fr.nt o.dst v tm fun tm' =>
          drawK C ng tab fr L κ κp rest (Nat.succ i) ({ i := i, o := o, kd := .new ob, v := v, tm := tm, ds := ds, u := u, σ := σ } :: hist) tm' ds u σ' else false
      | _ => bif opsBd σ.next (evalA ng tm) o then opK C ng tab fr (evalA ng tm) o.op ds u { σ with log := [] }
          (fun v ds' u' σ1 => bif effB L o σ1.log hist then putT fr.nt o.dst v tm fun tm' => lappK σ1.log σ.log fun lg =>
            drawK C ng tab fr L κ κp rest (Nat.succ i) ({ i := i, o := o, kd := .eff σ1.log, v := v, tm := tm, ds := ds, u := u, σ := σ } :: hist) tm' ds' u' { σ1 with log := lg } else false)
          (fun ch u' σ1 => bif effB L o σ1.log hist && hangB i rest then junkK L tm fun tm' => lappK σ1.log σ.log fun lg => κp ch tm' ds u' { σ1 with log := lg } else false) else false
    | none => false := rfl

open Classical in
/-- what an operation looks at; of all else nothing is known -/
noncomputable def restr (o : Oper) (ρ : Operand → V) (x : Operand) : V := if x ∈ o.op.operands then ρ x else .junk
theorem restr_eq {o : Oper} {ρ : Operand → V} : ∀ x ∈ o.op.operands, ρ x = restr o ρ x := by
  intro x hx
  simp [restr, hx]

def Want (L : List Oper) (s : Tr) : Prop := wantA L s.tm s.o = some true

def StepOk (P : Program) (ng : Nat) (tab : Tab P) (fr : Fr) (L : List Oper) (s : Tr) (tm' : T V) (ds' : List ADef) (u' : U) (σ' : St) : Prop :=
  L[s.i]? = some s.o ∧ tm' = putP s.o.dst s.v s.tm ∧ (∀ d, s.o.dst = some d → d < fr.nt ∧ d < 2 ^ dt) ∧ AWf s.σ ∧ AWf σ' ∧
  match s.kd with
  | .skip => wantA L s.tm s.o = some false ∧ s.v = .tup [] ∧ ds' = s.ds ∧ u' = s.u ∧ σ' = s.σ
  | .quiet => Want L s ∧ (∀ c, s.o.op ≠ .defer c) ∧ pureA tab (evalA ng s.tm) s.o.op = some s.v ∧ ds' = s.ds ∧ u' = s.u ∧ σ' = s.σ
  | .load b x n => Want L s ∧ (∃ t y, s.o.op = .load t y ∧ loadO tab s.σ t (evalA ng s.tm y) = some s.v ∧ loadAt? tab t (evalA ng s.tm y) = (b, x, n)) ∧ b < s.σ.next ∧ ds' = s.ds ∧ u' = s.u ∧ σ' = s.σ
  | .new ob => Want L s ∧ (∀ c, s.o.op ≠ .defer c) ∧ (∃ mk, NewOk P (restr s.o (evalA ng s.tm)) s.o ob mk ∧ s.v = mk s.σ.next) ∧ obBd s.σ.next ob = true ∧ s.σ.next < 2 ^ dh ∧ ds' = s.ds ∧ u' = s.u ∧ σ' = s.σ.more ob
  | .eff log => Want L s ∧ opsBd s.σ.next (evalA ng s.tm) s.o = true ∧ ∃ σ1, σ' = { σ1 with log := log ++ s.σ.log } ∧ σ1.log = log ∧ AExt { s.σ with log := [] } σ1 ∧ OpOk P ng fr (restr s.o (evalA ng s.tm)) s.o s.ds s.u { s.σ with log := [] } s.v ds' u' σ1

def PairOk (L : List Oper) (s h : Tr) : Prop :=
  match s.kd, h.kd with
  | .eff log, .load b x n => ordB L s.o h.i = true ∨ ClearC log b x n
  | .eff log, .new _ => ordB L s.o h.i = true ∨ ∀ p ∈ log, p.1 ≠ h.σ.next
  | .load b x n, .eff log => ordB L s.o h.i = true ∨ ClearC log b x n
  | .load b _ _, .new _ => b ≠ h.σ.next
  | _, _ => True

def ChainOk (L : List Oper) (s : Tr) (hist : List Tr) : Prop :=
  match s.kd with
  | .eff _ => ∀ j, lastEff hist = some j → ordB L s.o j = true
  | _ => True

inductive HistOk (P : Program) (ng : Nat) (tab : Tab P) (fr : Fr) (L : List Oper) (tm0 : T V) (ds0 : List ADef) (u0 : U) (σ0 : St) : List Tr → T V → List ADef → U → St → Prop
  | nil : HistOk P ng tab fr L tm0 ds0 u0 σ0 [] tm0 ds0 u0 σ0
  | cons {hist : List Tr} {s : Tr} {tm' : T V} {ds' : List ADef} {u' : U} {σ' : St} : HistOk P ng tab fr L tm0 ds0 u0 σ0 hist s.tm s.ds s.u s.σ → s.i = hist.length → StepOk P ng tab fr L s tm' ds' u' σ' → (∀ h ∈ hist, PairOk L s h) → ChainOk L s hist →
      HistOk P ng tab fr L tm0 ds0 u0 σ0 (s :: hist) tm' ds' u' σ'

theorem StepOk.aext {tab : Tab P} {fr : Fr} {L : List Oper} {s : Tr} {tm' : T V} {ds' : List ADef} {u' : U} {σ' : St} (h : StepOk P ng tab fr L s tm' ds' u' σ') : AExt s.σ σ' := by
  obtain ⟨_, _, _, h4, h5, h6⟩ := h
  cases hk : s.kd <;> rw [hk] at h6 <;> simp only at h6
  · obtain ⟨_, _, _, _, rfl⟩ := h6; exact .refl _
  · obtain ⟨_, _, _, _, _, rfl⟩ := h6; exact .refl _
  · obtain ⟨_, _, _, _, _, rfl⟩ := h6; exact .refl _
  · obtain ⟨_, _, _, _, hlt, _, _, rfl⟩ := h6; exact (AExt.more h4 hlt _).2
  · obtain ⟨_, _, σ1, rfl, rfl, hx, _⟩ := h6
    refine ⟨hx.next, fun p hp _ => List.mem_append_right _ hp, fun i n hi hc => hx.looks i n hi fun p hp => hc p (List.mem_append_left _ hp), fun i hi hc => hx.keeps i hi fun p hp => hc p (List.mem_append_left _ hp)⟩

theorem HistOk.aext {tab : Tab P} {fr : Fr} {L : List Oper} {tm0 : T V} {ds0 : List ADef} {u0 : U} {σ0 : St} {hist : List Tr} {tm' : T V} {ds' : List ADef} {u' : U} {σ' : St} (h : HistOk P ng tab fr L tm0 ds0 u0 σ0 hist tm' ds' u' σ') : AExt σ0 σ' := by
  induction h with
  | nil => exact .refl _
  | cons h _ hs _ _ ih => exact ih.trans hs.aext

theorem opClass_defer {op : Op} (h : opClass op ≠ 3) : ∀ c, op ≠ .defer c := by
  intro c he
  subst he
  exact h rfl

/-- what the run in the order of the text comes to -/
theorem drawK_sound {tab : Tab P} (hC : CallOk P ng C) {fr : Fr} {L : List Oper} {κ : OutT} {κp : List (V × Bool) → OutT} {tm0 : T V} {ds0 : List ADef} {u0 : U} {σ0 : St} : ∀ (l : List Oper) (hist : List Tr) (tm : T V) (ds : List ADef) (u : U) (σ : St),
    L.drop hist.length = l → AWf σ → HistOk P ng tab fr L tm0 ds0 u0 σ0 hist tm ds u σ → drawK C ng tab fr L κ κp l hist.length hist tm ds u σ = true →
    (∃ hist' tm' ds' u' σ', κ tm' ds' u' σ' = true ∧ AWf σ' ∧ hist'.length = L.length ∧ HistOk P ng tab fr L tm0 ds0 u0 σ0 hist' tm' ds' u' σ') ∨
    (∃ hist' tm1 ds1 u1 σ1 o ch u' σ', κp ch (junkP L tm1) ds1 u' { σ' with log := σ'.log ++ σ1.log } = true ∧ AWf σ' ∧ HistOk P ng tab fr L tm0 ds0 u0 σ0 hist' tm1 ds1 u1 σ1 ∧ AWf σ1 ∧ L[hist'.length]? = some o ∧ wantA L tm1 o = some true ∧ opsBd σ1.next (evalA ng tm1) o = true ∧
      AExt { σ1 with log := [] } σ' ∧ OpPan P ng fr (restr o (evalA ng tm1)) o u1 { σ1 with log := [] } ch u' σ' ∧
      (∀ h ∈ hist', match h.kd with | .load b x n => ordB L o h.i = true ∨ ClearC σ'.log b x n | .new _ => ordB L o h.i = true ∨ ∀ p ∈ σ'.log, p.1 ≠ h.σ.next | _ => True) ∧
      (∀ j, lastEff hist' = some j → ordB L o j = true) ∧ (∀ q oq, hist'.length < q → L[q]? = some oq → ∃ e ∈ oq.after, Region.binds .any e = true ∧ hist'.length ≤ e.on) ∧ ∀ o ∈ L, ∀ d, o.dst = some d → d < 2 ^ dt) := by
  intro l
  induction l with
  | nil =>
    intro hist tm ds u σ hl hwf hh h
    left
    refine ⟨hist, tm, ds, u, σ, h, hwf, ?_, hh⟩
    have hle : L.length ≤ hist.length := List.drop_eq_nil_iff.1 hl
    have hge : hist.length ≤ L.length := by
      cases hh with
      | nil => exact Nat.zero_le _
      | cons _ hi hs _ _ =>
        have := (List.getElem?_eq_some_iff.1 hs.1).1
        rw [hi] at this
        show _ + 1 ≤ _
        exact this
    omega
  | cons o rest ih =>
    intro hist tm ds u σ hl hwf hh h
    have ho : L[hist.length]? = some o := by rw [← List.head?_drop, hl]; rfl
    have hl' : L.drop (hist.length + 1) = rest := by rw [← List.drop_drop, hl]; rfl
    rw [drawK_cons] at h
    -- one step more of the record
    have more : ∀ (s : Tr) tm' ds' u' σ', s.i = hist.length → s.tm = tm → s.ds = ds → s.u = u → s.σ = σ → StepOk P ng tab fr L s tm' ds' u' σ' → (∀ h ∈ hist, PairOk L s h) → ChainOk L s hist → drawK C ng tab fr L κ κp rest (Nat.succ hist.length) (s :: hist) tm' ds' u' σ' = true → _ :=
      fun s tm' ds' u' σ' hi e1 e2 e3 e4 hs hp hc hk => ih (s :: hist) tm' ds' u' σ' hl' hs.2.2.2.2.1 (.cons (by rw [e1, e2, e3, e4]; exact hh) hi hs hp hc) hk
    split at h
    · rename_i hw
      obtain ⟨h1, h2⟩ := putT_eq h
      refine more { i := hist.length, o := o, kd := .skip, v := .tup [], tm := tm, ds := ds, u := u, σ := σ } _ _ _ _ rfl rfl rfl rfl rfl ⟨ho, rfl, h2, hwf, hwf, hw, rfl, rfl, rfl, rfl⟩ (fun h _ => ?_) trivial h1
      trivial
    · rename_i hw
      split at h
      · rename_i hcl
        obtain ⟨v, h1, h2⟩ := pureK_pureA h
        obtain ⟨h3, h4⟩ := putT_eq h2
        refine more { i := hist.length, o := o, kd := .quiet, v := v, tm := tm, ds := ds, u := u, σ := σ } _ _ _ _ rfl rfl rfl rfl rfl ⟨ho, rfl, h4, hwf, hwf, hw, opClass_defer (by rw [hcl]; decide), h1, rfl, rfl, rfl⟩ (fun h _ => ?_) trivial h3
        trivial
      · split at h
        · rename_i t y hop
          split at h
          · rename_i v b x n hld hat
            rw [cond_eq_ite] at h
            split at h
            · rename_i hc0
              have hc := Bool.and_eq_true_iff.1 hc0
              rw [headV_eq] at h
              obtain ⟨h3, h4⟩ := putT_eq h
              refine more { i := hist.length, o := o, kd := .load b x n, v := v, tm := tm, ds := ds, u := u, σ := σ } _ _ _ _ rfl rfl rfl rfl rfl ⟨ho, rfl, h4, hwf, hwf, hw, ⟨t, y, hop, hld, hat⟩, blt_lt hc.1, rfl, rfl, rfl⟩ (fun h hm => ?_) trivial h3
              have := allL_spec hc.2 h hm
              cases hk : h.kd <;> simp only [PairOk, hk]
              · rw [hk] at this
                intro he
                rw [he] at this
                simp [Nat.beq_refl] at this
              · rw [hk] at this
                exact orMap clearB_spec (ordC_spec this)
            · cases h
          · cases h
        · cases h
      · rename_i hcl
        obtain ⟨ob, mk, h1, h2⟩ := newO_ok (o := { o with }) (ρ := restr o (evalA ng tm)) (P := P) (tab := tab) (by
          rw [← newO_congr (tab := tab) o.op _ (restr_eq (o := o) (ρ := evalA ng tm))]; exact h)
        rw [cond_eq_ite] at h1
        split at h1 <;> first | (cases h1; done) | skip
        rename_i hbd
        obtain ⟨h3, h4⟩ := newK_eq h1
        rw [headV_eq] at h4
        obtain ⟨h5, h6⟩ := putT_eq h4
        refine more { i := hist.length, o := o, kd := .new ob, v := mk σ.next, tm := tm, ds := ds, u := u, σ := σ } _ _ _ _ rfl rfl rfl rfl rfl ⟨ho, rfl, h6, hwf, (AExt.more hwf h3 ob).1, hw, opClass_defer (by rw [hcl]; decide), ⟨mk, h2, rfl⟩, hbd, h3, rfl, rfl, rfl⟩ (fun h _ => ?_) trivial h5
        trivial
      · have hwf0 : AWf { σ with log := [] } := ⟨hwf.next, hwf.fresh⟩
        rw [cond_eq_ite] at h
        split at h <;> first | (cases h; done) | skip
        rename_i hbd
        rw [opK_congr fr o.op _ _ _ _ _ (restr_eq (o := o) (ρ := evalA ng tm))] at h
        rcases opK_sound hC hwf0 h with ⟨v, ds', u', σ1, h1, h2, h3, h4⟩ | ⟨ch, u', σ1, h1, h2, h3, h4⟩
        · rw [cond_eq_ite] at h1
          split at h1
          · rename_i he
            obtain ⟨h5, h6⟩ := putT_eq h1
            rw [lappK_eq] at h5
            have he' := Bool.and_eq_true_iff.1 he
            refine more { i := hist.length, o := o, kd := .eff σ1.log, v := v, tm := tm, ds := ds, u := u, σ := σ } _ _ _ { σ1 with log := σ1.log ++ σ.log } rfl rfl rfl rfl rfl ⟨ho, rfl, h6, hwf, ⟨h2.next, h2.fresh⟩, hw, hbd, σ1, rfl, rfl, h3, h4⟩ (fun h hm => ?_) ?_ h5
            · have := allL_spec he'.2 h hm
              cases hk : h.kd <;> simp only [PairOk, hk]
              · rw [hk] at this
                exact orMap clearB_spec (ordC_spec this)
              · rw [hk] at this
                exact orMap noneB_spec (ordC_spec this)
            · intro j hj
              have := he'.1
              rw [hj] at this
              exact this
          · cases h1
        · right
          rw [cond_eq_ite] at h1
          split at h1
          · rename_i he0
            have he1 := Bool.and_eq_true_iff.1 he0
            have he := Bool.and_eq_true_iff.1 he1.1
            obtain ⟨h1, hjd⟩ := junkK_eq _ _ _ h1
            rw [lappK_eq] at h1
            refine ⟨hist, tm, ds, u, σ, o, ch, u', σ1, h1, h2, hh, hwf, ho, hw, hbd, h3, h4, ?_, ?_, ?_, hjd⟩
            · intro h hm
              have := allL_spec he.2 h hm
              cases hk : h.kd <;> simp only
              · rw [hk] at this
                exact orMap clearB_spec (ordC_spec this)
              · rw [hk] at this
                exact orMap noneB_spec (ordC_spec this)
            · intro j hj
              have := he.1
              rw [hj] at this
              exact this
            · intro q oq hq hoq
              have hmem : oq ∈ rest := by
                rw [← hl']
                refine List.mem_iff_getElem?.2 ⟨q - (hist.length + 1), ?_⟩
                rw [List.getElem?_drop, ← hoq]
                congr 1
                omega
              have hall0 := allL_spec he1.2 oq hmem
              simp only [Bool.not_eq_true'] at hall0
              by_cases hall : ∃ e ∈ oq.after, Region.binds .any e = true ∧ hist.length ≤ e.on
              · exact hall
              · exfalso
                have : allL (fun e => !(Region.binds .any e && Nat.ble hist.length e.on)) oq.after.toList = true := by
                  have key : ∀ l : List Edge, (∀ e ∈ l, ¬ (Region.binds .any e = true ∧ hist.length ≤ e.on)) → allL (fun e => !(Region.binds .any e && Nat.ble hist.length e.on)) l = true := by
                    intro l
                    induction l with
                    | nil => intro _; rfl
                    | cons e l ih2 =>
                      intro hn
                      have h0 := hn e (by simp)
                      show Bool.rec (motive := fun _ => Bool) false (allL _ l) (!(Region.binds .any e && Nat.ble hist.length e.on)) = true
                      have : (Region.binds .any e && Nat.ble hist.length e.on) = false := by
                        cases hb : Region.binds .any e with
                        | false => rfl
                        | true =>
                          cases hle : Nat.ble hist.length e.on with
                          | false => rfl
                          | true => exact absurd ⟨hb, Nat.le_of_ble_eq_true hle⟩ h0
                      rw [this]
                      exact ih2 fun x hx => hn x (by simp [hx])
                  exact key _ fun e he => fun hc => hall ⟨e, by simpa using he, hc⟩
                rw [this] at hall0
                cases hall0
          · cases h1
    · cases h
end
end Go.Proofs.YthagammlhhnpnaaGreatDoor.Ev

/-
  The record of a drawn region, by numbers; what its static check gives; how the machine draws an order.
-/
namespace Go.Proofs.YthagammlhhnpnaaGreatDoor.Ev
section
variable {P : Program} {ng : Nat}

def Tr.isEff (s : Tr) : Prop := ∃ log, s.kd = .eff log
def Tr.isNew (s : Tr) (ob : Ob) : Prop := s.kd = .new ob

structure Rec (P : Program) (ng : Nat) (tab : Tab P) (fr : Fr) (L : List Oper) (N : Nat) (R : Nat → Tr) (tm : Nat → T V) (ds : Nat → List ADef) (u : Nat → U) (σ : Nat → St) : Prop where
  idx : ∀ i, i < N → (R i).i = i ∧ (R i).tm = tm i ∧ (R i).ds = ds i ∧ (R i).u = u i ∧ (R i).σ = σ i
  step : ∀ i, i < N → StepOk P ng tab fr L (R i) (tm (i + 1)) (ds (i + 1)) (u (i + 1)) (σ (i + 1))
  pair : ∀ j i, j < i → i < N → PairOk L (R i) (R j)
  chain : ∀ j i, j < i → i < N → (R i).isEff → (R j).isEff → (∀ k, j < k → k < i → ¬ (R k).isEff) → ordB L (R i).o j = true

theorem HistOk.record {tab : Tab P} {fr : Fr} {L : List Oper} {tm0 : T V} {ds0 : List ADef} {u0 : U} {σ0 : St} {hist : List Tr} {tm' : T V} {ds' : List ADef} {u' : U} {σ' : St} (h : HistOk P ng tab fr L tm0 ds0 u0 σ0 hist tm' ds' u' σ') (hwf : AWf σ0) :
    ∃ (R : Nat → Tr) (tm : Nat → T V) (ds : Nat → List ADef) (u : Nat → U) (σ : Nat → St), Rec P ng tab fr L hist.length R tm ds u σ ∧ tm 0 = tm0 ∧ ds 0 = ds0 ∧ u 0 = u0 ∧ σ 0 = σ0 ∧
      tm hist.length = tm' ∧ ds hist.length = ds' ∧ u hist.length = u' ∧ σ hist.length = σ' ∧ (∀ i, i ≤ hist.length → AWf (σ i)) ∧ (∀ i, i < hist.length → R i ∈ hist) ∧
      (∀ j, j < hist.length → (R j).isEff → (∀ k, j < k → k < hist.length → ¬ (R k).isEff) → lastEff hist = some j) := by
  induction h with
  | nil => exact ⟨fun _ => ⟨0, default, .skip, .junk, tm0, ds0, u0, σ0⟩, fun _ => tm0, fun _ => ds0, fun _ => u0, fun _ => σ0, ⟨by simp, by simp, by simp, by simp⟩, rfl, rfl, rfl, rfl, rfl, rfl, rfl, rfl, fun _ _ => hwf, by simp, by simp⟩
  | @cons hist s tm' ds' u' σ' h hi hs hp hc ih =>
    obtain ⟨R, tm, ds, u, σ, hR, a1, a2, a3, a4, b1, b2, b3, b4, hw, hm, hl⟩ := ih
    let N := hist.length
    let R' : Nat → Tr := fun i => if i = N then s else R i
    let tm2 : Nat → T V := fun i => if i ≤ N then tm i else tm'
    let ds2 : Nat → List ADef := fun i => if i ≤ N then ds i else ds'
    let u2 : Nat → U := fun i => if i ≤ N then u i else u'
    let σ2 : Nat → St := fun i => if i ≤ N then σ i else σ'
    have eR : ∀ i, i < N → R' i = R i := fun i h => if_neg (Nat.ne_of_lt h)
    have eN : R' N = s := if_pos rfl
    have et : ∀ i, i ≤ N → tm2 i = tm i := fun i h => if_pos h
    have ed : ∀ i, i ≤ N → ds2 i = ds i := fun i h => if_pos h
    have eu : ∀ i, i ≤ N → u2 i = u i := fun i h => if_pos h
    have es : ∀ i, i ≤ N → σ2 i = σ i := fun i h => if_pos h
    have et' : tm2 (N + 1) = tm' := if_neg (by omega)
    have ed' : ds2 (N + 1) = ds' := if_neg (by omega)
    have eu' : u2 (N + 1) = u' := if_neg (by omega)
    have es' : σ2 (N + 1) = σ' := if_neg (by omega)
    have hlen : (s :: hist).length = N + 1 := rfl
    refine ⟨R', tm2, ds2, u2, σ2, ⟨?_, ?_, ?_, ?_⟩, ?_, ?_, ?_, ?_, ?_, ?_, ?_, ?_, ?_, ?_, ?_⟩
    · intro i hiN
      rw [hlen] at hiN
      rcases Nat.lt_or_ge i N with h1 | h1
      · rw [eR i h1, et i (by omega), ed i (by omega), eu i (by omega), es i (by omega)]
        exact hR.idx i h1
      · have : i = N := by omega
        subst this
        rw [eN, et _ (Nat.le_refl _), ed _ (Nat.le_refl _), eu _ (Nat.le_refl _), es _ (Nat.le_refl _)]
        exact ⟨hi, b1.symm, b2.symm, b3.symm, b4.symm⟩
    · intro i hiN
      rw [hlen] at hiN
      rcases Nat.lt_or_ge i N with h1 | h1
      · rw [eR i h1, et (i + 1) (by omega), ed (i + 1) (by omega), eu (i + 1) (by omega), es (i + 1) (by omega)]
        exact hR.step i h1
      · have : i = N := by omega
        subst this
        rw [eN, et', ed', eu', es']
        exact hs
    · intro j i hji hiN
      rw [hlen] at hiN
      rcases Nat.lt_or_ge i N with h1 | h1
      · rw [eR i h1, eR j (by omega)]
        exact hR.pair j i hji h1
      · have : i = N := by omega
        subst this
        rw [eN, eR j hji]
        exact hp _ (hm j hji)
    · intro j i hji hiN he1 he2 hno
      rw [hlen] at hiN
      rcases Nat.lt_or_ge i N with h1 | h1
      · rw [eR i h1] at he1 ⊢
        rw [eR j (by omega)] at he2
        exact hR.chain j i hji h1 he1 he2 fun k k1 k2 => by have := hno k k1 k2; rwa [eR k (by omega)] at this
      · have : i = N := by omega
        subst this
        rw [eN] at he1 ⊢
        rw [eR j hji] at he2
        obtain ⟨log, hlog⟩ := he1
        have hlast := hl j hji he2 fun k k1 k2 => by have := hno k k1 k2; rwa [eR k k2] at this
        unfold ChainOk at hc
        rw [hlog] at hc
        exact hc j hlast
    · rw [et 0 (Nat.zero_le _)]; exact a1
    · rw [ed 0 (Nat.zero_le _)]; exact a2
    · rw [eu 0 (Nat.zero_le _)]; exact a3
    · rw [es 0 (Nat.zero_le _)]; exact a4
    · exact et'
    · exact ed'
    · exact eu'
    · exact es'
    · intro i hiN
      rw [hlen] at hiN
      rcases Nat.lt_or_ge i (N + 1) with h1 | h1
      · rw [es i (by omega)]; exact hw i (by show i ≤ N; omega)
      · have : i = N + 1 := by omega
        rw [this, es']; exact hs.2.2.2.2.1
    · intro i hiN
      rw [hlen] at hiN
      rcases Nat.lt_or_ge i N with h1 | h1
      · rw [eR i h1]; exact List.mem_cons_of_mem _ (hm i h1)
      · have : i = N := by omega
        rw [this, eN]; simp
    · intro j hjN he hno
      rw [hlen] at hjN hno
      rcases Nat.lt_or_ge j N with h1 | h1
      · have hns : ¬ s.isEff := by have := hno N h1 (Nat.lt_succ_self _); rwa [eN] at this
        have hlast := hl j h1 (by rwa [eR j h1] at he) fun k k1 k2 => by have := hno k k1 (by show k < N + 1; omega); rwa [eR k k2] at this
        show (match s.kd with | .eff _ => some s.i | _ => lastEff hist) = some j
        cases hk : s.kd with
        | eff log => exact absurd ⟨log, hk⟩ hns
        | _ => exact hlast
      · have : j = N := by omega
        subst this
        rw [eN] at he
        obtain ⟨log, hlog⟩ := he
        show (match s.kd with | .eff _ => some s.i | _ => lastEff hist) = some _
        rw [hlog]
        exact congrArg some hi

/-! ### the static check -/
theorem staticB_back {L : List Oper} (h : staticB L = true) {i : Nat} {o : Oper} (ho : L[i]? = some o) : ∀ e ∈ o.after, Region.binds .any e = true → e.on < i := by
  intro e he hb
  unfold staticB at h
  rw [List.all_eq_true] at h
  have hm : (o, i) ∈ L.zipIdx := by rw [List.mem_zipIdx_iff_getElem?]; exact ho
  have := h _ hm
  simp only [Bool.and_eq_true, List.all_eq_true] at this
  have h1 := this.1 e (by simpa using he)
  rw [hb] at h1
  simp only [Bool.not_true, Bool.false_or] at h1
  exact blt_lt h1

theorem staticB_pair {L : List Oper} (h : staticB L = true) {i j : Nat} {oi oj : Oper} (hi : L[i]? = some oi) (hj : L[j]? = some oj) (hji : j < i) :
    (∀ d d', oi.dst = some d → oj.dst = some d' → d ≠ d') ∧ (∀ d, oj.dst = some d → d ∈ looksA L oi → ordB L oi j = true) ∧ (∀ d, oi.dst = some d → d ∈ looksA L oj → ordB L oi j = true) := by
  unfold staticB at h
  rw [List.all_eq_true] at h
  have hm : (oi, i) ∈ L.zipIdx := by rw [List.mem_zipIdx_iff_getElem?]; exact hi
  have hm2 : (oj, j) ∈ L.zipIdx := by rw [List.mem_zipIdx_iff_getElem?]; exact hj
  have := h _ hm
  simp only [Bool.and_eq_true, List.all_eq_true] at this
  have h1 := this.2 _ hm2
  have hlt : Nat.blt j i = true := Nat.ble_eq_true_of_le hji
  simp only [hlt, Bool.not_true, Bool.false_or] at h1
  unfold pairB at h1
  simp only [Bool.and_eq_true] at h1
  obtain ⟨⟨g1, g2⟩, g3⟩ := h1
  refine ⟨fun d d' hd hd' => ?_, fun d hd hl => ?_, fun d hd hl => ?_⟩
  · rw [hd, hd'] at g1
    intro he
    rw [he] at g1
    simp [Nat.beq_refl] at g1
  · rw [hd] at g2
    simp only at g2
    have hc : (looksA L oi).contains d = true := by simpa using hl
    rw [hc] at g2
    simpa using g2
  · rw [hd] at g3
    simp only at g3
    have hc : (looksA L oj).contains d = true := by simpa using hl
    rw [hc] at g3
    simpa using g3
end
end Go.Proofs.YthagammlhhnpnaaGreatDoor.Ev

