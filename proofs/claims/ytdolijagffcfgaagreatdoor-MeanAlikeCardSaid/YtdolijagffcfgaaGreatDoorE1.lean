/-
  The evaluator, part 2 of 6: a program of the model is run by the kernel, piece by piece, and what it computes is proved of the run itself. No condition.
-/
import Derived.Lib.UnsafeStr
import Derived.Deep.AppendSrc
import Derived.MapKept
import Derived.Test.YtdolijagffcfgaaGreatDoorE0
set_option linter.unusedVariables false
set_option linter.unusedSimpArgs false
/-
  The evaluator's operations that touch no memory, together: one function of the operation and its operands, and what the model's does.
-/
namespace Go.Proofs.YtdolijagffcfgaaGreatDoor.Ev
section
variable {P : Program} {e : Env}

/-- pairs that may be compared, of which the guard asks nothing -/
def eqq : V → V → Bool
  | .bool _, .bool _ | .nilp, .nilp | .nilp, .ptr _ _ | .ptr _ _, .nilp | .nili, .iface _ _ | .iface _ _, .nili => true
  | .nils, .nils | .nils, .slice _ _ _ _ _ | .slice _ _ _ _ _, .nils | .nils, .emp | .emp, .nils => true
  | .nilm, .nilm | .nilm, .mapv _ | .mapv _, .nilm | .nilf, .nilf | .nilf, .func _ _ _ | .func _ _ _, .nilf => true
  | .ptr _ _, .ptr _ _ => true
  | _, _ => false

theorem eqq_spec {x y : V} (h : eqq x y = true) {X Y : Value} (hx : VR e x X) (hy : VR e y Y) (t : TypeId) (xo yo : Operand) :
    (∀ w, (eqGuard .eql t xo yo X Y).run P w = .ok () w) ∧ (∀ w, (eqGuard .neq t xo yo X Y).run P w = .ok () w) ∧
    binOp .eql t X Y = (do pure (.bool (← Op.equal t X Y))) ∧ binOp .neq t X Y = (do pure (.bool (!(← Op.equal t X Y)))) := by
  unfold eqq at h
  split at h <;> (try simp only [VR] at hx hy)
  all_goals first
    | (cases h; done)
    | (subst hx; subst hy; exact ⟨fun _ => rfl, fun _ => rfl, rfl, rfl⟩)
    | (obtain ⟨_, rfl⟩ := hx; obtain ⟨_, rfl⟩ := hy; exact ⟨fun _ => rfl, fun _ => rfl, rfl, rfl⟩)
    | (obtain ⟨_, rfl⟩ := hx; subst hy; exact ⟨fun _ => rfl, fun _ => rfl, rfl, rfl⟩)
    | (obtain ⟨_, rfl⟩ := hy; subst hx; exact ⟨fun _ => rfl, fun _ => rfl, rfl, rfl⟩)
    | (obtain ⟨_, rfl, _⟩ := hx; subst hy; exact ⟨fun _ => rfl, fun _ => rfl, rfl, rfl⟩)
    | (obtain ⟨_, rfl, _⟩ := hy; subst hx; exact ⟨fun _ => rfl, fun _ => rfl, rfl, rfl⟩)
    | (obtain ⟨_, _, rfl, _⟩ := hx; subst hy; exact ⟨fun _ => rfl, fun _ => rfl, rfl, rfl⟩)
    | (obtain ⟨_, _, rfl, _⟩ := hy; subst hx; exact ⟨fun _ => rfl, fun _ => rfl, rfl, rfl⟩)
    | (obtain ⟨_, _, _, rfl, _⟩ := hx; subst hy; exact ⟨fun _ => rfl, fun _ => rfl, rfl, rfl⟩)
    | (obtain ⟨_, _, _, rfl, _⟩ := hy; subst hx; exact ⟨fun _ => rfl, fun _ => rfl, rfl, rfl⟩)
    | (obtain ⟨_, _, rfl⟩ := hx; subst hy; exact ⟨fun _ => rfl, fun _ => rfl, rfl, rfl⟩)
    | (obtain ⟨_, _, rfl⟩ := hy; subst hx; exact ⟨fun _ => rfl, fun _ => rfl, rfl, rfl⟩)

noncomputable def eqK (tab : Tab P) (t : TypeId) (cx : Bool) (x y : V) : Option Bool :=
  match x, y with
  | .nili, .nili => bif cx then eqA tab 12 t .nili .nili else none
  | .agg xs, .agg ys =>
    match tab.ty t with
    | some ti => bif ti.eqs then eqA tab 12 t (.agg xs) (.agg ys) else none
    | none => none
  | x, y => bif eqq x y then eqA tab 12 t x y else none

theorem eqK_sound {tab : Tab P} {t : TypeId} {x y : V} {xo yo : Operand} {b : Bool} (h : eqK tab t (xo.isC || yo.isC) x y = some b) {X Y : Value} (hx : VR e x X) (hy : VR e y Y) :
    (∀ w, (do eqGuard .eql t xo yo X Y; binOp .eql t X Y : Sem Value).run P w = .ok (.bool b) w) ∧ (∀ w, (do eqGuard .neq t xo yo X Y; binOp .neq t X Y : Sem Value).run P w = .ok (.bool !b) w) := by
  unfold eqK at h
  split at h
  · rw [cond_eq_ite] at h
    split at h
    · rename_i hc
      have hr := eqA_sound tab 12 t _ _ b X Y h hx hy 9988
      simp only [VR] at hx hy
      subst hx
      subst hy
      have hg : ∀ op w, (eqGuard op t xo yo .nilIface .nilIface).run P w = .ok () w := by
        intro op w
        cases op <;> first | rfl | (cases xo <;> cases yo <;> first | rfl | (exfalso; revert hc; simp [Operand.isC]; done))
      refine ⟨fun w => ?_, fun w => ?_⟩
      · rw [Sem.run_bind, hg]
        have : binOp .eql t .nilIface .nilIface = (do pure (.bool (← Op.equal t .nilIface .nilIface))) := rfl
        rw [Result.andThen_ok, this]
        simp only [Op.equal, Op.maxDepth, Sem.run_bind, Sem.run_pure]
        rw [hr]
        rfl
      · rw [Sem.run_bind, hg]
        have : binOp .neq t .nilIface .nilIface = (do pure (.bool (!(← Op.equal t .nilIface .nilIface)))) := rfl
        rw [Result.andThen_ok, this]
        simp only [Op.equal, Op.maxDepth, Sem.run_bind, Sem.run_pure]
        rw [hr]
        rfl
    · cases h
  · rename_i xs ys
    split at h
    · rename_i ti hti
      rw [cond_eq_ite] at h
      split at h
      · rename_i he
        obtain ⟨e1, e2, _⟩ := (tab.tyOk _ _ hti).eqs he
        have hr := eqA_sound tab 12 t _ _ b X Y h hx hy 9988
        simp only [VR] at hx hy
        obtain ⟨xa, rfl, _⟩ := hx
        obtain ⟨ya, rfl, _⟩ := hy
        have hg : ∀ op w, (eqGuard op t xo yo (.agg xa) (.agg ya)).run P w = .ok () w := by
          intro op w
          cases op <;> first | rfl | skip
          all_goals
            simp only [eqGuard]
            simp [Sem.run_bind, e2]
        refine ⟨fun w => ?_, fun w => ?_⟩
        · rw [Sem.run_bind, hg]
          have : binOp .eql t (.agg xa) (.agg ya) = (do pure (.bool (← Op.equal t (.agg xa) (.agg ya)))) := rfl
          rw [Result.andThen_ok, this]
          simp only [Op.equal, Op.maxDepth, Sem.run_bind, Sem.run_pure]
          rw [hr]
          rfl
        · rw [Sem.run_bind, hg]
          have : binOp .neq t (.agg xa) (.agg ya) = (do pure (.bool (!(← Op.equal t (.agg xa) (.agg ya))))) := rfl
          rw [Result.andThen_ok, this]
          simp only [Op.equal, Op.maxDepth, Sem.run_bind, Sem.run_pure]
          rw [hr]
          rfl
      · cases h
    · cases h
  · rw [cond_eq_ite] at h
    split at h
    · rename_i hq
      have hr := eqA_sound tab 12 t _ _ b X Y h hx hy 9988
      obtain ⟨g1, g2, b1, b2⟩ := eqq_spec hq hx hy t xo yo
      refine ⟨fun w => ?_, fun w => ?_⟩
      · rw [Sem.run_bind, g1, Result.andThen_ok, b1]
        simp only [Op.equal, Op.maxDepth, Sem.run_bind, Sem.run_pure]
        rw [hr]
        rfl
      · rw [Sem.run_bind, g2, Result.andThen_ok, b2]
        simp only [Op.equal, Op.maxDepth, Sem.run_bind, Sem.run_pure]
        rw [hr]
        rfl
    · cases h

/-! ### the operators -/
noncomputable def binA (tab : Tab P) (op : BinOp) (t : TypeId) (cx : Bool) (x y : V) : Option V :=
  match x, y with
  | .int k a, .int k' b =>
    match intOp op with
    | 0 => if k = k' then intA op k a b else none
    | 1 => shrA k a b
    | 2 => if k = k' then bitsA op k a b else none
    | _ => none
  | .str a, .str b => strA op a b
  | x, y =>
    match op with
    | .eql => match eqK tab t cx x y with | some b => some (.bool b) | none => none
    | .neq => match eqK tab t cx x y with | some b => some (.bool !b) | none => none
    | _ => none

theorem binA_sound {tab : Tab P} {op : BinOp} {t : TypeId} {x y v : V} {xo yo : Operand} (h : binA tab op t (xo.isC || yo.isC) x y = some v) {X Y : Value} (hx : VR e x X) (hy : VR e y Y) :
    ∃ z, VR e v z ∧ ∀ w, (do eqGuard op t xo yo X Y; binOp op t X Y : Sem Value).run P w = .ok z w := by
  unfold binA at h
  split at h
  · rename_i k a k' b
    simp only [VR] at hx hy
    subst hx
    subst hy
    have hg : ∀ w, (eqGuard op t xo yo (.int k a) (.int k' b)).run P w = .ok () w := by
      intro w; cases op <;> rfl
    have key : ∀ {z}, (∀ w, (binOp op t (.int k a) (.int k' b)).run P w = .ok z w) → ∀ w, (do eqGuard op t xo yo (.int k a) (.int k' b); binOp op t (.int k a) (.int k' b) : Sem Value).run P w = .ok z w := by
      intro z hz w
      rw [Sem.run_bind, hg, Result.andThen_ok, hz]
    split at h
    · split at h
      · rename_i hk
        subst hk
        obtain ⟨z, h1, h2⟩ := intA_sound (P := P) (e := e) (t := t) h
        exact ⟨z, h1, key h2⟩
      · cases h
    · rename_i hop
      have : op = .shr := by cases op <;> simp [intOp] at hop ⊢
      subst this
      obtain ⟨z, h1, h2⟩ := shrA_sound (P := P) (e := e) (t := t) (k' := k') h
      exact ⟨z, h1, key h2⟩
    · split at h
      · rename_i hk
        subst hk
        obtain ⟨z, h1, h2⟩ := bitsA_sound (P := P) (e := e) (t := t) h
        exact ⟨z, h1, key h2⟩
      · cases h
    · cases h
  · rename_i a b
    simp only [VR] at hx hy
    obtain ⟨rfl, ha⟩ := hx
    obtain ⟨rfl, hb⟩ := hy
    obtain ⟨z, h1, h2⟩ := strA_sound (P := P) (e := e) h ha hb
    refine ⟨z, h1, fun w => ?_⟩
    have hg : (eqGuard op t xo yo (.string (strOf a)) (.string (strOf b))).run P w = .ok () w := by cases op <;> rfl
    have hb : binOp op t (.string (strOf a)) (.string (strOf b)) = Op.stringOp op (strOf a) (strOf b) := by cases op <;> rfl
    rw [Sem.run_bind, hg, Result.andThen_ok, hb, h2]
  · split at h
    · split at h
      · rename_i b hb
        simp only [Option.some.injEq] at h
        subst h
        obtain ⟨h1, _⟩ := eqK_sound hb hx hy
        exact ⟨.bool b, by simp only [VR], h1⟩
      · cases h
    · split at h
      · rename_i b hb
        simp only [Option.some.injEq] at h
        subst h
        obtain ⟨_, h1⟩ := eqK_sound hb hx hy
        exact ⟨.bool !b, by simp only [VR], h1⟩
      · cases h
    · cases h

/-! ### others -/
def nilCheckA (x : V) : Option V :=
  match x with
  | .ptr _ _ | .iface _ _ | .yieldf _ | .slice _ _ _ _ _ | .emp | .nils | .mapv _ => some x
  | .func (.func _) _ _ => some x
  | _ => none

noncomputable def maxA (x y : V) : Option V :=
  match x, y with
  | .int k a, .int _ b => some (.int k (bif ilt a b then b else a))
  | _, _ => none

noncomputable def minA (x y : V) : Option V :=
  match x, y with
  | .int k a, .int _ b => some (.int k (bif ilt b a then b else a))
  | _, _ => none

noncomputable def capA (tab : Tab P) (t : TypeId) (x : V) : Option V :=
  match tab.ty t with
  | some ti =>
    match ti.desc, x with
    | .slice _, .nils => some (natA 0)
    | .slice _, .slice _ _ _ _ (some c) => some (natA c)
    | _, _ => none
  | none => none

def capPos : Option Nat → Bool
  | some (_ + 1) => true
  | _ => false

/-- where a row's elements lie -/
noncomputable def dataA (x : V) : Option V :=
  match x with
  | .nils => some .nilp
  | .slice b o _ len cap => bif Nat.ble 1 len || capPos cap then some (.ptr b o) else none
  | _ => none

noncomputable def extractA (x : V) (i : Nat) : Option V :=
  match x with
  | .tup l => lget l i
  | _ => none

def pickA (c a b : V) : Option V :=
  match c with
  | .bool true => some a
  | .bool false => some b
  | _ => none

def mapOp (ρ : Operand → V) : Option Operand → Option V
  | none => none
  | some x => some (ρ x)

/-- an operation that neither reads nor writes memory -/
noncomputable def pureA (tab : Tab P) (ρ : Operand → V) (op : Op) : Option V :=
  match op with
  | .move x | .assign x => some (ρ x)
  | .pick c a b => pickA (ρ c) (ρ a) (ρ b)
  | .build t parts => buildA tab t (parts.toList.map fun p => (p.1, ρ p.2))
  | .nilCheck x => nilCheckA (ρ x)
  | .binOp op t x y _ => binA tab op t (x.isC || y.isC) (ρ x) (ρ y)
  | .unOp op _ x => unA op (ρ x)
  | .convert s d x => convertA tab s d (ρ x)
  | .makeInterface t x => ifaceA tab t (ρ x)
  | .makeFunc fn first captured =>
    match fn with
    | .func _ => some (.func fn (first.toList.map ρ) (captured.toList.map ρ))
    | _ => none
  | .slice t x lo hi mx => sliceA tab t (ρ x) (mapOp ρ lo) (mapOp ρ hi) (mapOp ρ mx)
  | .fieldAddr s x f => fieldAddrA tab s (ρ x) f
  | .field t x f => fieldA tab t (ρ x) f
  | .indexAddr t x i => indexAddrA tab t (ρ x) (ρ i)
  | .index t x i => indexA tab t (ρ x) (ρ i)
  | .typeAssert x _ t ok => assertA tab (ρ x) t ok
  | .extract t i => extractA (ρ t) i
  | .call c =>
    match c.callee with
    | .builtin .len =>
      match c.argTypes.toList, c.args.toList with
      | [t], [x] => lenA tab t (ρ x)
      | _, _ => none
    | .builtin .max =>
      match c.args.toList with
      | [x, y] => maxA (ρ x) (ρ y)
      | _ => none
    | .builtin .min =>
      match c.args.toList with
      | [x, y] => minA (ρ x) (ρ y)
      | _ => none
    | .builtin .cap =>
      match c.argTypes.toList, c.args.toList with
      | [t], [x] => capA tab t (ρ x)
      | _, _ => none
    | .builtin .unsafeSliceData =>
      match c.args.toList with
      | [x] => dataA (ρ x)
      | _ => none
    | _ => none
  | _ => none

theorem VRs.map {ρ : Operand → V} {R : Operand → Value} (h : ∀ x, VR e (ρ x) (R x)) : ∀ l : List Operand, VRs e (l.map ρ) (l.map R)
  | [] => VRs.nil
  | x :: l => VRs.cons (h x) (VRs.map h l)
theorem PRs.map {ρ : Operand → V} {R : Operand → Value} (h : ∀ x, VR e (ρ x) (R x)) : ∀ l : List (Nat × Operand), PRs e (l.map fun p => (p.1, ρ p.2)) (l.map fun (i, x) => (i, R x))
  | [] => trivial
  | x :: l => ⟨⟨rfl, h x.2⟩, PRs.map h l⟩
theorem VRo.map {ρ : Operand → V} {R : Operand → Value} (h : ∀ x, VR e (ρ x) (R x)) : ∀ o : Option Operand, VRo e (mapOp ρ o) (o.map R)
  | none => trivial
  | some x => h x

theorem pureA_sound {tab : Tab P} {ρ : Operand → V} {o : Oper} {v : V} (h : pureA tab ρ o.op = some v) {R : Operand → Value} (hr : ∀ x, VR e (ρ x) (R x)) :
    ∃ z, VR e v z ∧ ∀ w, (execOp R o).run P w = .ok (.value z) w := by
  have val : ∀ {s : Sem Value} {z : Value}, (∀ w, s.run P w = .ok z w) → ∀ w, (do pure (.value (← s)) : Sem Next).run P w = .ok (.value z) w := by
    intro s z hs w
    rw [Sem.run_bind, hs]
    rfl
  obtain ⟨dst, op, ty, pos, after, guard⟩ := o
  simp only at h
  cases op <;> simp only [pureA, reduceCtorEq, Option.some.injEq] at h
  case move x => subst h; exact ⟨R x, hr x, fun w => rfl⟩
  case assign x => subst h; exact ⟨R x, hr x, fun w => rfl⟩
  case pick c a b =>
    unfold pickA at h
    have hc := hr c
    split at h
    · rename_i hcv
      rw [hcv] at hc
      simp only [VR] at hc
      simp only [Option.some.injEq] at h
      subst h
      exact ⟨R a, hr a, fun w => by simp [execOp, hc, asBool]⟩
    · rename_i hcv
      rw [hcv] at hc
      simp only [VR] at hc
      simp only [Option.some.injEq] at h
      subst h
      exact ⟨R b, hr b, fun w => by simp [execOp, hc, asBool]⟩
    · cases h
  case build t parts =>
    obtain ⟨z, h1, h2⟩ := buildA_sound h (PARTS := parts.map fun (i, x) => (i, R x)) (by rw [Array.toList_map]; exact PRs.map hr _)
    exact ⟨z, h1, val h2⟩
  case nilCheck x =>
    have hx := hr x
    unfold nilCheckA at h
    split at h
    all_goals first
      | (cases h; done)
      | (rename_i hv
         simp only [Option.some.injEq] at h
         subst h
         refine ⟨R x, hx, fun w => ?_⟩
         rw [hv] at hx
         simp only [VR] at hx
         first
           | (obtain ⟨_, hx⟩ := hx; simp only [execOp, hx, Sem.run_pure]; done)
           | (obtain ⟨_, hx, _⟩ := hx; simp only [execOp, hx, Sem.run_pure]; done)
           | (obtain ⟨_, _, hx, _⟩ := hx; simp only [execOp, hx, Sem.run_pure]; done)
           | (obtain ⟨_, _, _, hx, _⟩ := hx; simp only [execOp, hx, Sem.run_pure]; done)
           | (obtain ⟨_, _, hx⟩ := hx; simp only [execOp, hx, Sem.run_pure]; done)
           | (simp only [execOp, hx, Sem.run_pure]; done))
  case binOp op t x y yt =>
    obtain ⟨z, h1, h2⟩ := binA_sound h (hr x) (hr y)
    exact ⟨z, h1, val h2⟩
  case unOp op yt x =>
    obtain ⟨z, h1, h2⟩ := unA_sound (P := P) h (hr x)
    exact ⟨z, h1, val h2⟩
  case convert s d x =>
    obtain ⟨z, h1, h2⟩ := convertA_sound h (hr x)
    exact ⟨z, h1, val h2⟩
  case makeInterface t x =>
    obtain ⟨z, h1, h2⟩ := ifaceA_sound h (hr x)
    exact ⟨z, h1, val h2⟩
  case makeFunc fn first captured =>
    split at h
    · simp only [Option.some.injEq] at h
      subst h
      rename_i f
      refine ⟨.func (.func f) (first.map R) (captured.map R), ?_, fun w => ?_⟩
      · simp only [VR]
        refine ⟨by simp, _, _, rfl, ?_, ?_⟩
        · rw [Array.toList_map]; exact VRs.map hr _
        · rw [Array.toList_map]; exact VRs.map hr _
      · simp only [execOp, Instr.makeFunc, Sem.run_bind, Sem.run_pure, Result.andThen_ok]
    · cases h
  case slice t x lo hi mx =>
    obtain ⟨z, h1, h2⟩ := sliceA_sound h (hr x) (VRo.map hr lo) (VRo.map hr hi) (VRo.map hr mx)
    exact ⟨z, h1, val h2⟩
  case fieldAddr s x f =>
    obtain ⟨z, h1, h2⟩ := fieldAddrA_sound h (hr x)
    exact ⟨z, h1, val h2⟩
  case field t x f =>
    obtain ⟨z, h1, h2⟩ := fieldA_sound h (hr x)
    exact ⟨z, h1, val h2⟩
  case indexAddr t x i =>
    obtain ⟨z, h1, h2⟩ := indexAddrA_sound h (hr x) (hr i)
    exact ⟨z, h1, val h2⟩
  case index t x i =>
    obtain ⟨z, h1, h2⟩ := indexA_sound h (hr x) (hr i)
    exact ⟨z, h1, val h2⟩
  case typeAssert x xt t ok =>
    obtain ⟨z, h1, h2⟩ := assertA_sound (xt := xt) h (hr x)
    exact ⟨z, h1, val h2⟩
  case extract t i =>
    have ht := hr t
    unfold extractA at h
    split at h
    · rename_i l hv
      rw [hv] at ht
      simp only [VR] at ht
      obtain ⟨a, ha, hl⟩ := ht
      rw [lget_eq] at h
      obtain ⟨x, h1, h2⟩ := hl.get i v h
      refine ⟨x, h2, fun w => ?_⟩
      have hx : a[i]? = some x := by rw [← Array.getElem?_toList]; exact h1
      simp only [execOp, Instr.extract, ha, hx, Sem.run_bind, Sem.run_pure, Result.andThen_ok]
    · cases h
  case call c =>
    obtain ⟨callee, args, argTypes⟩ := c
    simp only at h
    split at h
    · split at h
      · rename_i t x ht hx
        have hta : argTypes = #[t] := by apply Array.ext'; simpa using ht
        have hxa : args = #[x] := by apply Array.ext'; simpa using hx
        subst hta
        subst hxa
        obtain ⟨z, h1, h2⟩ := lenA_sound (ts := #[t]) (xs := #[R x]) h (hr x) rfl rfl ty
        refine ⟨z, h1, fun w => ?_⟩
        simp only [execOp, resolve, Sem.run_bind, Sem.run_pure, Result.andThen_ok, invoke, builtin]
        have hm : Array.map R #[x] = #[R x] := by simp
        rw [hm, h2]
        rfl
      · cases h
    · split at h
      · rename_i x y hx
        have hxa : args = #[x, y] := by apply Array.ext'; simpa using hx
        subst hxa
        have h1 := hr x
        have h2 := hr y
        unfold maxA at h
        split at h
        · rename_i k a k' b e1 e2
          rw [e1] at h1
          rw [e2] at h2
          simp only [VR] at h1 h2
          simp only [Option.some.injEq] at h
          subst h
          refine ⟨.int k (if b > a then b else a), ?_, fun w => ?_⟩
          · simp only [VR, ilt_eq, cond_eq_ite, decide_eq_true_eq]
          · simp [execOp, resolve, invoke, builtin, Builtin.max_, h1, h2, Builtin.max2]
        · cases h
      · cases h
    · split at h
      · rename_i x y hx
        have hxa : args = #[x, y] := by apply Array.ext'; simpa using hx
        subst hxa
        have h1 := hr x
        have h2 := hr y
        unfold minA at h
        split at h
        · rename_i k a k' b e1 e2
          rw [e1] at h1
          rw [e2] at h2
          simp only [VR] at h1 h2
          simp only [Option.some.injEq] at h
          subst h
          refine ⟨.int k (if b < a then b else a), ?_, fun w => ?_⟩
          · simp only [VR, ilt_eq, cond_eq_ite, decide_eq_true_eq]
          · simp [execOp, resolve, invoke, builtin, Builtin.min_, h1, h2, Builtin.min2]
        · cases h
      · cases h
    · split at h
      · rename_i t x ht hx
        have hta : argTypes = #[t] := by apply Array.ext'; simpa using ht
        have hxa : args = #[x] := by apply Array.ext'; simpa using hx
        subst hta
        subst hxa
        have hx := hr x
        unfold capA at h
        split at h
        · rename_i ti hti
          have ok := tab.tyOk _ _ hti
          have hu := ok.under
          split at h
          · rename_i hd e1
            rw [hd] at hu
            rw [e1] at hx
            simp only [VR] at hx
            simp only [Option.some.injEq] at h
            subst h
            refine ⟨.int .i64 0, by simp only [natA, VR]; rfl, fun w => ?_⟩
            simp [execOp, resolve, invoke, builtin, Builtin.cap_, hx, Go.run_underlying hu, goInt]
          · rename_i hd e1
            rw [hd] at hu
            rw [e1] at hx
            simp only [VR] at hx
            obtain ⟨_, c', hX, _, _, hc, _⟩ := hx
            have hc' := hc _ rfl
            subst hc'
            simp only [Option.some.injEq] at h
            subst h
            refine ⟨.int .i64 (.ofNat c'), by simp only [natA, VR], fun w => ?_⟩
            simp [execOp, resolve, invoke, builtin, Builtin.cap_, hX, Go.run_underlying hu, goInt]
          · cases h
        · cases h
      · cases h
    · split at h
      · rename_i x hx
        have hxa : args = #[x] := by apply Array.ext'; simpa using hx
        subst hxa
        have hx := hr x
        unfold dataA at h
        split at h
        · rename_i e1
          rw [e1] at hx
          simp only [VR] at hx
          simp only [Option.some.injEq] at h
          subst h
          exact ⟨.pointer none, by simp only [VR], fun w => by
            have hm : Array.map R #[x] = #[R x] := by simp
            simp only [execOp, resolve, Sem.run_bind, Sem.run_pure, Result.andThen_ok, invoke, builtin]
            rw [hm, hx, Lib.run_unsafeSliceData_nil]
            rfl⟩
        · rename_i b o es len cap e1
          rw [e1] at hx
          simp only [VR] at hx
          obtain ⟨hm, c', hX, hl, _, hc, _⟩ := hx
          rw [cond_eq_ite] at h
          split at h
          · rename_i hcnd
            have hc0 : c' ≠ 0 := by
              rcases Bool.or_eq_true_iff.1 hcnd with h | h
              · have := Nat.le_of_ble_eq_true h; omega
              · cases cap with
                | none => cases h
                | some n =>
                  cases n with
                  | zero => cases h
                  | succ n => have := hc _ rfl; omega
            simp only [Option.some.injEq] at h
            subst h
            refine ⟨.pointer (some ⟨e.blk b, o, none⟩), by simp only [VR]; exact ⟨hm, trivial⟩, fun w => ?_⟩
            have hm : Array.map R #[x] = #[R x] := by simp
            simp only [execOp, resolve, Sem.run_bind, Sem.run_pure, Result.andThen_ok, invoke, builtin]
            rw [hm, hX, Lib.run_unsafeSliceData_row _ _ _ _ _ _ hc0]
            rfl
          · cases h
        · cases h
      · cases h
    · cases h
end
end Go.Proofs.YtdolijagffcfgaaGreatDoor.Ev

/-
  The evaluator's steps in memory in one form: what follows of the abstract memory alone, and what holds in every world for which it stands.
-/
namespace Go.Proofs.YtdolijagffcfgaaGreatDoor.Ev

/-! ### the abstract memory alone -/
structure AWf (σ : St) : Prop where
  next : σ.next ≤ 2 ^ dh
  fresh : ∀ i, σ.next ≤ i → i < 2 ^ dh → σ.at i = .no

structure AExt (σ σ' : St) : Prop where
  next : σ.next ≤ σ'.next
  logs : ∀ p ∈ σ.log, p.1 < σ.next → p ∈ σ'.log
  looks : ∀ i n, i < σ.next → Clear σ'.log i n → (σ'.at i).look n = (σ.at i).look n
  keeps : ∀ i, i < σ.next → (∀ p ∈ σ'.log, p.1 ≠ i) → σ'.at i = σ.at i

theorem AExt.refl (σ : St) : AExt σ σ := ⟨Nat.le_refl _, fun _ h _ => h, fun _ _ _ _ => rfl, fun _ _ _ => rfl⟩
theorem AExt.trans {a b c : St} (h : AExt a b) (k : AExt b c) : AExt a c where
  next := Nat.le_trans h.next k.next
  logs := fun p hp hn => k.logs p (h.logs p hp hn) (Nat.lt_of_lt_of_le hn h.next)
  looks := fun i n hi hc => by
    rw [k.looks i n (Nat.lt_of_lt_of_le hi h.next) hc]
    exact h.looks i n hi fun p hp he => hc p (k.logs p hp (by rw [he]; exact Nat.lt_of_lt_of_le hi h.next)) he
  keeps := fun i hi hc => by
    rw [k.keeps i (Nat.lt_of_lt_of_le hi h.next) hc]
    refine h.keeps i hi fun p hp he => ?_
    exact hc p (k.logs p hp (by rw [he]; exact Nat.lt_of_lt_of_le hi h.next)) he

theorem Rel.awf {ng base : Nat} {e : Env} {σ : St} {w : World} (h : Rel ng base e σ w) : AWf σ := ⟨h.next, h.fresh⟩

section
variable {P : Program} {ng : Nat}

theorem Rel.gc {base : Nat} {e : Env} {σ : St} {w w' : World} (h : Rel ng base e σ w) (hh : w'.heap = w.heap) : Rel ng base e σ w' :=
  ⟨h.next, h.lim, fun i hi => by rw [hh]; exact h.there i hi, fun i hi hn => by rw [hh]; exact h.obj i hi hn, h.inj, h.own, h.fresh⟩

/-! ### a block's other content -/
theorem at_put_ne (σ : St) (b i : Nat) (ob : Ob) (hb : b < 2 ^ dh) (hi : i < 2 ^ dh) (h : i ≠ b) : (σ.put b ob).at i = σ.at i := by
  rw [St.at_put σ b i ob hb hi, if_neg h]

theorem AExt.put {σ : St} (hw : AWf σ) {b : Nat} (hb : b < σ.next) {ob : Ob} (p : Nat × Nat × Nat) (hp : p.1 = b) (hlook : ∀ n, Clear [p] b n → ob.look n = (σ.at b).look n) :
    AWf { σ.put b ob with log := p :: σ.log } ∧ AExt σ { σ.put b ob with log := p :: σ.log } := by
  have hb2 : b < 2 ^ dh := Nat.lt_of_lt_of_le hb hw.next
  refine ⟨⟨hw.next, fun i h1 h2 => ?_⟩, Nat.le_refl _, fun q hq _ => List.mem_cons_of_mem _ hq, fun i n hi hc => ?_, fun i hi hc => ?_⟩
  · show (σ.put b ob).at i = .no
    have h1' : σ.next ≤ i := h1
    rw [at_put_ne σ b i ob hb2 h2 (by omega)]
    exact hw.fresh i h1 h2
  · have hi2 : i < 2 ^ dh := Nat.lt_of_lt_of_le hi hw.next
    show ((σ.put b ob).at i).look n = _
    by_cases hib : i = b
    · subst hib
      rw [St.at_put σ i i ob hb2 hb2, if_pos rfl]
      exact hlook n fun q hq he => hc q (by simp at hq; simp [hq]) he
    · rw [at_put_ne σ b i ob hb2 hi2 hib]
  · have hi2 : i < 2 ^ dh := Nat.lt_of_lt_of_le hi hw.next
    have hib : i ≠ b := fun he => hc p (by simp) (hp.trans he.symm)
    show (σ.put b ob).at i = _
    rw [at_put_ne σ b i ob hb2 hi2 hib]

theorem storeK_goes {σ : St} (hwf : AWf σ) {b o : Nat} {new : List V} {κ : St → Bool}
    (h : (bif Nat.blt b σ.next then σ.storeK ng b o new κ else false) = true) :
    ∃ σ', κ σ' = true ∧ AWf σ' ∧ AExt σ σ' ∧ ∀ base e w xs, Rel ng base e σ w → e.M b → VRs e new xs → ∃ w', (storeCells ⟨e.blk b, o, none⟩ xs).run P w = .ok () w' ∧ Rel ng base e σ' w' ∧ Ext ng e σ w e σ' w' := by
  rw [cond_eq_ite] at h
  split at h
  · rename_i hb
    have hb' := blt_lt hb
    have h0 := h
    unfold St.storeK at h
    split at h
    · rename_i ty vs sp hat
      rw [cond_eq_ite] at h
      split at h
      · rename_i hc
        simp only [Bool.and_eq_true] at hc
        obtain ⟨hng, hlen, hone⟩ := hc
        have hlen' : o + new.length ≤ vs.length := by have := Nat.le_of_ble_eq_true hlen; rwa [llen_eq, llen_eq] at this
        rw [ltakeK_eq, if_pos (by omega), lforceK_eq, lappK_eq, lappK_eq, St.putK_eq, forceN_eq, ldrop_eq] at h
        simp only [llen_eq] at h
        have hx := AExt.put hwf hb' (ob := .cells ty (vs.take o ++ (new ++ vs.drop (Nat.add o new.length))) sp false) (b, o, new.length) rfl (by
          intro n hcl
          rw [hat]
          simp only [Ob.look, Prod.mk.injEq, and_true]
          have hn := hcl (b, o, new.length) (by simp) rfl
          simp only at hn
          show (vs.take o ++ (new ++ vs.drop (o + new.length)))[n]? = _
          rcases Nat.lt_or_ge n o with hlt | hge
          · rw [List.getElem?_append_left (by simp; omega), List.getElem?_take, if_pos hlt]
          · have hn2 : o + new.length ≤ n := by omega
            rw [List.getElem?_append_right (by simp; omega), List.getElem?_append_right (by simp; omega), List.getElem?_drop]
            congr 1
            simp
            omega)
        refine ⟨_, h, hx.1, hx.2, fun base e w xs hr hm hv => ?_⟩
        -- the world's part, by the law for one continuation that pins the memory
        have hst : ∀ κ' : St → Bool, σ.storeK ng b o new κ' = κ' { σ.put b (.cells ty (vs.take o ++ (new ++ vs.drop (Nat.add o new.length))) sp false) with log := (b, o, new.length) :: σ.log } := by
          intro κ'
          unfold St.storeK
          simp only [hat]
          rw [cond_eq_ite, if_pos (by simp only [Bool.and_eq_true]; exact ⟨hng, hlen, hone⟩)]
          rw [ltakeK_eq, if_pos (by omega), lforceK_eq, lappK_eq, lappK_eq, St.putK_eq, forceN_eq, ldrop_eq]
          simp only [llen_eq]
          rfl
        classical
        let T : St := { σ.put b (.cells ty (vs.take o ++ (new ++ vs.drop (Nat.add o new.length))) sp false) with log := (b, o, new.length) :: σ.log }
        obtain ⟨σ', w', h1, h2, h3, h4⟩ := storeK_sound hr hm P hv (κ := fun s => decide (s = T)) (by rw [hst]; exact decide_eq_true rfl)
        have hT : σ' = T := of_decide_eq_true h1
        subst hT
        exact ⟨w', h2, h3, h4⟩
      · cases h
    · cases h
  · cases h

/-- a new block in the abstract memory -/
noncomputable def St.more (σ : St) (ob : Ob) : St := { σ.put σ.next ob with next := σ.next + 1 }

theorem newK_eq {σ : St} {ob : Ob} {κ : Nat → St → Bool} (h : σ.newK ob κ = true) : σ.next < 2 ^ dh ∧ κ σ.next (σ.more ob) = true := by
  unfold St.newK at h
  rw [cond_eq_ite] at h
  split at h
  · rename_i hlt
    rw [St.putK_eq, forceN_eq] at h
    exact ⟨blt_lt hlt, h⟩
  · cases h

theorem AExt.more {σ : St} (hw : AWf σ) (hlt : σ.next < 2 ^ dh) (ob : Ob) : AWf (σ.more ob) ∧ AExt σ (σ.more ob) := by
  refine ⟨⟨hlt, fun i h1 h2 => ?_⟩, Nat.le_succ _, fun q hq _ => hq, fun i n hi hc => ?_, fun i hi hc => ?_⟩
  · show (σ.put σ.next ob).at i = .no
    have h1' : σ.next + 1 ≤ i := h1
    rw [at_put_ne σ σ.next i ob hlt h2 (by omega)]
    exact hw.fresh i (by omega) h2
  · show ((σ.put σ.next ob).at i).look n = _
    rw [at_put_ne σ σ.next i ob hlt (by omega) (by omega)]
  · show (σ.put σ.next ob).at i = _
    rw [at_put_ne σ σ.next i ob hlt (by omega) (by omega)]

theorem newK_goes {σ : St} (hwf : AWf σ) {ob : Ob} {κ : Nat → St → Bool} (h : σ.newK ob κ = true) :
    κ σ.next (σ.more ob) = true ∧ AWf (σ.more ob) ∧ AExt σ (σ.more ob) ∧ ∀ base e w o size, base ≤ w.heap.size → Rel ng base e σ w → OR (e.more σ.next w.heap.size size) ob σ.next o →
      ∃ w', (newObj o).run P w = .ok w.heap.size w' ∧ Rel ng base (e.more σ.next w.heap.size size) (σ.more ob) w' ∧ Ext ng e σ w (e.more σ.next w.heap.size size) (σ.more ob) w' := by
  obtain ⟨hlt, hk⟩ := newK_eq h
  obtain ⟨h1, h2⟩ := AExt.more hwf hlt ob
  refine ⟨hk, h1, h2, fun base e w o size hb hr ho => ?_⟩
  classical
  obtain ⟨σ', w', g1, g2, g3, g4, _⟩ := newK_sound hr hb P (κ := fun _ s => decide (s = σ.more ob)) (size := size) (by
    unfold St.newK
    rw [cond_eq_ite, if_pos (by exact Nat.ble_eq_true_of_le hlt), St.putK_eq, forceN_eq]
    exact decide_eq_true rfl) ho
  have hT : σ' = σ.more ob := of_decide_eq_true g1
  subst hT
  exact ⟨w', g2, g3, g4⟩
end
end Go.Proofs.YtdolijagffcfgaaGreatDoor.Ev

/-
  The evaluator's operations on memory: read, write, new variables and rows.
-/
namespace Go.Proofs.YtdolijagffcfgaaGreatDoor.Ev
section
variable {P : Program} {ng : Nat}

/-! ### reading -/
noncomputable def loadO (tab : Tab P) (σ : St) (t : TypeId) (x : V) : Option V :=
  match tab.ty t, x with
  | some ti, .ptr b o =>
    match σ.at b with
    | .cells _ vs _ _ =>
      bif ti.desc.isAgg then (bif Nat.ble 1 ti.size then ltakeK none ti.size (ldrop o vs) (fun l => some (.agg l)) else none)
      else lget vs o
    | _ => none
  | _, _ => none

theorem isAgg_run {P : Program} {t : TypeId} {ti : TI} (ok : TIok P t ti) (w : World) : (isAgg t).run P w = .ok ti.desc.isAgg w := by
  rw [ok.run_isAgg]
  cases ti.desc <;> rfl

theorem loadO_sound {tab : Tab P} {σ : St} {t : TypeId} {x v : V} (h : loadO tab σ t x = some v) {base : Nat} {e : Env} {w : World} (hr : Rel ng base e σ w) {X : Value} (hx : VR e x X) :
    ∃ z, VR e v z ∧ (Instr.loadAt t X).run P w = .ok z w := by
  unfold loadO at h
  split at h
  · rename_i ti b o hti
    have ok := tab.tyOk _ _ hti
    simp only [VR] at hx
    obtain ⟨hm, rfl⟩ := hx
    split at h
    · rename_i ty vs sp fz hat
      rw [cond_eq_ite] at h
      split at h
      · rename_i hagg
        rw [cond_eq_ite] at h
        split at h
        · rename_i h1
          have h1' := Nat.le_of_ble_eq_true h1
          rw [ltakeK_eq, ldrop_eq] at h
          split at h
          · rename_i hle
            have hle' : o + ti.size ≤ vs.length := by simp at hle; omega
            obtain ⟨xs, g1, g2, g3⟩ := load_sound hr hm hat P o ti.size hle'
            simp only [Option.some.injEq] at h
            subst h
            refine ⟨.agg xs.toArray, by simp only [VR]; exact ⟨_, rfl, g1⟩, ?_⟩
            simp only [Instr.loadAt, Instr.sureAddr, Sem.run_bind, Sem.run_pure, Result.andThen_ok, loadVar, isAgg_run ok, hagg, if_true, ok.run_sizeOf, g3]
          · cases h
        · cases h
      · rename_i hagg
        rw [lget_eq] at h
        have hlt : o < vs.length := by
          rcases Nat.lt_or_ge o vs.length with h' | h'
          · exact h'
          · rw [List.getElem?_eq_none h'] at h; cases h
        obtain ⟨c, fr, pre, post, g1, g2, g3, _⟩ := cells_sound hr hm hat
        obtain ⟨z, k1, k2⟩ := g3.get o v h
        refine ⟨z, k2, ?_⟩
        have hc : w.cell? ⟨e.blk b, o, none⟩ = some z := by
          rw [cell_of_cells g1, ← Array.getElem?_toList, g2, List.getElem?_append_left (by rw [← g3.length]; exact hlt)]
          exact k1
        have hagg' : ti.desc.isAgg = false := by simpa using hagg
        simp only [Instr.loadAt, Instr.sureAddr, Sem.run_bind, Sem.run_pure, Result.andThen_ok, loadVar, isAgg_run ok, hagg', Bool.false_eq_true, if_false, run_load, hc]
    · cases h
  · cases h

/-- which cells a reading meets -/
noncomputable def loadAt? (tab : Tab P) (t : TypeId) (x : V) : Nat × Nat × Nat :=
  match tab.ty t, x with
  | some ti, .ptr b o => (b, o, bif ti.desc.isAgg then ti.size else 1)
  | _, _ => (0, 0, 0)

theorem look_cells {ob : Ob} {n : Nat} {v : V} (h : ob.look n = (some v, none)) : ∃ ty vs sp fz, ob = .cells ty vs sp fz ∧ vs[n]? = some v := by
  cases ob <;> simp [Ob.look] at h
  exact ⟨_, _, _, _, rfl, h⟩

theorem loadO_congr {tab : Tab P} {σ τ : St} {t : TypeId} {x v : V} (h : loadO tab σ t x = some v)
    (hl : ∀ n, (loadAt? tab t x).2.1 ≤ n → n < (loadAt? tab t x).2.1 + (loadAt? tab t x).2.2 → (τ.at (loadAt? tab t x).1).look n = (σ.at (loadAt? tab t x).1).look n) : loadO tab τ t x = some v := by
  unfold loadO at h
  split at h
  · rename_i ti b o hti
    simp only [loadAt?, hti] at hl
    split at h
    · rename_i ty vs sp fz hat
      rw [cond_eq_ite] at h
      split at h
      · rename_i hagg
        simp only [hagg, cond_true] at hl
        rw [cond_eq_ite] at h
        split at h
        · rename_i h1
          have h1' := Nat.le_of_ble_eq_true h1
          rw [ltakeK_eq, ldrop_eq] at h
          split at h
          · rename_i hle
            have hle' : o + ti.size ≤ vs.length := by simp at hle; omega
            have h0 := hl o (Nat.le_refl _) (by omega)
            rw [hat] at h0
            have hsome : vs[o]? = some (vs[o]'(by omega)) := List.getElem?_eq_getElem (by omega)
            simp only [Ob.look, hsome] at h0
            obtain ⟨ty', vs', sp', fz', hat', _⟩ := look_cells h0
            have hall : ∀ n, o ≤ n → n < o + ti.size → vs'[n]? = vs[n]? := by
              intro n h2 h3
              have := hl n h2 h3
              rw [hat, hat'] at this
              simpa [Ob.look] using this
            have hlen : o + ti.size ≤ vs'.length := by
              have := hall (o + ti.size - 1) (by omega) (by omega)
              rw [List.getElem?_eq_getElem (by omega : o + ti.size - 1 < vs.length)] at this
              have := (List.getElem?_eq_some_iff.1 this).1
              omega
            unfold loadO
            simp only [hti, hat']
            rw [hagg, cond_true, h1, cond_true, ltakeK_eq, ldrop_eq, if_pos (by simp; omega), ← h]
            congr 2
            apply List.ext_getElem?
            intro n
            rw [List.getElem?_take, List.getElem?_take]
            split
            · rw [List.getElem?_drop, List.getElem?_drop]
              exact hall _ (by omega) (by omega)
            · rfl
          · cases h
        · cases h
      · rename_i hagg
        have hagg' : ti.desc.isAgg = false := by simpa using hagg
        simp only [hagg', cond_false] at hl
        rw [lget_eq] at h
        have h0 := hl o (Nat.le_refl _) (by omega)
        rw [hat] at h0
        simp only [Ob.look, h] at h0
        obtain ⟨ty', vs', sp', fz', hat', hv⟩ := look_cells h0
        unfold loadO
        simp only [hti, hat', hagg', cond_false, lget_eq]
        exact hv
    · cases h
  · cases h

/-! ### writing -/
noncomputable def storeA (ng : Nat) (tab : Tab P) (σ : St) (t : TypeId) (x v : V) (κ : St → Bool) : Bool :=
  match tab.ty t, x, v.cellsA with
  | some ti, .ptr b o, some l => bif Nat.beq (llen l) ti.size then (bif Nat.blt b σ.next then σ.storeK ng b o l κ else false) else false
  | _, _, _ => false

theorem storeA_goes {tab : Tab P} {σ : St} (hwf : AWf σ) {t : TypeId} {x v : V} {κ : St → Bool} (h : storeA ng tab σ t x v κ = true) :
    ∃ σ', κ σ' = true ∧ AWf σ' ∧ AExt σ σ' ∧ ∀ base e w X Y, Rel ng base e σ w → VR e x X → VR e v Y → ∃ w', (Instr.storeAt t X Y).run P w = .ok () w' ∧ Rel ng base e σ' w' ∧ Ext ng e σ w e σ' w' := by
  unfold storeA at h
  split at h
  · rename_i ti b o l hti hl
    have ok := tab.tyOk _ _ hti
    rw [cond_eq_ite] at h
    split at h
    · rename_i hlen
      have hlen' := Nat.eq_of_beq_eq_true hlen
      rw [llen_eq] at hlen'
      obtain ⟨σ', h1, h2, h3, h4⟩ := storeK_goes (P := P) hwf h
      refine ⟨σ', h1, h2, h3, fun base e w X Y hr hx hy => ?_⟩
      simp only [VR] at hx
      obtain ⟨hm, rfl⟩ := hx
      have hc := V.cellsA_sound hl hy
      obtain ⟨w', g1, g2, g3⟩ := h4 base e w _ hr hm hc
      refine ⟨w', ?_, g2, g3⟩
      have hsz : Y.cells.size = ti.size := by rw [← hlen', hc.length]; simp
      simp only [Instr.storeAt, Instr.sureAddr, Sem.run_bind, Sem.run_pure, Result.andThen_ok, storeVar, ok.run_sizeOf, hsz, ne_eq, not_true_eq_false, if_false]
      exact g1
    · cases h
  · cases h

/-! ### new variables -/
theorem OR.fresh {e : Env} {σ : St} {elem : TypeId} {l : List V} {c : Array Value} {w : World} (hc : VRs (e.more σ.next w.heap.size c.size) l c.toList) :
    OR (e.more σ.next w.heap.size c.size) (.cells elem l false false) σ.next (.cells c elem (0, 0)) :=
  ⟨c, (0, 0), c.toList, [], rfl, by simp, hc, by simp [Env.more], fun _ => rfl, fun _ => rfl⟩

noncomputable def rowK (σ : St) (elem : TypeId) (l : List V) (κ : Nat → St → Bool) : Bool := σ.newK (.cells elem l false false) κ

theorem rowK_goes {σ : St} (hwf : AWf σ) {elem : TypeId} {l : List V} {κ : Nat → St → Bool} (h : rowK σ elem l κ = true) :
    κ σ.next (σ.more (.cells elem l false false)) = true ∧ AWf (σ.more (.cells elem l false false)) ∧ AExt σ (σ.more (.cells elem l false false)) ∧
    ∀ base e w c, base ≤ w.heap.size → Rel ng base e σ w → VRs e l c.toList → ∃ e' w', (newRow elem c).run P w = .ok ⟨e'.blk σ.next, 0, none⟩ w' ∧ e'.M σ.next ∧ e'.size σ.next = c.size ∧ Rel ng base e' (σ.more (.cells elem l false false)) w' ∧ Ext ng e σ w e' (σ.more (.cells elem l false false)) w' := by
  obtain ⟨h1, h2, h3, h4⟩ := newK_goes (P := P) (ng := ng) hwf h
  refine ⟨h1, h2, h3, fun base e w c hb hr hc => ?_⟩
  have hnm : ¬ e.M σ.next := fun hm => Nat.lt_irrefl _ (hr.lim _ hm)
  have hle := Env.le_more e σ.next w.heap.size c.size hnm
  obtain ⟨w', g1, g2, g3⟩ := h4 base e w (.cells c elem) c.size hb hr (OR.fresh (VRs.mono hle _ _ hc))
  refine ⟨_, w', ?_, Or.inr rfl, by simp [Env.more], g2, g3⟩
  have hbk : (e.more σ.next w.heap.size c.size).blk σ.next = w.heap.size := by simp [Env.more]
  simp only [newRow, Sem.run_bind, g1, Result.andThen_ok, Sem.run_pure, hbk]

noncomputable def boxA (σ : St) (elem : TypeId) (v : V) (κ : V → St → Bool) : Bool :=
  match v.cellsA with
  | some l => rowK σ elem l fun b σ' => κ (.ptr b 0) σ'
  | none => false

theorem boxA_goes {σ : St} (hwf : AWf σ) {elem : TypeId} {v : V} {κ : V → St → Bool} (h : boxA σ elem v κ = true) :
    ∃ u σ', κ u σ' = true ∧ AWf σ' ∧ AExt σ σ' ∧ ∀ base e w X, base ≤ w.heap.size → Rel ng base e σ w → VR e v X → ∃ e' w' z, (Instr.box elem X).run P w = .ok z w' ∧ VR e' u z ∧ Rel ng base e' σ' w' ∧ Ext ng e σ w e' σ' w' := by
  unfold boxA at h
  split at h
  · rename_i l hl
    obtain ⟨h1, h2, h3, h4⟩ := rowK_goes (P := P) (ng := ng) hwf h
    refine ⟨_, _, h1, h2, h3, fun base e w X hb hr hx => ?_⟩
    obtain ⟨e', w', g1, g2, g3, g4, g5⟩ := h4 base e w X.cells hb hr (V.cellsA_sound hl hx)
    refine ⟨e', w', .pointer (some ⟨e'.blk σ.next, 0, none⟩), ?_, ?_, g4, g5⟩
    · simp only [Instr.box, newVar, Sem.run_bind, g1, Result.andThen_ok, Sem.run_pure]
    · simp only [VR]
      exact ⟨g2, trivial⟩
  · cases h

noncomputable def allocA (tab : Tab P) (σ : St) (elem : TypeId) (κ : V → St → Bool) : Bool :=
  match tab.ty elem with
  | some ti => boxA σ elem ti.zero κ
  | none => false

theorem allocA_goes {tab : Tab P} {σ : St} (hwf : AWf σ) {elem : TypeId} {κ : V → St → Bool} (h : allocA tab σ elem κ = true) :
    ∃ u σ', κ u σ' = true ∧ AWf σ' ∧ AExt σ σ' ∧ ∀ base e w, base ≤ w.heap.size → Rel ng base e σ w → ∃ e' w' z, (Instr.alloc elem true (.tuple #[])).run P w = .ok z w' ∧ VR e' u z ∧ Rel ng base e' σ' w' ∧ Ext ng e σ w e' σ' w' := by
  unfold allocA at h
  split at h
  · rename_i ti hti
    have ok := tab.tyOk _ _ hti
    obtain ⟨z, hz1, hz2⟩ := ok.run_zero
    obtain ⟨u, σ', h1, h2, h3, h4⟩ := boxA_goes (P := P) (ng := ng) hwf h
    refine ⟨u, σ', h1, h2, h3, fun base e w hb hr => ?_⟩
    obtain ⟨e', w', y, g1, g2⟩ := h4 base e w z hb hr (hz1 e)
    refine ⟨e', w', y, ?_, g2⟩
    simp only [Instr.alloc, Sem.run_bind, hz2, Result.andThen_ok]
    simpa only [Instr.box, Sem.run_bind] using g1
  · cases h
end
end Go.Proofs.YtdolijagffcfgaaGreatDoor.Ev

/-
  The evaluator's append, and rows made new.
-/
namespace Go.Proofs.YtdolijagffcfgaaGreatDoor.Ev
section
variable {P : Program} {ng : Nat}

/-! ### rows of the like -/
noncomputable def rep (zs : List V) (n : Nat) : List V := Nat.rec (motive := fun _ => List V) [] (fun _ ih => ih ++ zs) n
theorem rep_succ (zs : List V) (n : Nat) : rep zs (n + 1) = rep zs n ++ zs := rfl
theorem rep_zero (zs : List V) : rep zs 0 = [] := rfl
theorem rep_length (zs : List V) (n : Nat) : (rep zs n).length = n * zs.length := by
  induction n with
  | zero => rw [rep_zero]; simp
  | succ n ih => rw [rep_succ, List.length_append, ih, Nat.succ_mul]

theorem rep_sound {e : Env} {zs : List V} {zero : Array Value} (hz : VRs e zs zero.toList) (n : Nat) :
    VRs e (rep zs n) ((Array.range (n * zero.size)).map (zero[· % zero.size]!)).toList := by
  rw [Array.toList_map, Array.toList_range]
  induction n with
  | zero => rw [rep_zero]; simpa using VRs.nil
  | succ n ih =>
    rw [rep_succ, Nat.succ_mul, List.range_add, List.map_append]
    refine ih.app ?_
    rw [List.map_map]
    have : (List.range zero.size).map ((fun x => zero[x % zero.size]!) ∘ fun x => n * zero.size + x) = zero.toList := by
      apply List.ext_getElem?
      intro j
      by_cases hj : j < zero.size
      · have key : (n * zero.size + j) % zero.size = j := by rw [Nat.mul_comm, Nat.mul_add_mod, Nat.mod_eq_of_lt hj]
        simp [hj, key]
      · rw [List.getElem?_eq_none (by simp; omega), List.getElem?_eq_none (by simp; omega)]
    rw [this]
    exact hz

/-- a row of a type's zero values -/
noncomputable def zerosA (eti : TI) (n : Nat) : Option (List V) :=
  bif Nat.beq (Nat.mul n eti.size) 0 then some []
  else match eti.zero.cellsA with
  | some zs => bif Nat.beq (llen zs) eti.size then some (rep zs n) else none
  | none => none

theorem zerosA_sound {t : TypeId} {eti : TI} (ok : TIok P t eti) {n : Nat} {l : List V} (h : zerosA eti n = some l) (e : Env) :
    ∃ Z c : Array Value, c = (Array.range (n * eti.size)).map (Z[· % Z.size]!) ∧ VRs e l c.toList ∧ c.size = n * eti.size ∧
      ∀ w, ((if n * eti.size = 0 then pure #[] else (do pure (← zeroValue t).cells) : Sem (Array Value))).run P w = .ok Z w := by
  obtain ⟨z, hz1, hz2⟩ := ok.run_zero
  unfold zerosA at h
  rw [cond_eq_ite, beq_iff] at h
  split at h
  · rename_i h0
    have h0' : n * eti.size = 0 := by simpa using h0
    simp only [Option.some.injEq] at h
    subst h
    refine ⟨#[], #[], by rw [h0']; simp, VRs.nil, by rw [h0']; rfl, fun w => ?_⟩
    simp [h0']
  · rename_i h0
    have h0' : ¬ n * eti.size = 0 := by simpa using h0
    split at h
    · rename_i zs hzs
      rw [cond_eq_ite] at h
      split at h
      · rename_i hl
        have hl' := Nat.eq_of_beq_eq_true hl
        rw [llen_eq] at hl'
        simp only [Option.some.injEq] at h
        subst h
        have hc := V.cellsA_sound hzs (hz1 e)
        have hsz : z.cells.size = eti.size := by rw [← hl', hc.length]; simp
        refine ⟨z.cells, _, rfl, ?_, ?_, fun w => ?_⟩
        · rw [← hsz]; exact rep_sound hc n
        · simp
        · simp only [h0', if_false, Sem.run_bind, hz2, Result.andThen_ok, Sem.run_pure]
      · cases h
    · cases h

/-! ### what is appended -/
noncomputable def srcA (σ : St) (d : TypeDesc) (size : Nat) (x : V) : Option (List V × Nat) :=
  match d, x with
  | .slice _, .nils => some ([], 0)
  | .slice _, .emp => some ([], 0)
  | .slice _, .slice b o _ n _ =>
    match σ.at b with
    | .cells _ vs _ _ => ltakeK none (Nat.mul n size) (ldrop o vs) fun l => bif allOne l then some (l, n) else none
    | _ => none
  | .string, .str s => bif Nat.beq size 1 then some (s.map fun b => .int .u8 (.ofNat b), llen s) else none
  | _, _ => none

theorem srcA_sound {σ : St} {d : TypeDesc} {size : Nat} {x : V} {l : List V} {n : Nat} (h : srcA σ d size x = some (l, n)) {tx : TypeId} (hd : P.underlying tx = some d)
    {base : Nat} {e : Env} {w : World} (hr : Rel ng base e σ w) {X : Value} (hx : VR e x X) : ∃ news, VRs e l news ∧ Src P size tx X n news w := by
  unfold srcA at h
  split at h
  · simp only [Option.some.injEq, Prod.mk.injEq] at h
    obtain ⟨rfl, rfl⟩ := h
    simp only [VR] at hx
    subst hx
    exact ⟨[], VRs.nil, Src.ofNil w hd 0⟩
  · simp only [Option.some.injEq, Prod.mk.injEq] at h
    obtain ⟨rfl, rfl⟩ := h
    simp only [VR] at hx
    obtain ⟨a, c, rfl⟩ := hx
    exact ⟨[], VRs.nil, Src.ofSlice w hd a 0 c [] (by simp) (by simp) (by simp)⟩
  · rename_i elem b o es n' cap
    simp only [VR] at hx
    obtain ⟨hm, c, rfl, _⟩ := hx
    split at h
    · rename_i ty vs sp fz hat
      rw [ltakeK_eq, ldrop_eq] at h
      split at h
      · rename_i hle
        rw [cond_eq_ite] at h
        split at h
        · rename_i hone
          simp only [Option.some.injEq, Prod.mk.injEq] at h
          obtain ⟨rfl, rfl⟩ := h
          have hle' : n' * size ≤ vs.length - o := by simpa using hle
          rcases Nat.eq_zero_or_pos (n' * size) with h0 | h0
          · have e0 : Nat.mul n' size = 0 := h0
            refine ⟨[], by rw [e0]; simpa using VRs.nil, Src.ofSlice w hd _ _ c [] (by simp [h0]) (by simp) (by simp)⟩
          · obtain ⟨xs, g1, g2, _⟩ := load_sound hr hm hat P o (n' * size) (by omega)
            refine ⟨xs, g1, Src.ofSlice w hd _ _ c xs ?_ g2 (allOne_sound hone g1)⟩
            rw [← g1.length]
            simp
            omega
        · cases h
      · cases h
    · cases h
  · rw [cond_eq_ite] at h
    split at h
    · rename_i hs
      have hs' := Nat.eq_of_beq_eq_true hs
      subst hs'
      simp only [Option.some.injEq, Prod.mk.injEq] at h
      obtain ⟨rfl, rfl⟩ := h
      simp only [VR] at hx
      obtain ⟨rfl, hb⟩ := hx
      rename_i s
      have := Src.ofString (P := P) w hd (strOf s)
      rw [strOf_size] at this
      rw [llen_eq]
      refine ⟨byteCells (strOf s), ?_, this⟩
      have hbc : byteCells (strOf s) = s.map fun b => Value.int .u8 (.ofNat b) := by
        unfold byteCells
        show ((s.map UInt8.ofNat).toArray.toList).map _ = _
        rw [List.map_map]
        apply List.map_congr_left
        intro n hn
        simp only [Function.comp]
        rw [toNat_ofNat (hb n hn)]
        rfl
      rw [hbc]
      clear this hbc hb
      induction s with
      | nil => exact VRs.nil
      | cons a s ih => exact VRs.cons (by simp only [VR]) ih
    · cases h
  · cases h

/-! ### memory moved on: a row whose end is not known -/
noncomputable def St.moved (σ : St) (b n : Nat) (ob : Ob) : St := ({ σ.put b .no with log := (b, 0, n) :: σ.log } : St).more ob

theorem moved_awf {σ : St} (hwf : AWf σ) {b : Nat} (hb : b < σ.next) (hlt : σ.next < 2 ^ dh) {ty : TypeId} {vs : List V} {sp fz : Bool} (hat : σ.at b = .cells ty vs sp fz) (ob : Ob) :
    AWf (σ.moved b vs.length ob) ∧ AExt σ (σ.moved b vs.length ob) := by
  obtain ⟨h1, h2⟩ := AExt.put hwf hb (ob := .no) (b, 0, vs.length) rfl (by
    intro n hcl
    have hn := hcl (b, 0, vs.length) (by simp) rfl
    simp only at hn
    rw [hat]
    simp only [Ob.look, Prod.mk.injEq, and_true]
    rw [List.getElem?_eq_none (by omega)])
  obtain ⟨h3, h4⟩ := AExt.more h1 (by exact hlt) ob
  exact ⟨h3, h2.trans h4⟩

/-- a block that is no longer known -/
theorem Rel.kill {base : Nat} {e : Env} {σ : St} {w : World} (hr : Rel ng base e σ w) {b : Nat} (hb : e.M b) (l : List (Nat × Nat × Nat)) : Rel ng base e { σ.put b .no with log := l } w where
  next := hr.next
  lim := hr.lim
  there := hr.there
  obj := fun i hi hn => by
    have hn' : ((σ.put b .no).at i).isNo = false := hn
    show ∃ o, w.heap[e.blk i]? = some o ∧ OR e ((σ.put b .no).at i) i o
    rw [St.at_put σ b i .no (hr.ltM hb) (hr.ltM hi)] at hn' ⊢
    by_cases hib : i = b
    · rw [if_pos hib] at hn'; cases hn'
    · rw [if_neg hib] at hn' ⊢
      exact hr.obj i hi hn'
  inj := fun i j hi hj hni hnj he => by
    have hni' : ((σ.put b .no).at i).isNo = false := hni
    have hnj' : ((σ.put b .no).at j).isNo = false := hnj
    rw [St.at_put σ b i .no (hr.ltM hb) (hr.ltM hi)] at hni'
    rw [St.at_put σ b j .no (hr.ltM hb) (hr.ltM hj)] at hnj'
    by_cases hib : i = b
    · rw [if_pos hib] at hni'; cases hni'
    · by_cases hjb : j = b
      · rw [if_pos hjb] at hnj'; cases hnj'
      · rw [if_neg hib] at hni'
        rw [if_neg hjb] at hnj'
        exact hr.inj i j hi hj hni' hnj' he
  own := hr.own
  fresh := fun i h1 h2 => by
    show (σ.put b .no).at i = .no
    rw [St.at_put σ b i .no (hr.ltM hb) h2]
    split
    · rfl
    · exact hr.fresh i h1 h2

theorem Ext.kill {base : Nat} {e : Env} {σ : St} {w : World} (hr : Rel ng base e σ w) {b : Nat} (hb : e.M b) {ty : TypeId} {vs : List V} {sp fz : Bool} (hat : σ.at b = .cells ty vs sp fz) :
    Ext ng e σ w e { σ.put b .no with log := (b, 0, vs.length) :: σ.log } w where
  le := .refl e
  next := Nat.le_refl _
  size := Nat.le_refl _
  newer := fun _ h k => absurd h k
  kept := fun _ _ _ => rfl
  orig := fun i h1 h2 h3 _ => by
    refine ⟨i, h1, ?_, h3, rfl⟩
    have h2' : ((σ.put b .no).at i).isNo = false := h2
    rw [St.at_put σ b i .no (hr.ltM hb) (hr.ltM h1)] at h2'
    by_cases hib : i = b
    · rw [if_pos hib] at h2'; cases h2'
    · rwa [if_neg hib] at h2'
  logs := fun q hq _ => List.mem_cons_of_mem _ hq
  looks := fun i n hi hc => by
    have h1 : i < 2 ^ dh := Nat.lt_of_lt_of_le hi hr.next
    show ((σ.put b .no).at i).look n = _
    rw [St.at_put σ b i .no (hr.ltM hb) h1]
    by_cases hib : i = b
    · subst hib
      rw [if_pos rfl, hat]
      have hn := hc (i, 0, vs.length) (by simp) rfl
      simp only at hn
      simp only [Ob.look, Prod.mk.injEq, and_true]
      rw [List.getElem?_eq_none (by omega)]
    · rw [if_neg hib]
  os := rfl
  output := rfl
  tape := rfl

/-- the same real block under a new number -/
theorem Rel.move {base : Nat} {e : Env} {σ : St} {w w' : World} (hr : Rel ng base e σ w) {b : Nat} (hb : e.M b) (hng : ng ≤ b) (hlt : σ.next < 2 ^ dh) {ty : TypeId} {vs : List V} {sp fz : Bool} (hat : σ.at b = .cells ty vs sp fz)
    {ob : Ob} {o : Obj} (hsize : w'.heap.size = w.heap.size) (hget : ∀ i, w'.heap[i]? = if i = e.blk b then some o else w.heap[i]?) (ho : OR (e.more σ.next (e.blk b) (e.size b)) ob σ.next o)
    (hos : w'.os = w.os) (hout : w'.output = w.output) (htape : w'.tape = w.tape) :
    Rel ng base (e.more σ.next (e.blk b) (e.size b)) (σ.moved b vs.length ob) w' ∧ Ext ng e σ w (e.more σ.next (e.blk b) (e.size b)) (σ.moved b vs.length ob) w' := by
  have hnm : ¬ e.M σ.next := fun hm => Nat.lt_irrefl _ (hr.lim _ hm)
  have hle := Env.le_more e σ.next (e.blk b) (e.size b) hnm
  have hbn : (e.more σ.next (e.blk b) (e.size b)).blk σ.next = e.blk b := by simp [Env.more]
  have hbo : ∀ j, e.M j → (e.more σ.next (e.blk b) (e.size b)).blk j = e.blk j := fun j hj => (hle.mono j hj).2.1
  have hbnx : b < σ.next := hr.lim b hb
  have hno : (σ.at b).isNo = false := by rw [hat]; rfl
  have hatm : ∀ i, i < 2 ^ dh → (σ.moved b vs.length ob).at i = if i = σ.next then ob else if i = b then .no else σ.at i := by
    intro i hi
    show (({ σ.put b .no with log := (b, 0, vs.length) :: σ.log } : St).put σ.next ob).at i = _
    rw [St.at_put _ σ.next i ob hlt hi]
    split
    · rfl
    · show (σ.put b .no).at i = _
      rw [St.at_put σ b i .no (hr.ltM hb) hi]
  have hltM : ∀ i, (e.more σ.next (e.blk b) (e.size b)).M i → i < 2 ^ dh := by
    rintro i (hi | rfl)
    · exact hr.ltM hi
    · exact hlt
  constructor
  · refine ⟨hlt, ?_, ?_, ?_, ?_, ?_, ?_⟩
    · rintro i (hi | rfl)
      · exact Nat.lt_succ_of_lt (hr.lim i hi)
      · exact Nat.lt_succ_self _
    · rintro i (hi | rfl)
      · rw [hbo i hi, hsize]; exact hr.there i hi
      · rw [hbn, hsize]; exact hr.there b hb
    · intro i hi hn
      rw [hatm i (hltM i hi)] at hn ⊢
      by_cases hin : i = σ.next
      · subst hin
        rw [if_pos rfl, hbn]
        exact ⟨o, by rw [hget, if_pos rfl], ho⟩
      · rw [if_neg hin] at hn ⊢
        have hm := hi.resolve_right hin
        by_cases hib : i = b
        · rw [if_pos hib] at hn; cases hn
        · rw [if_neg hib] at hn ⊢
          obtain ⟨x, h1, h2⟩ := hr.obj i hm hn
          refine ⟨x, ?_, h2.mono hle hm⟩
          rw [hbo i hm, hget, if_neg (fun he => hib (hr.inj i b hm hb hn hno he))]
          exact h1
    · intro i j hi hj hni hnj he
      rw [hatm i (hltM i hi)] at hni
      rw [hatm j (hltM j hj)] at hnj
      by_cases hin : i = σ.next
      · by_cases hjn : j = σ.next
        · omega
        · have hm := hj.resolve_right hjn
          rw [if_neg hjn] at hnj
          by_cases hjb : j = b
          · rw [if_pos hjb] at hnj; cases hnj
          · rw [if_neg hjb] at hnj
            rw [hin, hbn, hbo j hm] at he
            exact absurd (hr.inj b j hb hm hno hnj he).symm hjb
      · have hm := hi.resolve_right hin
        rw [if_neg hin] at hni
        by_cases hib : i = b
        · rw [if_pos hib] at hni; cases hni
        · rw [if_neg hib] at hni
          by_cases hjn : j = σ.next
          · rw [hjn, hbn, hbo i hm] at he
            exact absurd (hr.inj i b hm hb hni hno he) hib
          · have hm' := hj.resolve_right hjn
            rw [if_neg hjn] at hnj
            by_cases hjb : j = b
            · rw [if_pos hjb] at hnj; cases hnj
            · rw [if_neg hjb] at hnj
              rw [hbo i hm, hbo j hm'] at he
              exact hr.inj i j hm hm' hni hnj he
    · rintro i (hi | rfl) hgi
      · rw [hbo i hi]; exact hr.own i hi hgi
      · rw [hbn]; exact hr.own b hb hng
    · intro i h1 h2
      have h1' : σ.next + 1 ≤ i := h1
      rw [hatm i h2, if_neg (by omega), if_neg (by omega)]
      exact hr.fresh i (by omega) h2
  · refine ⟨hle, Nat.le_succ _, Nat.le_of_eq hsize.symm, ?_, ?_, ?_, fun p hp _ => List.mem_cons_of_mem _ hp, ?_, hos, hout, htape⟩
    · rintro i (hi | rfl) hn
      · exact absurd hi hn
      · exact Nat.le_refl _
    · intro i hi hn
      rw [hget, if_neg]
      intro he
      exact hn b hb hno hng he.symm
    · intro i hi hn hgi hlt2
      by_cases hin : i = σ.next
      · exact ⟨b, hb, hno, hng, by rw [hin, hbn]⟩
      · have hm := hi.resolve_right hin
        rw [hatm i (hr.ltM hm), if_neg hin] at hn
        by_cases hib : i = b
        · rw [if_pos hib] at hn; cases hn
        · rw [if_neg hib] at hn
          exact ⟨i, hm, hn, hgi, (hbo i hm).symm⟩
    · intro i n hi hc
      have h2 : i < 2 ^ dh := Nat.lt_of_lt_of_le hi hr.next
      rw [hatm i h2, if_neg (by omega)]
      by_cases hib : i = b
      · subst hib
        rw [if_pos rfl, hat]
        have hn := hc (i, 0, vs.length) (by show _ ∈ (i, 0, vs.length) :: σ.log; simp) rfl
        simp only at hn
        simp only [Ob.look, Prod.mk.injEq, and_true]
        rw [List.getElem?_eq_none (by omega)]
      · rw [if_neg hib]
end
end Go.Proofs.YtdolijagffcfgaaGreatDoor.Ev

/-
  The evaluator's append.
-/
namespace Go.Proofs.YtdolijagffcfgaaGreatDoor.Ev
section
variable {P : Program} {ng : Nat}

theorem run_append_room_base (t tx ty el : TypeId) (i : TypeInfo) (ht : P.underlying t = some (.slice el)) (hi : P.info? el = some i) (a : Addr) (sLen sCap : Nat) (x : Value) (n : Nat) (news : List Value) {w w' : World} (hs : Src P i.size tx x n news w)
    (hroom : sLen + n ≤ sCap) (hst : (storeCells (a.add (sLen * i.size)) news).run P w = .ok () w') :
    (Builtin.append_ #[t, tx] ty #[.slice (some a) sLen sCap, x]).run P w = .ok (.slice (some a) (sLen + n) sCap) w' := by
  rcases hs.kind with ⟨e', hk⟩ | hk <;> simp [Builtin.append_, run_underlying ht, run_underlying hk, sizeOf, typeInfo, hi, hs.len, hroom, hs.cells, hst]

theorem run_append_none (t tx ty el : TypeId) (i : TypeInfo) (ht : P.underlying t = some (.slice el)) (hi : P.info? el = some i) (b : Option Addr) (sLen sCap : Nat) (x : Value) {w : World} (hs : Src P i.size tx x 0 [] w)
    (hroom : sLen ≤ sCap) :
    (Builtin.append_ #[t, tx] ty #[.slice b sLen sCap, x]).run P w = .ok (.slice b sLen sCap) w := by
  cases b with
  | none => rcases hs.kind with ⟨e', hk⟩ | hk <;> simp [Builtin.append_, run_underlying ht, run_underlying hk, sizeOf, typeInfo, hi, hs.len, hroom, hs.cells]
  | some a => rcases hs.kind with ⟨e', hk⟩ | hk <;> simp [Builtin.append_, run_underlying ht, run_underlying hk, sizeOf, typeInfo, hi, hs.len, hroom, hs.cells, storeCells]

/-- onto a new row, of which the end is not known -/
noncomputable def growA (σ : St) (elem : TypeId) (eti : TI) (old new : List V) (need : Nat) (κ : V → St → Bool) : Bool :=
  match eti.zero.cellsA with
  | some zs =>
    bif Nat.beq (llen zs) eti.size && Nat.ble (Nat.mul need eti.bytes) 140737488355328 && Nat.ble need 140737488355328 then
      lappK old new fun l => σ.newK (.cells elem l true false) fun b σ' => κ (.slice b 0 eti.size need none) σ'
    else false
  | none => false

theorem growA_goes {σ : St} (hwf : AWf σ) {elem : TypeId} {eti : TI} (ok : TIok P elem eti) {old new : List V} {need : Nat} {κ : V → St → Bool} (h : growA σ elem eti old new need κ = true) :
    ∃ u σ', κ u σ' = true ∧ AWf σ' ∧ AExt σ σ' ∧ ∀ base e w t tx ty b sLen sCap X n olds news, base ≤ w.heap.size → Rel ng base e σ w → P.underlying t = some (.slice elem) →
      (Builtin.firstCells eti.size sLen (.slice b sLen sCap)).run P w.drew = .ok olds.toArray w.drew → VRs e old olds → Src P eti.size tx X n news w → VRs e new news → sCap < sLen + n → need = sLen + n → olds.length = sLen * eti.size →
      ∃ e' w' z, (Builtin.append_ #[t, tx] ty #[.slice b sLen sCap, X]).run P w = .ok z w' ∧ VR e' u z ∧ Rel ng base e' σ' w' ∧ Ext ng e σ w e' σ' w' := by
  unfold growA at h
  split at h
  · rename_i zs hzs
    rw [cond_eq_ite] at h
    split at h
    · rename_i hc0
      simp only [Bool.and_eq_true] at hc0
      obtain ⟨⟨hc1, hc2⟩, hc3⟩ := hc0
      have hl := Nat.eq_of_beq_eq_true hc1
      have hb1 : need * eti.bytes ≤ 140737488355328 := Nat.le_of_ble_eq_true hc2
      have hb2 := Nat.le_of_ble_eq_true hc3
      rw [llen_eq] at hl
      rw [lappK_eq] at h
      obtain ⟨h1, h2, h3, h4⟩ := newK_goes (P := P) (ng := ng) hwf h
      refine ⟨_, _, h1, h2, h3, fun base e w t tx ty b sLen sCap X n olds news hbase hr ht hold hvo hs hvn hg hneed hol => ?_⟩
      obtain ⟨i, i1, i2, i3, i4, z, i5, i6⟩ := ok.info
      have hzc := V.cellsA_sound hzs (i6 e)
      have hzsz : z.cells.size = eti.size := by rw [← hl, hzc.length]; simp
      rw [← i2] at hold hs
      have hrun := run_append_grow_src (P := P) w t tx ty elem i z ht i1 i5 b sLen sCap olds hold X n news hs hg (by omega) (growslice_fits hg (by rw [i3, ← hneed]; exact hb1))
      have hge := grownCap_ge w (sLen + n) sCap elem
      have hnl := hs.newsLen
      generalize hgc : grownCap w (sLen + n) sCap elem = gc at hrun hge
      have hsize : ((olds ++ news).toArray ++ Builtin.zeroCells z.cells (gc - (sLen + n))).size = gc * eti.size := by
        rw [Array.size_append, size_zeroCells, hzsz, List.size_toArray, List.length_append, hol, hnl, i2, ← Nat.add_mul, ← Nat.add_mul]
        congr 1
        omega
      have hnm : ¬ e.M σ.next := fun hm => Nat.lt_irrefl _ (hr.lim _ hm)
      have hle := Env.le_more e σ.next w.drew.heap.size (gc * eti.size) hnm
      obtain ⟨w', g1, g2, g3⟩ := h4 base e w.drew (.cells ((olds ++ news).toArray ++ Builtin.zeroCells z.cells (gc - (sLen + n))) elem) (gc * eti.size) hbase (hr.gc rfl) (by
        refine ⟨_, (0, 0), olds ++ news, (Builtin.zeroCells z.cells (gc - (sLen + n))).toList, rfl, by simp, VRs.mono hle _ _ (hvo.app hvn), by rw [hsize]; simp [Env.more], by simp, fun _ => rfl⟩)
      have hw' : w' = w.drew.alloc (.cells ((olds ++ news).toArray ++ Builtin.zeroCells z.cells (gc - (sLen + n))) elem) := by
        have : (newObj (.cells ((olds ++ news).toArray ++ Builtin.zeroCells z.cells (gc - (sLen + n))) elem)).run P w.drew = .ok w.drew.heap.size (w.drew.alloc (.cells ((olds ++ news).toArray ++ Builtin.zeroCells z.cells (gc - (sLen + n))) elem)) := rfl
        rw [this] at g1
        simp only [Result.ok.injEq] at g1
        exact g1.2.symm
      rw [← hw'] at hrun
      refine ⟨_, w', _, hrun, ?_, g2, ?_⟩
      · simp only [VR]
        refine ⟨.inr rfl, gc, ?_, by omega, ?_, by simp, ?_⟩
        · rw [hneed]; simp [Env.more]
        · simp [Env.more]
        · intro _; simp [Env.more]
      · exact ⟨g3.le, g3.next, g3.size, g3.newer, g3.kept, g3.orig, g3.logs, g3.looks, g3.os, g3.output, g3.tape⟩
    · cases h
  · cases h

noncomputable def appendA (ng : Nat) (tab : Tab P) (σ : St) (t tx : TypeId) (s x : V) (κ : V → St → Bool) : Bool :=
  match tab.ty t, tab.ty tx with
  | some ti, some xti =>
    match ti.desc with
    | .slice elem =>
      match tab.ty elem with
      | some eti =>
        bif Nat.ble 1 eti.size then
          match srcA σ xti.desc eti.size x with
          | some (new, n) =>
            match s with
            | .nils => bif Nat.beq n 0 then κ .nils σ else growA σ elem eti [] new n κ
            | .emp => bif Nat.beq n 0 then κ .emp σ else false
            | .slice b o es len cap =>
              bif Nat.beq es eti.size then
                bif Nat.beq n 0 then κ (.slice b o es len cap) σ
                else
                  forceN (Nat.add len n) fun need =>
                  match σ.at b with
                  | .cells ety vs sp fz =>
                    let grow : Bool := bif Nat.ble (Nat.add o (Nat.mul len es)) (llen vs) then ltakeK false (Nat.mul len es) (ldrop o vs) fun old => growA σ elem eti old new need κ else false
                    let place : Bool := forceN (Nat.add o (Nat.mul len es)) fun at_ => bif Nat.blt b σ.next then σ.storeK ng b at_ new fun σ' => κ (.slice b o es need cap) σ' else false
                    match cap with
                    | some c => bif Nat.ble need c then place else grow
                    | none =>
                      bif Nat.ble (Nat.add o (Nat.mul need es)) (llen vs) then place
                      else bif sp then
                        bif Nat.beq o 0 && Nat.beq (Nat.mul len es) (llen vs) && Nat.ble ng b && not fz && Nat.blt b σ.next && allOne new && Nat.beq ety elem then
                          match eti.zero.cellsA with
                          | some zs =>
                            bif Nat.beq (llen zs) eti.size && Nat.ble (Nat.mul need eti.bytes) 140737488355328 && Nat.ble need 140737488355328 then
                              lappK vs new fun l => σ.putK b .no fun σ1 => forceN (llen vs) fun m => St.newK { σ1 with log := (b, 0, m) :: σ1.log } (.cells elem l true false) fun nb σ2 => κ (.slice nb 0 es need none) σ2
                            else false
                          | none => false
                        else false
                      else grow
                  | _ => false
              else false
            | _ => false
          | none => false
        else false
      | none => false
    | _ => false
  | _, _ => false

theorem appendA_goes {tab : Tab P} {σ : St} (hwf : AWf σ) {t tx : TypeId} {s x : V} {κ : V → St → Bool} (h : appendA ng tab σ t tx s x κ = true) :
    ∃ u σ', κ u σ' = true ∧ AWf σ' ∧ AExt σ σ' ∧ ∀ base e w S X ty, base ≤ w.heap.size → Rel ng base e σ w → VR e s S → VR e x X →
      ∃ e' w' z, (Builtin.append_ #[t, tx] ty #[S, X]).run P w = .ok z w' ∧ VR e' u z ∧ Rel ng base e' σ' w' ∧ Ext ng e σ w e' σ' w' := by
  unfold appendA at h
  split at h
  · rename_i ti xti hti hxti
    have ok := tab.tyOk _ _ hti
    have okx := tab.tyOk _ _ hxti
    split at h
    · rename_i elem hd
      have hu := ok.under
      rw [hd] at hu
      split at h
      · rename_i eti heti
        have oke := tab.tyOk _ _ heti
        obtain ⟨i, i1, i2, i3, i4, z, i5, i6⟩ := oke.info
        rw [cond_eq_ite] at h
        split at h
        · rename_i hes1
          have hes1' := Nat.le_of_ble_eq_true hes1
          split at h
          · rename_i new n hsrc
            split at h
            · -- nil
              rw [cond_eq_ite, beq_iff] at h
              split at h
              · rename_i hn
                have hn' : n = 0 := by simpa using hn
                subst hn'
                refine ⟨_, _, h, hwf, .refl σ, fun base e w S X ty hb hr hs hx => ?_⟩
                simp only [VR] at hs
                subst hs
                obtain ⟨news, g1, g2⟩ := srcA_sound hsrc okx.under hr hx
                have hnil : news = [] := by have := g2.newsLen; simpa using this
                subst hnil
                rw [← i2] at g2
                exact ⟨e, w, _, run_append_none t tx ty elem i hu i1 none 0 0 X g2 (Nat.le_refl _), by simp only [VR], hr, .refl ..⟩
              · rename_i hn
                have hn' : n ≠ 0 := by simpa using hn
                obtain ⟨u, σ', h1, h2, h3, h4⟩ := growA_goes (ng := ng) hwf oke h
                refine ⟨u, σ', h1, h2, h3, fun base e w S X ty hb hr hs hx => ?_⟩
                simp only [VR] at hs
                subst hs
                obtain ⟨news, g1, g2⟩ := srcA_sound hsrc okx.under hr hx
                refine h4 base e w t tx ty none 0 0 X n [] news hb hr hu ?_ VRs.nil g2 g1 (by omega) (by omega) (by simp)
                simp [Builtin.firstCells]
            · -- empty
              rw [cond_eq_ite, beq_iff] at h
              split at h
              · rename_i hn
                have hn' : n = 0 := by simpa using hn
                subst hn'
                refine ⟨_, _, h, hwf, .refl σ, fun base e w S X ty hb hr hs hx => ?_⟩
                simp only [VR] at hs
                obtain ⟨a, c, rfl⟩ := hs
                obtain ⟨news, g1, g2⟩ := srcA_sound hsrc okx.under hr hx
                have hnil : news = [] := by have := g2.newsLen; simpa using this
                subst hnil
                rw [← i2] at g2
                exact ⟨e, w, _, run_append_none t tx ty elem i hu i1 _ 0 c X g2 (Nat.zero_le _), by simp only [VR]; exact ⟨_, _, rfl⟩, hr, .refl ..⟩
              · cases h
            · -- a slice
              rename_i b o es len cap
              rw [cond_eq_ite] at h
              split at h
              · rename_i hes
                have hes' := Nat.eq_of_beq_eq_true hes
                subst hes'
                rw [cond_eq_ite, beq_iff] at h
                split at h
                · rename_i hn
                  have hn' : n = 0 := by simpa using hn
                  subst hn'
                  refine ⟨_, _, h, hwf, .refl σ, fun base e w S X ty hb hr hs hx => ?_⟩
                  have hs0 := hs
                  simp only [VR] at hs
                  obtain ⟨hm, c, rfl, hlc, _⟩ := hs
                  obtain ⟨news, g1, g2⟩ := srcA_sound hsrc okx.under hr hx
                  have hnil : news = [] := by have := g2.newsLen; simpa using this
                  subst hnil
                  rw [← i2] at g2
                  exact ⟨e, w, _, run_append_none t tx ty elem i hu i1 _ len c X g2 hlc, hs0, hr, .refl ..⟩
                · rename_i hn
                  have hn' : n ≠ 0 := by simpa using hn
                  rw [forceN_eq] at h
                  split at h
                  · rename_i ety vs sp fz hat
                    -- the two common ways
                    have grow : (∀ e w base c, Rel ng base e σ w → e.M b → o + c * eti.size ≤ e.size b → len ≤ c → (∀ m, cap = some m → c = m) → (cap = none → o + c * eti.size = e.size b) → c < len + n) →
                        (bif Nat.ble (Nat.add o (Nat.mul len eti.size)) (llen vs) then ltakeK false (Nat.mul len eti.size) (ldrop o vs) fun old => growA σ elem eti old new (Nat.add len n) κ else false) = true →
                        ∃ u σ', κ u σ' = true ∧ AWf σ' ∧ AExt σ σ' ∧ ∀ base e w S X ty, base ≤ w.heap.size → Rel ng base e σ w → VR e (.slice b o eti.size len cap) S → VR e x X →
                          ∃ e' w' z, (Builtin.append_ #[t, tx] ty #[S, X]).run P w = .ok z w' ∧ VR e' u z ∧ Rel ng base e' σ' w' ∧ Ext ng e σ w e' σ' w' := by
                      intro hcap hg
                      rw [cond_eq_ite] at hg
                      split at hg
                      · rename_i hle0
                        have hle : o + len * eti.size ≤ vs.length := by have := Nat.le_of_ble_eq_true hle0; rwa [llen_eq] at this
                        rw [ltakeK_eq, ldrop_eq, if_pos (by simp; show len * eti.size ≤ _; omega)] at hg
                        obtain ⟨u, σ', h1, h2, h3, h4⟩ := growA_goes (ng := ng) hwf oke hg
                        refine ⟨u, σ', h1, h2, h3, fun base e w S X ty hb hr hs hx => ?_⟩
                        simp only [VR] at hs
                        obtain ⟨hm, c, rfl, hlc, hsz, hex, hop⟩ := hs
                        obtain ⟨news, g1, g2⟩ := srcA_sound hsrc okx.under hr hx
                        obtain ⟨olds, k1, k2, _⟩ := load_sound hr hm hat P o (len * eti.size) hle
                        have hlen : olds.length = len * eti.size := by rw [← k1.length]; simp; omega
                        exact h4 base e w t tx ty _ len c X n olds news hb hr hu (run_firstCells_some w.drew eti.size len _ len c olds hlen (by simpa using k2)) k1 g2 g1 (hcap e w base c hr hm hsz hlc hex hop) rfl hlen
                      · cases hg
                    have place : (∀ e w base c, Rel ng base e σ w → e.M b → o + c * eti.size ≤ e.size b → len ≤ c → (∀ m, cap = some m → c = m) → (cap = none → o + c * eti.size = e.size b) → len + n ≤ c) →
                        (forceN (Nat.add o (Nat.mul len eti.size)) fun at_ => bif Nat.blt b σ.next then σ.storeK ng b at_ new fun σ' => κ (.slice b o eti.size (Nat.add len n) cap) σ' else false) = true →
                        ∃ u σ', κ u σ' = true ∧ AWf σ' ∧ AExt σ σ' ∧ ∀ base e w S X ty, base ≤ w.heap.size → Rel ng base e σ w → VR e (.slice b o eti.size len cap) S → VR e x X →
                          ∃ e' w' z, (Builtin.append_ #[t, tx] ty #[S, X]).run P w = .ok z w' ∧ VR e' u z ∧ Rel ng base e' σ' w' ∧ Ext ng e σ w e' σ' w' := by
                      intro hcap hg
                      rw [forceN_eq] at hg
                      obtain ⟨σ', h1, h2, h3, h4⟩ := storeK_goes (P := P) (ng := ng) hwf hg
                      refine ⟨_, σ', h1, h2, h3, fun base e w S X ty hb hr hs hx => ?_⟩
                      simp only [VR] at hs
                      obtain ⟨hm, c, rfl, hlc, hsz, hex, hop⟩ := hs
                      obtain ⟨news, g1, g2⟩ := srcA_sound hsrc okx.under hr hx
                      obtain ⟨w', k1, k2, k3⟩ := h4 base e w news hr hm g1
                      have hroom := hcap e w base c hr hm hsz hlc hex hop
                      rw [← i2] at g2
                      refine ⟨e, w', _, run_append_room_base t tx ty elem i hu i1 _ len c X n news g2 hroom (by rw [addr_add, i2]; exact k1), ?_, k2, k3⟩
                      simp only [VR]
                      exact ⟨hm, c, rfl, hroom, hsz, hex, hop⟩
                    split at h
                    · rename_i c
                      rw [cond_eq_ite, ble_iff] at h
                      split at h
                      · rename_i hle
                        have hle' : len + n ≤ c := by simpa using hle
                        exact place (fun e w base c' _ _ _ _ hex _ => by rw [hex c rfl]; exact hle') h
                      · rename_i hle
                        have hle' : ¬ len + n ≤ c := by simpa using hle
                        exact grow (fun e w base c' _ _ _ _ hex _ => by rw [hex c rfl]; omega) h
                    · rw [cond_eq_ite, ble_iff] at h
                      split at h
                      · rename_i hle
                        have hle' : o + (len + n) * eti.size ≤ vs.length := by simpa [llen_eq] using hle
                        refine place (fun e w base c hr hm hsz hlc _ hop => ?_) h
                        obtain ⟨ca, fr, pre, post, q1, q2, q3, q4, _⟩ := cells_sound hr hm hat
                        have q5 : vs.length ≤ e.size b := by rw [← q4, ← Array.length_toList, q2, q3.length]; simp
                        have q6 := hop rfl
                        have q7 : (len + n) * eti.size ≤ c * eti.size := by omega
                        exact Nat.le_of_mul_le_mul_right q7 (by omega)
                      · rename_i hle
                        have hle' : ¬ o + (len + n) * eti.size ≤ vs.length := by simpa [llen_eq] using hle
                        rw [cond_eq_ite] at h
                        split at h
                        · rename_i hsp
                          rw [cond_eq_ite] at h
                          split at h
                          · rename_i hcc
                            simp only [Bool.and_eq_true, beq_iff, decide_eq_true_eq] at hcc
                            obtain ⟨⟨⟨⟨⟨⟨ho, hlen0⟩, hng0⟩, hfz⟩, hbn0⟩, hone⟩, hety⟩ := hcc
                            have hlen : len * eti.size = vs.length := by rw [llen_eq] at hlen0; exact hlen0
                            have hng := Nat.le_of_ble_eq_true hng0
                            have hbn := blt_lt hbn0
                            have hfz' : fz = false := by cases fz <;> simp at hfz ⊢
                            subst ho
                            subst hety
                            split at h
                            · rename_i zs hzs
                              rw [cond_eq_ite] at h
                              split at h
                              · rename_i hc3
                                rw [lappK_eq, St.putK_eq, forceN_eq, llen_eq] at h
                                obtain ⟨hlt, hk⟩ := newK_eq h
                                have hlt' : σ.next < 2 ^ dh := hlt
                                obtain ⟨a1, a2⟩ := moved_awf hwf hbn hlt' hat (.cells ety (vs ++ new) true false)
                                refine ⟨_, _, hk, a1, a2, fun base e w S X ty hb hr hs hx => ?_⟩
                                simp only [VR] at hs
                                obtain ⟨hm, c, rfl, hlc, hsz, hex, hop⟩ := hs
                                obtain ⟨news, g1, g2⟩ := srcA_sound hsrc okx.under hr hx
                                obtain ⟨ca, fr, pre, post, q1, q2, q3, q4, _, q6⟩ := cells_sound hr hm hat
                                have hfr := q6 hfz'
                                subst hfr
                                have hpl : pre.length = len * eti.size := by rw [← q3.length, hlen]
                                have hcs := hop trivial
                                rcases Nat.lt_or_ge c (len + n) with hgr | hroom
                                · -- a new row
                                  classical
                                  have hgA : growA { σ.put b .no with log := (b, 0, vs.length) :: σ.log } ety eti vs new (Nat.add len n)
                                      (fun u s => decide (u = V.slice σ.next 0 eti.size (Nat.add len n) none ∧ s = σ.moved b vs.length (.cells ety (vs ++ new) true false))) = true := by
                                    unfold growA
                                    simp only [hzs]
                                    rw [cond_eq_ite, if_pos hc3, lappK_eq]
                                    unfold St.newK
                                    rw [cond_eq_ite, if_pos (by exact Nat.ble_eq_true_of_le hlt'), St.putK_eq, forceN_eq]
                                    exact decide_eq_true ⟨rfl, rfl⟩
                                  have hkill := Rel.kill hr hm ((b, 0, vs.length) :: σ.log)
                                  obtain ⟨u, σ', h1, _, _, h4⟩ := growA_goes (ng := ng) hkill.awf oke hgA
                                  obtain ⟨rfl, rfl⟩ := of_decide_eq_true h1
                                  obtain ⟨olds, k1, k2, _⟩ := load_sound hr hm hat P 0 (len * eti.size) (by omega)
                                  have k1' : VRs e vs olds := by rw [hlen] at k1; simpa using k1
                                  have hol : olds.length = len * eti.size := by rw [← k1'.length, hlen]
                                  obtain ⟨e', w', z, m1, m2, m3, m4⟩ := h4 base e w t tx ty _ len c X n olds news hb hkill hu (run_firstCells_some w.drew eti.size len _ len c olds hol (by simpa using k2)) k1' g2 g1 hgr rfl hol
                                  exact ⟨e', w', z, m1, m2, m3, (Ext.kill hr hm hat).trans m4⟩
                                · -- in place
                                  have hnl := g2.newsLen
                                  have hvl := g1.length
                                  have hsize : ca.size = c * eti.size := by rw [q4]; omega
                                  have hle2 : len * eti.size + n * eti.size ≤ c * eti.size := by rw [← Nat.add_mul]; exact Nat.mul_le_mul_right _ hroom
                                  have hrun := run_storeCells_at (P := P) (e.blk b) (len * eti.size) ety news 0 ca w q1 (by omega) g2.one
                                  simp only [Nat.add_zero] at hrun
                                  have hget := setRow_get (c' := (ca.toList.take (len * eti.size) ++ news ++ ca.toList.drop (len * eti.size + news.length)).toArray) q1
                                  have hnm : ¬ e.M σ.next := fun hm => Nat.lt_irrefl _ (hr.lim _ hm)
                                  have hle := Env.le_more e σ.next (e.blk b) (e.size b) hnm
                                  have hor : OR (e.more σ.next (e.blk b) (e.size b)) (.cells ety (vs ++ new) true false) σ.next (.cells (ca.toList.take (len * eti.size) ++ news ++ ca.toList.drop (len * eti.size + news.length)).toArray ety (0, 0)) := by
                                    refine ⟨_, (0, 0), pre ++ news, post.drop news.length, rfl, ?_, VRs.mono hle _ _ (q3.app g1), ?_, by simp, fun _ => rfl⟩
                                    · rw [q2, ← hpl, List.take_left', List.drop_append]
                                      · simp
                                      · rfl
                                    · have : (e.more σ.next (e.blk b) (e.size b)).size σ.next = ca.size := by rw [q4]; simp [Env.more]
                                      rw [this]
                                      simp
                                      omega
                                  obtain ⟨r1, r2⟩ := Rel.move hr hm hng hlt' hat (setRow_size w (e.blk b) _) hget hor rfl rfl rfl
                                  rw [← i2] at g2
                                  refine ⟨_, _, _, run_append_room_base t tx ty ety i hu i1 _ len c X n news g2 hroom (by rw [addr_add, Nat.zero_add, i2]; exact hrun), ?_, r1, r2⟩
                                  simp only [VR]
                                  refine ⟨.inr rfl, c, ?_, hroom, ?_, by simp, ?_⟩
                                  · have : (e.more σ.next (e.blk b) (e.size b)).blk σ.next = e.blk b := by simp [Env.more]
                                    show _ = Value.slice (some ⟨(e.more σ.next (e.blk b) (e.size b)).blk σ.next, 0, none⟩) (len + n) c
                                    rw [this]
                                  · have : (e.more σ.next (e.blk b) (e.size b)).size σ.next = e.size b := by simp [Env.more]
                                    show 0 + c * eti.size ≤ (e.more σ.next (e.blk b) (e.size b)).size σ.next
                                    rw [this]; exact hsz
                                  · intro _
                                    have : (e.more σ.next (e.blk b) (e.size b)).size σ.next = e.size b := by simp [Env.more]
                                    show 0 + c * eti.size = (e.more σ.next (e.blk b) (e.size b)).size σ.next
                                    rw [this]; exact hcs
                              · cases h
                            · cases h
                          · cases h
                        · rename_i hsp
                          have hsp' : sp = false := by simpa using hsp
                          refine grow (fun e w base c hr hm hsz hlc _ hop => ?_) h
                          obtain ⟨ca, fr, pre, post, q1, q2, q3, q4, q5, _⟩ := cells_sound hr hm hat
                          have q6 := hop rfl
                          have q7 := q5 hsp'
                          have q8 : vs.length = e.size b := by rw [← q4, ← Array.length_toList, q2, q3.length, q7]; simp
                          rcases Nat.lt_or_ge c (len + n) with hlt | hge
                          · exact hlt
                          · exfalso
                            have : (len + n) * eti.size ≤ c * eti.size := Nat.mul_le_mul_right _ hge
                            omega
                  · cases h
              · cases h
            · cases h
          · cases h
        · cases h
      · cases h
    · cases h
  · cases h
end
end Go.Proofs.YtdolijagffcfgaaGreatDoor.Ev

/-
  The evaluator's rows made new, maps, and the walk through a string.
-/
namespace Go.Proofs.YtdolijagffcfgaaGreatDoor.Ev
section
variable {P : Program} {ng : Nat}

/-! ### rows -/
noncomputable def buildSliceA (tab : Tab P) (σ : St) (t : TypeId) (len : Nat) (parts : List (Nat × V)) (κ : V → St → Bool) : Bool :=
  match tab.ty t with
  | some ti =>
    match ti.desc with
    | .slice elem =>
      match tab.ty elem with
      | some eti =>
        bif Nat.ble (Nat.mul len eti.size) 16777216 then
          match zerosA eti len with
          | some zs =>
            match fillA (fun i => some (Nat.mul i eti.size, eti.size)) zs parts with
            | some cs => lforceK cs fun cs => rowK σ elem cs fun b σ' => κ (.slice b 0 eti.size len (some len)) σ'
            | none => false
          | none => false
        else false
      | none => false
    | _ => false
  | none => false

theorem buildSliceA_goes {tab : Tab P} {σ : St} (hwf : AWf σ) {t : TypeId} {len : Nat} {parts : List (Nat × V)} {κ : V → St → Bool} (h : buildSliceA tab σ t len parts κ = true) :
    ∃ u σ', κ u σ' = true ∧ AWf σ' ∧ AExt σ σ' ∧ ∀ base e w (PARTS : Array (Nat × Value)), base ≤ w.heap.size → Rel ng base e σ w → PRs e parts PARTS.toList →
      ∃ e' w' z, (Instr.buildSlice t len PARTS).run P w = .ok z w' ∧ VR e' u z ∧ Rel ng base e' σ' w' ∧ Ext ng e σ w e' σ' w' := by
  unfold buildSliceA at h
  split at h
  · rename_i ti hti
    have ok := tab.tyOk _ _ hti
    split at h
    · rename_i elem hd
      have hu := ok.under
      rw [hd] at hu
      split at h
      · rename_i eti heti
        have oke := tab.tyOk _ _ heti
        rw [cond_eq_ite] at h
        split at h
        · rename_i hlim
          have hlim' : len * eti.size ≤ 16777216 := Nat.le_of_ble_eq_true hlim
          split at h
          · rename_i zs hzs
            split at h
            · rename_i cs hcs
              rw [lforceK_eq] at h
              obtain ⟨h1, h2, h3, h4⟩ := rowK_goes (P := P) (ng := ng) hwf h
              refine ⟨_, _, h1, h2, h3, fun base e w PARTS hb hr hp => ?_⟩
              obtain ⟨Z, c, rfl, z2, z3, z4⟩ := zerosA_sound oke hzs e
              obtain ⟨OUT, f1, f2⟩ := fillA_sound _ _ _ _ _ hp hcs z2
              have hosz : OUT.size = len * eti.size := by
                have : ∀ (l : List (Nat × Value)) (c o : Array Value) (pl : Nat → Option (Nat × Nat)), Instr.fill pl c l = some o → o.size = c.size := by
                  intro l
                  induction l with
                  | nil => intro c o pl hf; simp only [Instr.fill, Option.some.injEq] at hf; rw [← hf]
                  | cons p l ih =>
                    intro c o pl hf
                    obtain ⟨i, v⟩ := p
                    simp only [Instr.fill] at hf
                    split at hf
                    · cases hf
                    · split at hf
                      · cases hf
                      · rw [ih _ _ _ hf]
                        have hz : ∀ (zl : List (Value × Nat)) (cs : Array Value) (off : Nat), (zl.foldl (fun (cs : Array Value) (p : Value × Nat) => cs.setIfInBounds (off + p.2) p.1) cs).size = cs.size := by
                          intro zl
                          induction zl with
                          | nil => intro cs off; rfl
                          | cons q zl ih2 => intro cs off; rw [List.foldl_cons, ih2]; simp
                        rw [← Array.foldl_toList]
                        exact hz _ _ _
                rw [this _ _ _ _ f1, z3]
              obtain ⟨e', w', g1, g2, g3, g4, g5⟩ := h4 base e w OUT hb hr f2
              refine ⟨e', w', .slice (some ⟨e'.blk σ.next, 0, none⟩) len len, ?_, ?_, g4, g5⟩
              · have hno : ¬ len * eti.size > 2 ^ 24 := by omega
                have z4' := z4 w
                simp only [Instr.buildSlice, Sem.run_bind, Go.run_underlying hu, Result.andThen_ok, oke.run_sizeOf, hno, if_false, Sem.run_pure]
                have f1' : Instr.fill (fun i => some (i * eti.size, eti.size)) ((Array.range (len * eti.size)).map (Z[· % Z.size]!)) PARTS.toList = some OUT := f1
                by_cases h0 : len * eti.size = 0
                · rw [if_pos h0] at z4' ⊢
                  simp only [Sem.run_pure, Result.ok.injEq, and_true] at z4'
                  subst z4'
                  simp only [Sem.run_bind, Sem.run_pure, Result.andThen_ok]
                  rw [f1']
                  simp only [Sem.run_bind, g1, Result.andThen_ok, Sem.run_pure]
                · rw [if_neg h0] at z4' ⊢
                  simp only [Sem.run_bind, Sem.run_pure] at z4' ⊢
                  cases hz : (zeroValue elem).run P w with
                  | halt x w1 => rw [hz] at z4'; cases z4'
                  | ok zv w1 =>
                    rw [hz] at z4'
                    simp only [Result.andThen_ok, Result.ok.injEq] at z4'
                    obtain ⟨rfl, rfl⟩ := z4'
                    simp only [Result.andThen_ok]
                    rw [f1']
                    simp only [Sem.run_bind, g1, Result.andThen_ok, Sem.run_pure]
              · simp only [VR]
                refine ⟨g2, len, rfl, Nat.le_refl _, ?_, by simp, by simp⟩
                rw [g3, hosz]
                omega
            · cases h
          · cases h
        · cases h
      · cases h
    · cases h
  · cases h

/-! ### maps -/
theorem getOb {w : World} {r : Nat} {o : Obj} (h : w.heap[r]? = some o) (hc : ∀ c t f, o ≠ .cells c t f) : (getObj r).run P w = .ok o w := by
  cases o with
  | cells c t f => exact absurd rfl (hc c t f)
  | _ => simp [getObj, Sem.run, h]
theorem setOb {w : World} {r : Nat} {o : Obj} (h : w.heap[r]? = some o) (hc : ∀ c t f, o ≠ .cells c t f) (o' : Obj) : (setObj r o').run P w = .ok () { w with heap := w.heap.setIfInBounds r o' } := by
  cases o with
  | cells c t f => exact absurd rfl (hc c t f)
  | _ => simp [setObj, Sem.run, h]

def Ob.isRow : Ob → Bool
  | .cells .. | .no => true
  | _ => false

/-- a known block that is no row -/
theorem ob_sound {base : Nat} {e : Env} {σ : St} {w : World} (hr : Rel ng base e σ w) {b : Nat} (hb : e.M b) {ob : Ob} (hat : σ.at b = ob) (hrow : ob.isRow = false) :
    ∃ o, w.heap[e.blk b]? = some o ∧ OR e ob b o ∧ ∀ c t f, o ≠ .cells c t f := by
  obtain ⟨o, h1, h2⟩ := hr.obj b hb (by rw [hat]; cases ob <;> first | rfl | cases hrow)
  rw [hat] at h2
  refine ⟨o, h1, h2, ?_⟩
  intro c t f he
  subst he
  cases ob <;> first | (cases hrow; done) | exact absurd (show Obj.cells c t f = Obj.deferred none from h2) (by intro hh; cases hh) | (obtain ⟨_, h, _⟩ := h2; cases h; done) | (obtain ⟨_, _, h, _⟩ := h2; cases h; done) | (obtain ⟨h, _⟩ := h2; cases h; done)

noncomputable def obK (ng : Nat) (σ : St) (b : Nat) (ob : Ob) (κ : St → Bool) : Bool :=
  bif Nat.ble ng b && Nat.blt b σ.next then σ.putK b ob fun σ' => κ { σ' with log := (b, 0, 1) :: σ'.log } else false

theorem obK_goes {σ : St} (hwf : AWf σ) {b : Nat} {ob ob' : Ob} {κ : St → Bool} (hat : σ.at b = ob) (hrow : ob.isRow = false) (hrow' : ob'.isRow = false) (h : obK ng σ b ob' κ = true) :
    ∃ σ', κ σ' = true ∧ AWf σ' ∧ AExt σ σ' ∧ ∀ base e w o', Rel ng base e σ w → e.M b → OR e ob' b o' → ∃ w', (setObj (e.blk b) o').run P w = .ok () w' ∧ Rel ng base e σ' w' ∧ Ext ng e σ w e σ' w' := by
  unfold obK at h
  rw [cond_eq_ite] at h
  split at h
  · rename_i hc0
    have hc := Bool.and_eq_true_iff.1 hc0
    have hng := Nat.le_of_ble_eq_true hc.1
    have hb := blt_lt hc.2
    rw [St.putK_eq] at h
    have hlook : ∀ n, Clear [(b, 0, 1)] b n → ob'.look n = (σ.at b).look n := by
      intro n hcl
      have hn := hcl (b, 0, 1) (by simp) rfl
      simp only at hn
      rw [hat]
      cases n with
      | zero => omega
      | succ n => cases ob <;> cases ob' <;> first | (cases hrow; done) | (cases hrow'; done) | rfl
    obtain ⟨h1, h2⟩ := AExt.put hwf hb (ob := ob') (b, 0, 1) rfl hlook
    refine ⟨_, h, h1, h2, fun base e w o' hr hm ho => ?_⟩
    obtain ⟨o, g1, _, g3⟩ := ob_sound hr hm hat hrow
    have hno : (σ.at b).isNo = false := by rw [hat]; cases ob <;> first | rfl | cases hrow
    have hget : ∀ i, (w.heap.setIfInBounds (e.blk b) o')[i]? = if i = e.blk b then some o' else w.heap[i]? := by
      intro i
      rw [Array.getElem?_setIfInBounds]
      by_cases hi : e.blk b = i
      · rw [if_pos hi, if_pos hi.symm, if_pos (hr.there b hm)]
      · rw [if_neg hi, if_neg (Ne.symm hi)]
    have hsz : (w.heap.setIfInBounds (e.blk b) o').size = w.heap.size := by simp
    exact ⟨{ w with heap := w.heap.setIfInBounds (e.blk b) o' }, setOb g1 g3 o', (hr.put (w' := { w with heap := w.heap.setIfInBounds (e.blk b) o' }) hm hno hsz hget ho).log _, Ext.put (w' := { w with heap := w.heap.setIfInBounds (e.blk b) o' }) hr hm hng hno hsz hget rfl rfl rfl _ hlook⟩
  · cases h

noncomputable def makeMapA (σ : St) (κ : V → St → Bool) : Bool := σ.newK (.map [] 0) fun b σ' => κ (.mapv b) σ'

theorem makeMapA_goes {σ : St} (hwf : AWf σ) {κ : V → St → Bool} (h : makeMapA σ κ = true) :
    ∃ u σ', κ u σ' = true ∧ AWf σ' ∧ AExt σ σ' ∧ ∀ base e w (t : TypeId), base ≤ w.heap.size → Rel ng base e σ w → ∃ e' w' z, (Instr.makeMap t none).run P w = .ok z w' ∧ VR e' u z ∧ Rel ng base e' σ' w' ∧ Ext ng e σ w e' σ' w' := by
  obtain ⟨h1, h2, h3, h4⟩ := newK_goes (P := P) (ng := ng) hwf h
  refine ⟨_, _, h1, h2, h3, fun base e w t hb hr => ?_⟩
  obtain ⟨w', g1, g2, g3⟩ := h4 base e w (.map #[] 0) 0 hb hr ⟨#[], rfl, trivial⟩
  refine ⟨_, w', .map (some w.heap.size), ?_, ?_, g2, g3⟩
  · simp only [Instr.makeMap, Sem.run_bind, Sem.run_pure, Result.andThen_ok, g1]
  · simp only [VR]
    exact ⟨.inr rfl, by simp [Env.more]⟩

noncomputable def sameA (d : TypeDesc) (a b : V) : Option Bool :=
  match d, a, b with
  | .string, .str s, .str t => some (nbeq s t)
  | .int _, .int k m, .int k' n => if k = k' then some (ieq m n) else none
  | .bool, .bool s, .bool t => some (s == t)
  | _, _, _ => none

def keyT : TypeDesc → Bool
  | .string | .int _ | .bool => true
  | _ => false

theorem sameA_sound {e : Env} {d : TypeDesc} {a b : V} {r : Bool} (h : sameA d a b = some r) {A B : Value} (ha : VR e a A) (hb : VR e b B) : Instr.sameNow d A B = some r ∧ (r = true → Instr.sameBits 10000 A B = true ∧ Instr.sameBits 10000 B A = true) := by
  unfold sameA at h
  split at h
  · simp only [VR] at ha hb
    obtain ⟨rfl, ha⟩ := ha
    obtain ⟨rfl, hb⟩ := hb
    simp only [Option.some.injEq] at h
    subst h
    rename_i s t
    have : (strOf s == strOf t) = nbeq s t := by
      rw [bytes_beq]
      show ((s.map UInt8.ofNat).toArray == (t.map UInt8.ofNat).toArray) = _
      rw [← map_beq ha hb]
      simp
    refine ⟨by simp only [Instr.sameNow, this], fun hr => ?_⟩
    have e1 : s = t := by rw [nbeq_eq] at hr; simpa using hr
    subst e1
    have := this.trans hr
    exact ⟨this, this⟩
  · simp only [VR] at ha hb
    subst ha
    subst hb
    split at h
    · rename_i hk
      subst hk
      simp only [Option.some.injEq] at h
      subst h
      refine ⟨by simp only [Instr.sameNow, if_true, ieq_eq], fun hr => ?_⟩
      rw [ieq_eq, beq_iff_eq] at hr
      subst hr
      simp [Instr.sameBits]
    · cases h
  · simp only [VR] at ha hb
    subst ha
    subst hb
    simp only [Option.some.injEq] at h
    subst h
    refine ⟨by simp only [Instr.sameNow], fun hr => ?_⟩
    rw [beq_iff_eq] at hr
    subst hr
    simp [Instr.sameBits]
  · cases h

noncomputable def findB (d : TypeDesc) (k : V) : List (V × V × Nat) → Nat → Option (Option (Nat × V))
  | [], _ => some none
  | (k', v, _) :: es, i =>
    match sameA d k k' with
    | some true => some (some (i, v))
    | some false => findB d k es (Nat.succ i)
    | none => none

theorem findB_sound {e : Env} {d : TypeDesc} {k : V} {K : Value} (hk : VR e k K) : ∀ (es : List (V × V × Nat)) (i : Nat) (r : Option (Nat × V)) (ES : List MapEntry), findB d k es i = some r → MRs e es ES →
    match r with
    | none => Instr.findNow d K ES i = some none
    | some (j, v) => ∃ z ent, Instr.findNow d K ES i = some (some (j, z)) ∧ VR e v z ∧ i ≤ j ∧ ES[j - i]? = some ent ∧ ent.val = z ∧ Instr.sameBits 10000 ent.key K = true
  | [], i, r, [], h, _ => by
    simp only [findB, Option.some.injEq] at h
    subst h
    rfl
  | (k', v, n) :: es, i, r, x :: ES, h, hm => by
    obtain ⟨⟨h1, h2, h3⟩, h4⟩ := hm
    simp only [findB] at h
    split at h
    · rename_i hs
      simp only [Option.some.injEq] at h
      subst h
      obtain ⟨g1, g2⟩ := sameA_sound hs hk h1
      refine ⟨x.val, x, ?_, h2, Nat.le_refl _, by simp, rfl, (g2 rfl).2⟩
      simp only [Instr.findNow, g1]
    · rename_i hs
      obtain ⟨g1, _⟩ := sameA_sound hs hk h1
      have ih := findB_sound hk es (i + 1) r ES h h4
      cases r with
      | none => simpa only [Instr.findNow, g1] using ih
      | some jv =>
        obtain ⟨j, u⟩ := jv
        obtain ⟨z, ent, i1, i2, i3, i4, i5⟩ := ih
        refine ⟨z, ent, by simpa only [Instr.findNow, g1] using i1, i2, by omega, ?_, i5⟩
        have : j - i = (j - (i + 1)) + 1 := by omega
        rw [this]
        simpa using i4
    · cases h
  | [], _, _, _ :: _, _, hm => hm.elim
  | _ :: _, _, _, [], _, hm => by simp only [MRs] at hm

theorem checkKey_run' {kt : TypeId} {kti : TI} (ok : TIok P kt kti) (hk : keyT kti.desc = true) (b : Bool) (v : Value) (n : Nat) (w : World) : (Instr.checkKey b (n + 1) kt v).run P w = .ok () w := by
  have hu := ok.under
  cases hd : kti.desc <;> rw [hd] at hu hk <;> first | (cases hk; done) | skip
  all_goals
    simp only [Instr.checkKey, Sem.run_bind, Go.run_underlying hu, Result.andThen_ok]
    rfl
theorem checkKey_run {kt : TypeId} {kti : TI} (ok : TIok P kt kti) (hk : keyT kti.desc = true) (b : Bool) (v : Value) (w : World) : (Instr.checkKey b 10000 kt v).run P w = .ok () w :=
  checkKey_run' ok hk b v 9999 w

/-! keys that are structs of such -/
noncomputable def keyFs (tab : Tab P) (xs : List V) : List (Nat × TypeId) → Bool
  | [] => true
  | (off, t) :: l =>
    match tab.ty t, partA tab t xs off with
    | some ti, some _ => bif keyT ti.desc then keyFs tab xs l else false
    | _, _ => false

noncomputable def keyOk (tab : Tab P) (kti : TI) (k : V) : Bool :=
  match kti.desc, k with
  | .struct _, .agg xs => bif kti.eqs then keyFs tab xs kti.fs else false
  | d, _ => keyT d

theorem keyFs_sound {tab : Tab P} {e : Env} {xs : List V} {X : Array Value} (hx : VRs e xs X.toList) (b : Bool) (n : Nat) (w : World) : ∀ (l : List Field), (∀ f ∈ l, f.name ≠ "_") → keyFs tab xs (l.map fun f => (f.offset, f.type)) = true →
    (forIn (m := Sem) l () fun f _ => if f.name ≠ "_" then do Instr.checkKey b (n + 1) f.type (← part f.type X f.offset); pure (ForInStep.yield ()) else pure (ForInStep.yield ())).run P w = .ok () w
  | [], _, _ => by simp
  | f :: l, hn, h => by
    simp only [List.map_cons, keyFs] at h
    split at h
    · rename_i ti v hti hv
      rw [cond_eq_ite] at h
      split at h
      · rename_i hk
        obtain ⟨z, z1, z2⟩ := partA_sound hv hx
        have hname := hn f (by simp)
        have ih := keyFs_sound hx b n w l (fun g hg => hn g (by simp [hg])) h
        rw [List.forIn_cons]
        simp only [ne_eq, hname, not_false_eq_true, if_true, Sem.run_bind, z2, Result.andThen_ok, checkKey_run' (tab.tyOk _ _ hti) hk, Sem.run_pure]
        exact ih
      · cases h
    · cases h

theorem checkKey_st {tab : Tab P} {e : Env} {kt : TypeId} {kti : TI} (ok : TIok P kt kti) {fds : Array Field} (hd : kti.desc = .struct fds) (hq : kti.eqs = true) {xs : List V} (h : keyFs tab xs kti.fs = true) {X : Array Value} (hX : VRs e xs X.toList) (b : Bool) (n : Nat) (w : World) :
    (Instr.checkKey b (n + 1 + 1) kt (.agg X)).run P w = .ok () w := by
  have hu := ok.under
  rw [hd] at hu
  obtain ⟨_, _, h3⟩ := ok.eqs hq
  rw [ok.fs _ hd] at h
  have := keyFs_sound hX b n w _ (h3 _ hd) h
  unfold Instr.checkKey
  simp only [Sem.run_bind, Go.run_underlying hu, Result.andThen_ok]
  rw [← Array.forIn_toList]
  have t := this
  simp at t ⊢
  exact congrArg (fun r : Result Unit => r.andThen fun _ w' => .ok () w') t

theorem checkKey_ok {tab : Tab P} {e : Env} {kt : TypeId} {kti : TI} (ok : TIok P kt kti) {k : V} (h : keyOk tab kti k = true) {K : Value} (hk : VR e k K) (b : Bool) (w : World) : (Instr.checkKey b 10000 kt K).run P w = .ok () w := by
  unfold keyOk at h
  split at h
  · rename_i fds xs hd
    rw [cond_eq_ite] at h
    split at h
    · rename_i hq
      simp only [VR] at hk
      obtain ⟨X, rfl, hX⟩ := hk
      exact checkKey_st ok hd hq h hX b 9998 w
    · cases h
  · exact checkKey_run ok h b K w

noncomputable def sameVs : List V → List V → Bool
  | [], [] => true
  | .int k m :: xs, .int k' n :: ys => decide (k = k') && (ieq m n && sameVs xs ys)
  | .str s :: xs, .str t :: ys => nbeq s t && sameVs xs ys
  | .bool a :: xs, .bool b :: ys => (a == b) && sameVs xs ys
  | _, _ => false

theorem sameVs_sound {e : Env} : ∀ (xs ys : List V) (X Y : List Value), sameVs xs ys = true → VRs e xs X → VRs e ys Y → ∀ n, Y.length = X.length ∧ (Y.zip X).all (fun (x, y) => Instr.sameBits n x y) = true
  | [], [], X, Y, _, hx, hy, n => by
    cases X <;> cases Y <;> simp only [VRs] at hx hy
    exact ⟨rfl, rfl⟩
  | [], _ :: _, _, _, h, _, _, _ => by simp [sameVs] at h
  | _ :: _, [], _, _, h, _, _, _ => by simp [sameVs] at h
  | v :: xs, u :: ys, X, Y, h, hx, hy, n => by
    cases X with
    | nil => simp only [VRs] at hx
    | cons x X =>
      cases Y with
      | nil => simp only [VRs] at hy
      | cons y Y =>
        simp only [VRs] at hx hy
        have key : sameVs xs ys = true ∧ Instr.sameBits n y x = true := by
          obtain ⟨hx1, _⟩ := hx
          obtain ⟨hy1, _⟩ := hy
          cases v <;> cases u <;> simp only [sameVs, Bool.false_eq_true] at h
          · simp only [Bool.and_eq_true, decide_eq_true_eq] at h
            obtain ⟨rfl, h2, h3⟩ := h
            simp only [VR] at hx1 hy1
            subst hx1
            subst hy1
            rw [ieq_eq, beq_iff_eq] at h2
            subst h2
            exact ⟨h3, by simp [Instr.sameBits]⟩
          · simp only [Bool.and_eq_true, beq_iff_eq] at h
            obtain ⟨rfl, h3⟩ := h
            simp only [VR] at hx1 hy1
            subst hx1
            subst hy1
            exact ⟨h3, by simp [Instr.sameBits]⟩
          · simp only [Bool.and_eq_true] at h
            obtain ⟨h2, h3⟩ := h
            rw [nbeq_eq] at h2
            have h2 := of_decide_eq_true h2
            subst h2
            simp only [VR] at hx1 hy1
            obtain ⟨rfl, _⟩ := hx1
            obtain ⟨rfl, _⟩ := hy1
            exact ⟨h3, by simp only [Instr.sameBits]; rw [bytes_beq]; simp⟩
        obtain ⟨g1, g2⟩ := sameVs_sound xs ys X Y key.1 hx.2 hy.2 n
        refine ⟨by simp [g1], ?_⟩
        simp only [List.zip_cons_cons, List.all_cons, key.2, g2, Bool.and_self]

noncomputable def findS (tab : Tab P) (kt : TypeId) (ks : List V) : List (V × V × Nat) → Nat → Option (Option (Nat × V))
  | [], _ => some none
  | (.agg k', v, _) :: es, i =>
    match eqA tab 12 kt (.agg ks) (.agg k') with
    | some true => bif sameVs ks k' then some (some (i, v)) else none
    | some false => findS tab kt ks es (Nat.succ i)
    | none => none
  | _ :: _, _ => none

theorem findS_sound {tab : Tab P} {e : Env} {kt : TypeId} {ks : List V} {K : Value} (hk : VR e (.agg ks) K) : ∀ (es : List (V × V × Nat)) (i : Nat) (r : Option (Nat × V)) (ES : List MapEntry), findS tab kt ks es i = some r → MRs e es ES →
    match r with
    | none => ∀ w, (Instr.findAsking kt K ES i).run P w = .ok none w
    | some (j, v) => ∃ z ent, (∀ w, (Instr.findAsking kt K ES i).run P w = .ok (some (j, z)) w) ∧ VR e v z ∧ i ≤ j ∧ ES[j - i]? = some ent ∧ ent.val = z ∧ Instr.sameBits 10000 ent.key K = true
  | [], i, r, [], h, _ => by
    simp only [findS, Option.some.injEq] at h
    subst h
    intro w
    simp [Instr.findAsking]
  | (k', v, n) :: es, i, r, x :: ES, h, hm => by
    obtain ⟨⟨h1, h2, h3⟩, h4⟩ := hm
    cases k' <;> simp only [findS, reduceCtorEq] at h
    rename_i k'
    split at h
    · rename_i hs
      rw [cond_eq_ite] at h
      split at h
      · rename_i hsv
        simp only [Option.some.injEq] at h
        subst h
        have hr := eqA_sound tab 12 kt _ _ _ K x.key hs hk h1 9988
        have hbits : Instr.sameBits 10000 x.key K = true := by
          simp only [VR] at hk h1
          obtain ⟨X, rfl, hX⟩ := hk
          obtain ⟨Y, hY0, hY⟩ := h1
          rw [hY0]
          obtain ⟨q1, q2⟩ := sameVs_sound _ _ _ _ hsv hX hY 9999
          rw [show (10000 : Nat) = 9999 + 1 from rfl]
          simp only [Instr.sameBits, Bool.and_eq_true, beq_iff_eq]
          exact ⟨by simpa using q1, q2⟩
        refine ⟨x.val, x, fun w => ?_, h2, Nat.le_refl _, by simp, rfl, hbits⟩
        have hr' : (Op.equal kt K x.key).run P w = .ok true w := hr w
        simp only [Instr.findAsking, Sem.run_bind, hr', Result.andThen_ok, if_true, Sem.run_pure]
      · cases h
    · rename_i hs
      have hr := eqA_sound tab 12 kt _ _ _ K x.key hs hk h1 9988
      have ih := findS_sound hk es (i + 1) r ES h h4
      cases r with
      | none =>
        intro w
        have hr' : (Op.equal kt K x.key).run P w = .ok false w := hr w
        simp only [Instr.findAsking, Sem.run_bind, hr', Result.andThen_ok, Bool.false_eq_true, if_false]
        exact ih w
      | some jv =>
        obtain ⟨j, u⟩ := jv
        obtain ⟨z, ent, i1, i2, i3, i4, i5⟩ := ih
        refine ⟨z, ent, fun w => ?_, i2, by omega, ?_, i5⟩
        · have hr' : (Op.equal kt K x.key).run P w = .ok false w := hr w
          simp only [Instr.findAsking, Sem.run_bind, hr', Result.andThen_ok, Bool.false_eq_true, if_false]
          exact i1 w
        · have : j - i = (j - (i + 1)) + 1 := by omega
          rw [this]
          simpa using i4
    · cases h
  | [], _, _, _ :: _, _, hm => hm.elim
  | _ :: _, _, _, [], _, hm => by simp only [MRs] at hm

noncomputable def findA (tab : Tab P) (kt : TypeId) (kti : TI) (k : V) (es : List (V × V × Nat)) : Option (Option (Nat × V)) :=
  match kti.desc, k with
  | .struct _, .agg ks => findS tab kt ks es 0
  | d, _ => findB d k es 0

theorem findA_sound {tab : Tab P} {e : Env} {kt : TypeId} {kti : TI} (okk : TIok P kt kti) {k : V} {K : Value} (hk : VR e k K) {es : List (V × V × Nat)} {r : Option (Nat × V)} {ES : List MapEntry} (h : findA tab kt kti k es = some r) (hm : MRs e es ES) :
    match r with
    | none => ∀ w, (Instr.findKey kt K ES).run P w = .ok none w
    | some (j, v) => ∃ z ent, (∀ w, (Instr.findKey kt K ES).run P w = .ok (some (j, z)) w) ∧ VR e v z ∧ ES[j]? = some ent ∧ ent.val = z ∧ Instr.sameBits 10000 ent.key K = true := by
  unfold findA at h
  split at h
  · rename_i fds ks hd _
    have hu := okk.under
    rw [hd] at hu
    have hs := findS_sound (P := P) hk es 0 r ES h hm
    cases ES with
    | nil =>
      cases es with
      | cons _ _ => exact hm.elim
      | nil =>
        simp only [findS, Option.some.injEq] at h
        subst h
        intro w
        simp only [Instr.findKey, Sem.run_bind, Go.run_underlying hu, Result.andThen_ok, Instr.findNow, Sem.run_pure]
    | cons x ES =>
      have hno : Instr.findNow (.struct fds) K (x :: ES) 0 = none := by simp only [Instr.findNow, Instr.sameNow]
      cases r with
      | none =>
        intro w
        simp only [Instr.findKey, Sem.run_bind, Go.run_underlying hu, Result.andThen_ok, hno]
        exact hs w
      | some jv =>
        obtain ⟨j, v⟩ := jv
        obtain ⟨z, ent, g1, g2, _, g4, g5⟩ := hs
        refine ⟨z, ent, fun w => ?_, g2, by simpa using g4, g5⟩
        simp only [Instr.findKey, Sem.run_bind, Go.run_underlying hu, Result.andThen_ok, hno]
        exact g1 w
  · have hs := findB_sound hk es 0 r ES h hm
    cases r with
    | none =>
      intro w
      simp only at hs
      simp only [Instr.findKey, Sem.run_bind, Go.run_underlying okk.under, Result.andThen_ok, hs, Sem.run_pure]
    | some jv =>
      obtain ⟨j, v⟩ := jv
      obtain ⟨z, ent, g1, g2, _, g4, g5⟩ := hs
      refine ⟨z, ent, fun w => ?_, g2, by simpa using g4, g5⟩
      simp only [Instr.findKey, Sem.run_bind, Go.run_underlying okk.under, Result.andThen_ok, g1, Sem.run_pure]

noncomputable def esOf (σ : St) (x : V) : Option (List (V × V × Nat)) :=
  match x with
  | .nilm => some []
  | .mapv b => match σ.at b with | .map es _ => some es | _ => none
  | _ => none

/-- what lies in a map -/
def Holds (w : World) (X : Value) (ES : Array MapEntry) : Prop := (X = .map none ∧ ES = #[]) ∨ ∃ r clock, X = .map (some r) ∧ w.heap[r]? = some (.map ES clock)

theorem esOf_sound {σ : St} {x : V} {es : List (V × V × Nat)} (h : esOf σ x = some es) {base : Nat} {e : Env} {w : World} (hr : Rel ng base e σ w) {X : Value} (hx : VR e x X) : ∃ ES, Holds w X ES ∧ MRs e es ES.toList := by
  unfold esOf at h
  split at h
  · simp only [Option.some.injEq] at h
    subst h
    simp only [VR] at hx
    exact ⟨#[], .inl ⟨hx, rfl⟩, trivial⟩
  · simp only [VR] at hx
    obtain ⟨hm, rfl⟩ := hx
    split at h
    · rename_i es' clock hat
      simp only [Option.some.injEq] at h
      subst h
      obtain ⟨o, g1, ⟨xs, g2, g3⟩, g4⟩ := ob_sound hr hm hat rfl
      subst g2
      exact ⟨xs, .inr ⟨_, _, rfl, g1⟩, g3⟩
    · cases h
  · cases h

theorem lookup_found {t kt et : TypeId} (hu : P.underlying t = some (.map kt et)) {X K : Value} (hck : ∀ b w, (Instr.checkKey b 10000 kt K).run P w = .ok () w) {ES : Array MapEntry} {w : World} (h : Holds w X ES) {j : Nat} {z : Value}
    (hf : ∀ w, (Instr.findKey kt K ES.toList).run P w = .ok (some (j, z)) w) (ok : Bool) : (Instr.lookup t X K ok).run P w = .ok (if ok then .tuple #[z, .bool true] else z) w := by
  rcases h with ⟨rfl, rfl⟩ | ⟨r, clock, rfl, hg⟩
  · have hf' : (Instr.findKey kt K []).run P w = .ok (some (j, z)) w := hf w
    have hn : (Instr.findKey kt K []).run P w = (underlying kt >>= fun _ => pure none : Sem (Option (Nat × Value))).run P w := by
      simp only [Instr.findKey, Instr.findNow]
    rw [hn, Sem.run_bind] at hf'
    cases hq : (underlying kt).run P w with
    | ok d w1 => rw [hq] at hf'; simp at hf'
    | halt x w1 => rw [hq] at hf'; cases hf'
  · have hgo := getOb (P := P) hg (by simp)
    simp only [Instr.lookup, Sem.run_bind, Go.run_underlying hu, Result.andThen_ok, hgo, hck, hf, Sem.run_pure]

theorem lookup_none {t kt et : TypeId} (hu : P.underlying t = some (.map kt et)) {X K : Value} (hck : ∀ b w, (Instr.checkKey b 10000 kt K).run P w = .ok () w) {ES : Array MapEntry} {w : World} (h : Holds w X ES) {z : Value}
    (hf : ∀ w, (Instr.findKey kt K ES.toList).run P w = .ok none w) (hz : ∀ w, (zeroValue et).run P w = .ok z w) (ok : Bool) : (Instr.lookup t X K ok).run P w = .ok (if ok then .tuple #[z, .bool false] else z) w := by
  rcases h with ⟨rfl, rfl⟩ | ⟨r, clock, rfl, hg⟩
  · simp only [Instr.lookup, Sem.run_bind, Go.run_underlying hu, Result.andThen_ok, hck, hf, Sem.run_pure, hz]
  · have hgo := getOb (P := P) hg (by simp)
    simp only [Instr.lookup, Sem.run_bind, Go.run_underlying hu, Result.andThen_ok, hgo, hck, hf, Sem.run_pure, hz]

noncomputable def lookupA (tab : Tab P) (σ : St) (t : TypeId) (x k : V) (ok : Bool) : Option V :=
  match tab.ty t with
  | some ti =>
    match ti.desc with
    | .map kt et =>
      match tab.ty kt, tab.ty et, esOf σ x with
      | some kti, some eti, some es =>
        bif keyOk tab kti k then
          match findA tab kt kti k es with
          | some (some (_, v)) => some (bif ok then .tup [v, .bool true] else v)
          | some none => some (bif ok then .tup [eti.zero, .bool false] else eti.zero)
          | none => none
        else none
      | _, _, _ => none
    | _ => none
  | none => none

theorem lookupA_sound {tab : Tab P} {σ : St} {t : TypeId} {x k v : V} {ok : Bool} (h : lookupA tab σ t x k ok = some v) {base : Nat} {e : Env} {w : World} (hr : Rel ng base e σ w) {X K : Value} (hx : VR e x X) (hk : VR e k K) :
    ∃ z, VR e v z ∧ (Instr.lookup t X K ok).run P w = .ok z w := by
  unfold lookupA at h
  split at h
  · rename_i ti hti
    have okt := tab.tyOk _ _ hti
    split at h
    · rename_i kt et hd
      have hu := okt.under
      rw [hd] at hu
      split at h
      · rename_i kti eti es hkti heti hes
        have okk := tab.tyOk _ _ hkti
        have oke := tab.tyOk _ _ heti
        obtain ⟨z0, hz1, hz2⟩ := oke.run_zero
        rw [cond_eq_ite] at h
        split at h
        · rename_i hkt
          obtain ⟨ES, hH, hE1⟩ := esOf_sound hes hr hx
          split at h
          · rename_i j u hf
            simp only [Option.some.injEq] at h
            subst h
            obtain ⟨z, ent, f1, f2, _⟩ := findA_sound okk hk hf hE1
            refine ⟨if ok then .tuple #[z, .bool true] else z, ?_, lookup_found hu (checkKey_ok okk hkt hk) hH f1 ok⟩
            cases ok
            · exact f2
            · simp only [cond_true, if_true, VR]
              exact ⟨_, rfl, VRs.cons f2 (VRs.cons (by simp only [VR]) VRs.nil)⟩
          · rename_i hf
            simp only [Option.some.injEq] at h
            subst h
            have f1 := findA_sound okk hk hf hE1
            refine ⟨if ok then .tuple #[z0, .bool false] else z0, ?_, lookup_none hu (checkKey_ok okk hkt hk) hH f1 hz2 ok⟩
            cases ok
            · exact hz1 e
            · simp only [cond_true, if_true, VR]
              exact ⟨_, rfl, VRs.cons (hz1 e) (VRs.cons (by simp only [VR]) VRs.nil)⟩
          · cases h
        · cases h
      · cases h
    · cases h
  · cases h
end
end Go.Proofs.YtdolijagffcfgaaGreatDoor.Ev

