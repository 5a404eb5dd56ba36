/-
  The evaluator, part 4 of 6: a program of the model is run by the kernel, piece by piece, and what it computes is proved of the run itself. No condition.
-/
import Derived.Test.YtdolijagffcfgaaGreatDoorE2
set_option linter.unusedVariables false
set_option linter.unusedSimpArgs false
/-
  The evaluator's regions in the order of their text.
-/
namespace Go.Proofs.YtdolijagffcfgaaGreatDoor.Ev

noncomputable def beqB (a b : Bool) : Bool := Bool.rec (motive := fun _ => Bool) (Bool.rec (motive := fun _ => Bool) true false b) b a
theorem beqB_eq (a b : Bool) : beqB a b = decide (a = b) := by cases a <;> cases b <;> rfl

/-- whether an operation's guard lets it run -/
noncomputable def wantA (L : List Oper) (tm : T V) (o : Oper) : Option Bool :=
  match o.guard with
  | none => some true
  | some (j, want) =>
    match lget L j with
    | some oj =>
      match oj.dst with
      | some d => bif Nat.blt d 512 then (match tget tm d with | .bool b => some (beqB b want) | .tup _ => some false | _ => none) else none
      | none => some false
    | none => some false

theorem wantA_sound {ops : Array Oper} {tm : T V} {o : Oper} {r : Bool} (h : wantA ops.toList tm o = some r) {e : Env} {nt : Nat} {tmps : Array Value}
    (ht : ∀ d, (∃ j oj want, o.guard = some (j, want) ∧ ops[j]? = some oj ∧ oj.dst = some d) → d < 2 ^ dt → VR e (tget tm d) (tmps.getD d undef)) (_hn : tmps.size = nt) : Region.wanted o (yielded ops tmps) = r := by
  unfold wantA at h
  unfold Region.wanted
  split at h
  · rename_i hg
    simp only [Option.some.injEq] at h
    rw [hg]
    exact h
  · rename_i j want hg
    rw [hg]
    simp only
    rw [lget_eq, Array.getElem?_toList] at h
    split at h
    · rename_i oj hj
      split at h
      · rename_i d hd
        rw [cond_eq_ite] at h
        split at h
        · rename_i hlt
          have hv := ht d ⟨j, oj, want, hg, hj, hd⟩ (blt_lt hlt)
          have hy : yielded ops tmps j = match tmps[d]? with | some (.bool b) => some b | _ => none := by
            simp only [yielded, hj, Option.bind_some, hd]
            rfl
          rw [hy]
          split at h
          · rename_i b hb
            rw [hb] at hv
            simp only [VR] at hv
            simp only [Option.some.injEq] at h
            have : tmps[d]? = some (.bool b) := by
              rw [Array.getD_eq_getD_getElem?] at hv
              cases hx : tmps[d]? with
              | none => rw [hx] at hv; simp [undef] at hv
              | some y => rw [hx] at hv; simp at hv; rw [hv]
            rw [this, ← h, beqB_eq]
            cases b <;> cases want <;> rfl
          · rename_i l hb
            rw [hb] at hv
            simp only [VR] at hv
            obtain ⟨ar, hv, _⟩ := hv
            simp only [Option.some.injEq] at h
            subst h
            rw [Array.getD_eq_getD_getElem?] at hv
            cases hx : tmps[d]? with
            | none => rfl
            | some y => rw [hx] at hv; simp at hv; rw [hv]; rfl
          · cases h
        · cases h
      · rename_i hd
        simp only [Option.some.injEq] at h
        subst h
        have : yielded ops tmps j = none := by simp only [yielded, hj, Option.bind_some, hd, Option.bind_none]
        rw [this]; rfl
    · rename_i hj
      simp only [Option.some.injEq] at h
      subst h
      have : yielded ops tmps j = none := by simp only [yielded, hj, Option.bind_none]
      rw [this]; rfl

section
variable {P : Program} {ng : Nat} {C : CallT}

abbrev OutT := T V → List ADef → U → St → Bool

noncomputable def opsK (C : CallT) (ng : Nat) (tab : Tab P) (fr : Fr) (L : List Oper) (κ : OutT) (κp : List (V × Bool) → OutT) : List Oper → OutT :=
  fun l => List.rec (motive := fun _ => OutT) κ (fun o _ ih tm ds u σ =>
    match wantA L tm o with
    | some true => opK C ng tab fr (evalA ng tm) o.op ds u σ (fun v ds u σ => putT fr.nt o.dst v tm fun tm => ih tm ds u σ) (fun ch u σ => κp ch tm ds u σ)
    | some false => putT fr.nt o.dst (.tup []) tm fun tm => ih tm ds u σ
    | none => false) l

theorem opsK_cons {tab : Tab P} {fr : Fr} {L : List Oper} {κ : OutT} {κp : List (V × Bool) → OutT} {o : Oper} {l : List Oper} {tm : T V} {ds : List ADef} {u : U} {σ : St} :
    opsK C ng tab fr L κ κp (o :: l) tm ds u σ = match wantA L tm o with
      | some true => opK C ng tab fr (evalA ng tm) o.op ds u σ (fun v ds u σ => putT fr.nt o.dst v tm fun tm => opsK C ng tab fr L κ κp l tm ds u σ) (fun ch u σ => κp ch tm ds u σ)
      | some false => putT fr.nt o.dst (.tup []) tm fun tm => opsK C ng tab fr L κ κp l tm ds u σ
      | none => false := rfl

theorem SR.want {base : Nat} {fr : Fr} {e : Env} {tm : T V} {ds : List ADef} {u : U} {σ : St} {b : Frame} {a : Act} {cs : List Frame} {w : World} (h : SR ng base fr e tm ds u σ b a cs w) {ops : Array Oper} {o : Oper} {r : Bool} (hw : wantA ops.toList tm o = some r) :
    Region.wanted o (yielded ops a.tmps) = r := wantA_sound hw (fun d _ hd => h.tm.rel d hd) h.tm.size

theorem opsK_sound {tab : Tab P} (hC : CallOk P ng C) {fr : Fr} {ops : Array Oper} {κ : OutT} {κp : List (V × Bool) → OutT} : ∀ (l : List Oper) (i : Nat) (tm : T V) (ds : List ADef) (u : U) (σ : St), ops.toList.drop i = l → AWf σ →
    opsK C ng tab fr ops.toList κ κp l tm ds u σ = true →
    (∃ tm' ds' u' σ', κ tm' ds' u' σ' = true ∧ AWf σ' ∧ AExt σ σ' ∧ ∀ base e (b : Frame) a cs w k, ng ≤ base → SR ng base fr e tm ds u σ b a cs w →
      To P ng base fr b e σ w cs (lone (b.atR a (.inRegion ops (List.range' i l.length) :: k)) cs w) k tm' ds' u' σ') ∨
    (∃ ch tm' ds' u' σ', κp ch tm' ds' u' σ' = true ∧ AWf σ' ∧ AExt σ σ' ∧ ∀ base e (b : Frame) a cs w k, ng ≤ base → SR ng base fr e tm ds u σ b a cs w →
      Pan P ng base fr b e σ w cs (lone (b.atR a (.inRegion ops (List.range' i l.length) :: k)) cs w) ch tm' ds' u' σ') := by
  intro l
  induction l with
  | nil =>
    intro i tm ds u σ hl hwf h
    left
    refine ⟨tm, ds, u, σ, h, hwf, .refl σ, fun base e b a cs w k hnb hs => ?_⟩
    exact To.one hs stepR_region_end
  | cons o l ih =>
    intro i tm ds u σ hl hwf h
    rw [opsK_cons] at h
    have ho : ops[i]? = some o := by
      rw [← Array.getElem?_toList, ← List.head?_drop, hl]; rfl
    have hl' : ops.toList.drop (i + 1) = l := by
      rw [← List.drop_drop, hl]; rfl
    have hrange : List.range' i (o :: l).length = i :: List.range' (i + 1) l.length := by simp [List.range'_succ]
    rw [hrange]
    split at h
    · rename_i hwant
      rcases opK_sound hC hwf h with ⟨v, ds', u', σ', h1, h2, h3, h4⟩ | ⟨ch, u', σ', h1, h2, h3, h4⟩
      · obtain ⟨h5, h6⟩ := putT_eq h1
        have first : ∀ base e (b : Frame) a cs w k, ng ≤ base → SR ng base fr e tm ds u σ b a cs w → To P ng base fr b e σ w cs (lone (b.atR a (.inRegion ops (i :: List.range' (i + 1) l.length) :: k)) cs w) (.inRegion ops (List.range' (i + 1) l.length) :: k) (putP o.dst v tm) ds' u' σ' := by
          intro base e b a cs w k hnb hs
          obtain ⟨e', dl, cs', w', z, g1, g2, g3, g4, g5, g6⟩ := h4 base e b a cs w ops i (List.range' (i + 1) l.length) k hs.room hnb hs.rel hs.glob hs.bf (fun x => evalA_sound hs.glob hs.tm x) hs.ds hs.kr ho (hs.want hwant)
          refine ⟨e', _, cs', w', g1, ⟨Nat.le_trans hs.room g5.size, g4, hs.glob.mono g5.le, hs.bf.mono g5.le, ?_, ?_, g6.kr⟩, g5, g6⟩
          · have := TR.put (a := { a with defers := dl }) (hs.tm.mono g5.le) h6 g2
            exact this
          · have : ({ a with defers := dl }.put o.dst z : Act).defers = dl := by cases o.dst <;> rfl
            rw [this]; exact g3
        rcases ih (i + 1) _ _ _ _ hl' h2 h5 with ⟨tm2, ds2, u2, σ2, k1, k2, k3, k4⟩ | ⟨ch, tm2, ds2, u2, σ2, k1, k2, k3, k4⟩
        · exact .inl ⟨tm2, ds2, u2, σ2, k1, k2, h3.trans k3, fun base e b a cs w k hnb hs => (first base e b a cs w k hnb hs).trans fun e a cs w hs' => k4 base e b a cs w k hnb hs'⟩
        · exact .inr ⟨ch, tm2, ds2, u2, σ2, k1, k2, h3.trans k3, fun base e b a cs w k hnb hs => (first base e b a cs w k hnb hs).pan fun e a cs w hs' => k4 base e b a cs w k hnb hs'⟩
      · right
        refine ⟨ch, tm, ds, u', σ', h1, h2, h3, fun base e b a cs w k hnb hs => ?_⟩
        obtain ⟨e', cs', w', C', g1, g2, g3, g4, g5⟩ := h4 base e b a cs w ops i (List.range' (i + 1) l.length) k hs.room hnb hs.rel hs.glob hs.bf (fun x => evalA_sound hs.glob hs.tm x) hs.kr ho (hs.want hwant)
        exact ⟨e', a, cs', w', _, C', g1, g2, ⟨Nat.le_trans hs.room g4.size, g3, hs.glob.mono g4.le, hs.bf.mono g4.le, hs.tm.mono g4.le, hs.ds.mono g4.le, g5.kr⟩, g4, g5⟩
    · rename_i hwant
      obtain ⟨h5, h6⟩ := putT_eq h
      have first : ∀ base e (b : Frame) a cs w k, ng ≤ base → SR ng base fr e tm ds u σ b a cs w → To P ng base fr b e σ w cs (lone (b.atR a (.inRegion ops (i :: List.range' (i + 1) l.length) :: k)) cs w) (.inRegion ops (List.range' (i + 1) l.length) :: k) (putP o.dst (.tup []) tm) ds u σ := by
        intro base e b a cs w k hnb hs
        have hsk := stepR_op_skip (P := P) (b := b) (a := a) (k := k) (cs := cs) (w := w) (ops := ops) (i := i) (rest := List.range' (i + 1) l.length) (by simp [ho]; exact hs.want hwant)
        have hdst : (ops[i]?).bind (·.dst) = o.dst := by rw [ho]; rfl
        rw [hdst] at hsk
        refine ⟨e, _, cs, w, .one hsk, ⟨hs.room, hs.rel, hs.glob, hs.bf, TR.put hs.tm h6 (by simp only [VR]; exact ⟨_, rfl, VRs.nil⟩), ?_, hs.kr⟩, .refl .., .refl hs.kr⟩
        have : (a.put o.dst undef).defers = a.defers := by cases o.dst <;> rfl
        rw [this]; exact hs.ds
      rcases ih (i + 1) _ _ _ _ hl' hwf h5 with ⟨tm2, ds2, u2, σ2, k1, k2, k3, k4⟩ | ⟨ch, tm2, ds2, u2, σ2, k1, k2, k3, k4⟩
      · exact .inl ⟨tm2, ds2, u2, σ2, k1, k2, k3, fun base e b a cs w k hnb hs => (first base e b a cs w k hnb hs).trans fun e a cs w hs' => k4 base e b a cs w k hnb hs'⟩
      · exact .inr ⟨ch, tm2, ds2, u2, σ2, k1, k2, k3, fun base e b a cs w k hnb hs => (first base e b a cs w k hnb hs).pan fun e a cs w hs' => k4 base e b a cs w k hnb hs'⟩
    · cases h
end
end Go.Proofs.YtdolijagffcfgaaGreatDoor.Ev

/-
  The evaluator's drawn regions: evaluated once, in the order of the text; what is checked, so that every order comes to the same.
-/
namespace Go.Proofs.YtdolijagffcfgaaGreatDoor.Ev

/-! ### quiet allocations -/
section
variable {P : Program}

noncomputable def newO (tab : Tab P) (ρ : Operand → V) (op : Op) (κ : Ob → (Nat → V) → Bool) : Bool :=
  match op with
  | .alloc elem =>
    match tab.ty elem with
    | some ti => match ti.zero.cellsA with | some l => κ (.cells elem l false false) fun id => .ptr id 0 | none => false
    | none => false
  | .box elem x => headV (ρ x) fun v => match v.cellsA with | some l => κ (.cells elem l false false) fun id => .ptr id 0 | none => false
  | .buildSlice t len parts =>
    match tab.ty t with
    | some ti =>
      match ti.desc with
      | .slice elem =>
        match tab.ty elem with
        | some eti =>
          bif Nat.ble (Nat.mul len eti.size) 16777216 then
            match zerosA eti len with
            | some zs => partsK ρ parts.toList fun ps =>
              match fillA (fun i => some (Nat.mul i eti.size, eti.size)) zs ps with
              | some cs => lappK cs [] fun cs => κ (.cells elem cs false false) fun id => .slice id 0 eti.size len (some len)
              | none => false
            | none => false
          else false
        | none => false
      | _ => false
    | none => false
  | .makeSlice t l c =>
    match tab.ty t, ρ l, ρ c with
    | some ti, .int _ (.ofNat l), .int _ (.ofNat c) =>
      match ti.desc with
      | .slice elem =>
        match tab.ty elem with
        | some eti =>
          bif Nat.ble l c && Nat.blt c 4294967296 && Nat.ble (Nat.mul eti.bytes c) 281474976710656 then
            match zerosA eti c with
            | some zs => lappK zs [] fun zs => κ (.cells elem zs false false) fun id => .slice id 0 eti.size l (some c)
            | none => false
          else false
        | none => false
      | _ => false
    | _, _, _ => false
  | .makeMap _ none => κ (.map [] 0) fun id => .mapv id
  | _ => false

theorem fill_size : ∀ (l : List (Nat × Value)) (c o : Array Value) (pl : Nat → Option (Nat × Nat)), Instr.fill pl c l = some o → o.size = c.size := by
  intro l
  induction l with
  | nil => intro c o pl hf; simp only [Instr.fill, Option.some.injEq] at hf; rw [← hf]
  | cons p l ih =>
    intro c o pl hf
    obtain ⟨i, v⟩ := p
    simp only [Instr.fill] at hf
    split at hf
    · cases hf
    · split at hf
      · cases hf
      · rw [ih _ _ _ hf]
        have hz : ∀ (zl : List (Value × Nat)) (cs : Array Value) (off : Nat), (zl.foldl (fun (cs : Array Value) (p : Value × Nat) => cs.setIfInBounds (off + p.2) p.1) cs).size = cs.size := by
          intro zl
          induction zl with
          | nil => intro cs off; rfl
          | cons q zl ih2 => intro cs off; rw [List.foldl_cons, ih2]; simp
        rw [← Array.foldl_toList]
        exact hz _ _ _

theorem buildSlice_run {t elem : TypeId} {eti : TI} (hu : P.underlying t = some (.slice elem)) (oke : TIok P elem eti) {len : Nat} (hlim : len * eti.size ≤ 16777216) {zs cs : List V} (hzs : zerosA eti len = some zs) {e : Env} {parts : List (Nat × V)} {PARTS : Array (Nat × Value)}
    (hcs : fillA (fun i => some (Nat.mul i eti.size, eti.size)) zs parts = some cs) (hp : PRs e parts PARTS.toList) :
    ∃ OUT : Array Value, VRs e cs OUT.toList ∧ OUT.size = len * eti.size ∧ ∀ w : World, (Instr.buildSlice t len PARTS).run P w = .ok (.slice (some ⟨w.heap.size, 0, none⟩) len len) (w.alloc (.cells OUT elem)) := by
  obtain ⟨Z, c, rfl, z2, z3, z4⟩ := zerosA_sound oke hzs e
  obtain ⟨OUT, f1, f2⟩ := fillA_sound _ _ _ _ _ hp hcs z2
  refine ⟨OUT, f2, by rw [fill_size _ _ _ _ f1, z3], fun w => ?_⟩
  have hno : ¬ len * eti.size > 2 ^ 24 := by omega
  have z4' := z4 w
  have g1 : (newRow elem OUT).run P w = .ok ⟨w.heap.size, 0, none⟩ (w.alloc (.cells OUT elem)) := rfl
  simp only [Instr.buildSlice, Sem.run_bind, Go.run_underlying hu, Result.andThen_ok, oke.run_sizeOf, hno, if_false, Sem.run_pure]
  have f1' : Instr.fill (fun i => some (i * eti.size, eti.size)) ((Array.range (len * eti.size)).map (Z[· % Z.size]!)) PARTS.toList = some OUT := f1
  by_cases h0 : len * eti.size = 0
  · rw [if_pos h0] at z4' ⊢
    simp only [Sem.run_pure, Result.ok.injEq, and_true] at z4'
    subst z4'
    simp only [Sem.run_bind, Sem.run_pure, Result.andThen_ok]
    rw [f1']
    simp only [Sem.run_bind, g1, Result.andThen_ok, Sem.run_pure]
  · rw [if_neg h0] at z4' ⊢
    simp only [Sem.run_bind, Sem.run_pure] at z4' ⊢
    cases hz : (zeroValue elem).run P w with
    | halt x w1 => rw [hz] at z4'; cases z4'
    | ok zv w1 =>
      rw [hz] at z4'
      simp only [Result.andThen_ok, Result.ok.injEq] at z4'
      obtain ⟨rfl, rfl⟩ := z4'
      simp only [Result.andThen_ok]
      rw [f1']
      simp only [Sem.run_bind, g1, Result.andThen_ok, Sem.run_pure]

theorem makeSlice_run {t elem : TypeId} {eti : TI} (hu : P.underlying t = some (.slice elem)) (oke : TIok P elem eti) {l c : Nat} (hlc : l ≤ c) (hcm : c < 4294967296) (hcb : eti.bytes * c ≤ 281474976710656) {zs : List V} (hzs : zerosA eti c = some zs) (e : Env) (lk ck : IntKind) :
    ∃ OUT : Array Value, VRs e zs OUT.toList ∧ OUT.size = c * eti.size ∧ ∀ w : World, (Instr.makeSlice t (.int lk (.ofNat l)) (.int ck (.ofNat c))).run P w = .ok (.slice (some ⟨w.heap.size, 0, none⟩) l c) (w.alloc (.cells OUT elem)) := by
  obtain ⟨i, i1, i2, i3, _, zv, i5, _⟩ := oke.info
  obtain ⟨Z, ce, hce, z2, z3, z4⟩ := zerosA_sound oke hzs e
  refine ⟨ce, z2, z3, fun w => ?_⟩
  have z4' := z4 w
  have hcem : ce = madeCells zv.cells (c * i.size) := by
    rw [hce, i2]
    unfold madeCells
    by_cases h0 : c * eti.size = 0
    · rw [h0]; simp
    · rw [if_neg h0] at z4'
      simp [zeroValue, typeInfo, i1, i5] at z4'
      rw [z4']
  have hrun := run_make (P := P) w t elem i zv hu i1 i5 lk ck (l : Int) (c : Int) (by omega) (by omega) (by rw [i3, ← Int.natCast_mul]; exact Int.ofNat_le.2 hcb) (by omega)
  rw [hcem]
  exact hrun

/-- what a quiet allocation does, in whatever state: the block's number is 'id' -/
def NewOk (P : Program) (ρ : Operand → V) (o : Oper) (ob : Ob) (mk : Nat → V) : Prop :=
  ob.isNo = false ∧ ∀ e w R id, ¬ e.M id → (∀ x, VR e (ρ x) (R x)) → ∃ obj size z, (execOp R o).run P w = .ok (.value z) (w.alloc obj) ∧ OR (e.more id w.heap.size size) ob id obj ∧ VR (e.more id w.heap.size size) (mk id) z

theorem row_or {e : Env} {id blk : Nat} {elem : TypeId} {l : List V} {c : Array Value} (hn : ¬ e.M id) (hc : VRs e l c.toList) : OR (e.more id blk c.size) (.cells elem l false false) id (.cells c elem) :=
  ⟨c, (0, 0), c.toList, [], rfl, by simp, VRs.mono (Env.le_more e id blk c.size hn) _ _ hc, by simp [Env.more], fun _ => rfl, fun _ => rfl⟩

theorem newO_ok {tab : Tab P} {ρ : Operand → V} {o : Oper} {κ : Ob → (Nat → V) → Bool} (h : newO tab ρ o.op κ = true) : ∃ ob mk, κ ob mk = true ∧ NewOk P ρ o ob mk := by
  have val : ∀ {s : Sem Value} {z : Value} {w w' : World}, s.run P w = .ok z w' → (do pure (.value (← s)) : Sem Next).run P w = .ok (.value z) w' := by
    intro s z w w' hs
    rw [Sem.run_bind, hs]
    rfl
  obtain ⟨dst, op, ty, pos, after, guard⟩ := o
  simp only at h
  unfold newO at h
  split at h
  · rename_i elem
    split at h
    · rename_i ti hti
      have ok := tab.tyOk _ _ hti
      obtain ⟨z, hz1, hz2⟩ := ok.run_zero
      split at h
      · rename_i l hl
        refine ⟨_, _, h, rfl, fun e w R id hn hρ => ?_⟩
        have hc := V.cellsA_sound hl (hz1 e)
        refine ⟨.cells z.cells elem, z.cells.size, .pointer (some ⟨w.heap.size, 0, none⟩), val ?_, row_or hn hc, ?_⟩
        · simp only [Instr.alloc, Sem.run_bind, hz2, Result.andThen_ok]
          rfl
        · simp only [VR]; exact ⟨.inr rfl, by simp [Env.more]⟩
      · cases h
    · cases h
  · rename_i elem x
    rw [headV_eq] at h
    split at h
    · rename_i l hl
      refine ⟨_, _, h, rfl, fun e w R id hn hρ => ?_⟩
      have hc := V.cellsA_sound hl (hρ x)
      refine ⟨.cells (R x).cells elem, (R x).cells.size, .pointer (some ⟨w.heap.size, 0, none⟩), val rfl, row_or hn hc, ?_⟩
      simp only [VR]; exact ⟨.inr rfl, by simp [Env.more]⟩
    · cases h
  · rename_i t len parts
    split at h
    · rename_i ti hti
      have ok := tab.tyOk _ _ hti
      split at h
      · rename_i elem hd
        have hu := ok.under
        rw [hd] at hu
        split at h
        · rename_i eti heti
          have oke := tab.tyOk _ _ heti
          rw [cond_eq_ite] at h
          split at h
          · rename_i hlim
            split at h
            · rename_i zs hzs
              rw [partsK_eq] at h
              split at h
              · rename_i cs hcs
                rw [lappK_eq, List.append_nil] at h
                refine ⟨_, _, h, rfl, fun e w R id hn hρ => ?_⟩
                obtain ⟨OUT, f1, f2, f3⟩ := buildSlice_run hu oke (Nat.le_of_ble_eq_true hlim) hzs (PARTS := parts.map fun (i, x) => (i, R x)) hcs (by rw [Array.toList_map]; exact PRs.map hρ _)
                refine ⟨.cells OUT elem, OUT.size, .slice (some ⟨w.heap.size, 0, none⟩) len len, val (f3 w), row_or hn f1, ?_⟩
                simp only [VR]
                refine ⟨.inr rfl, len, by simp [Env.more], Nat.le_refl _, ?_, by simp, by simp⟩
                simp [Env.more, f2]
              · cases h
            · cases h
          · cases h
        · cases h
      · cases h
    · cases h
  · rename_i t l c
    split at h
    · rename_i ti lk l' ck c' hti hl hc
      have ok := tab.tyOk _ _ hti
      split at h
      · rename_i elem hd
        have hu := ok.under
        rw [hd] at hu
        split at h
        · rename_i eti heti
          have oke := tab.tyOk _ _ heti
          rw [cond_eq_ite] at h
          split at h
          · rename_i hc0
            simp only [Bool.and_eq_true] at hc0
            obtain ⟨⟨hc1, hc2⟩, hc3⟩ := hc0
            split at h
            · rename_i zs hzs
              rw [lappK_eq, List.append_nil] at h
              refine ⟨_, _, h, rfl, fun e w R id hn hρ => ?_⟩
              obtain ⟨OUT, f1, f2, f3⟩ := makeSlice_run hu oke (Nat.le_of_ble_eq_true hc1) (blt_lt hc2) (Nat.le_of_ble_eq_true hc3) hzs e lk ck
              have h1 := hρ l
              have h2 := hρ c
              rw [hl] at h1
              rw [hc] at h2
              simp only [VR] at h1 h2
              refine ⟨.cells OUT elem, OUT.size, .slice (some ⟨w.heap.size, 0, none⟩) l' c', val ?_, row_or hn f1, ?_⟩
              · show (Instr.makeSlice t (R l) (R c)).run P w = _
                rw [h1, h2]; exact f3 w
              · simp only [VR]
                refine ⟨.inr rfl, c', by simp [Env.more], Nat.le_of_ble_eq_true hc1, ?_, by simp, by simp⟩
                simp [Env.more, f2]
            · cases h
          · cases h
        · cases h
      · cases h
    · cases h
  · rename_i t
    refine ⟨_, _, h, rfl, fun e w R id hn hρ => ?_⟩
    refine ⟨.map #[] 0, 0, .map (some w.heap.size), val rfl, ⟨#[], rfl, trivial⟩, ?_⟩
    simp only [VR]; exact ⟨.inr rfl, by simp [Env.more]⟩
  · cases h
end
end Go.Proofs.YtdolijagffcfgaaGreatDoor.Ev

/-
  An operation of the evaluator looks at its operands alone.
-/
namespace Go.Proofs.YtdolijagffcfgaaGreatDoor.Ev
section
variable {P : Program} {ng : Nat} {C : CallT} {tab : Tab P} {ρ ρ' : Operand → V}

theorem map_congr' {l : List Operand} (h : ∀ x ∈ l, ρ x = ρ' x) : l.map ρ = l.map ρ' := List.map_congr_left h
theorem parts_congr {l : List (Nat × Operand)} (h : ∀ p ∈ l, ρ p.2 = ρ' p.2) : (l.map fun p => (p.1, ρ p.2)) = (l.map fun p => (p.1, ρ' p.2)) :=
  List.map_congr_left fun p hp => by rw [h p hp]

theorem pureA_congr (op : Op) (h : ∀ x ∈ op.operands, ρ x = ρ' x) : pureA tab ρ op = pureA tab ρ' op := by
  cases op <;> simp only [Op.operands] at h <;> simp only [pureA]
  case build t ps => rw [parts_congr fun p hp => h _ (by simp; exact ⟨p.1, by simpa using hp⟩)]
  case makeFunc fn first captured => rw [map_congr' fun x hx => h x (by simp; exact .inl (by simpa using hx)), map_congr' fun x hx => h x (by simp; exact .inr (by simpa using hx))]
  case slice t x lo hi mx => cases lo <;> cases hi <;> cases mx <;> simp_all [mapOp]
  case call c =>
    obtain ⟨callee, args, ts⟩ := c
    simp only
    split
    · split
      · rename_i t x ht hx
        have hxa : args = #[x] := by apply Array.ext'; simpa using hx
        subst hxa
        rw [h x (by simp [Call.operands])]
      · rfl
    · split
      · rename_i x y hx
        have hxa : args = #[x, y] := by apply Array.ext'; simpa using hx
        subst hxa
        rw [h x (by simp [Call.operands]), h y (by simp [Call.operands])]
      · rfl
    · split
      · rename_i x y hx
        have hxa : args = #[x, y] := by apply Array.ext'; simpa using hx
        subst hxa
        rw [h x (by simp [Call.operands]), h y (by simp [Call.operands])]
      · rfl
    · split
      · rename_i t x ht hx
        have hxa : args = #[x] := by apply Array.ext'; simpa using hx
        subst hxa
        rw [h x (by simp [Call.operands])]
      · rfl
    · split
      · rename_i x hx
        have hxa : args = #[x] := by apply Array.ext'; simpa using hx
        subst hxa
        rw [h x (by simp [Call.operands])]
      · rfl
    · rfl
  all_goals (first | rfl | (simp_all; done))

theorem pureK_congr (op : Op) (κ : V → Bool) (h : ∀ x ∈ op.operands, ρ x = ρ' x) : pureK tab ρ op κ = pureK tab ρ' op κ := by
  have hp := pureA_congr (tab := tab) op h
  cases op <;> simp only [Op.operands] at h <;> simp only [pureK]
  case build t ps => rw [partsK_eq, partsK_eq, parts_congr fun p hp => h _ (by simp; exact ⟨p.1, by simpa using hp⟩)]
  case makeFunc fn first captured =>
    split
    · rw [mapVK_eq, mapVK_eq, mapVK_eq, mapVK_eq, map_congr' fun x hx => h x (by simp; exact .inl (by simpa using hx)), map_congr' fun x hx => h x (by simp; exact .inr (by simpa using hx))]
    · rfl
  all_goals (first | rfl | (rw [hp]; done) | (simp_all; done))

theorem memK_congr (op : Op) (σ : St) (κ : V → St → Bool) (h : ∀ x ∈ op.operands, ρ x = ρ' x) : memK ng tab ρ op σ κ = memK ng tab ρ' op σ κ := by
  cases op <;> simp only [Op.operands] at h <;> simp only [memK]
  case buildSlice t n ps => rw [partsK_eq, partsK_eq, parts_congr fun p hp => h _ (by simp; exact ⟨p.1, by simpa using hp⟩)]
  case makeMap t r => cases r <;> rfl
  case next x s => cases s <;> simp_all
  case call c =>
    obtain ⟨callee, args, ts⟩ := c
    simp only
    split
    · split
      · rename_i t tx s x ht hx
        have hxa : args = #[s, x] := by apply Array.ext'; simpa using hx
        subst hxa
        rw [h s (by simp [Call.operands]), h x (by simp [Call.operands])]
      · rfl
    · split
      · rename_i t x ht hx
        have hxa : args = #[x] := by apply Array.ext'; simpa using hx
        subst hxa
        rw [h x (by simp [Call.operands])]
      · rfl
    · split
      · rename_i t it x y ht hx
        have hxa : args = #[x, y] := by apply Array.ext'; simpa using hx
        subst hxa
        rw [h x (by simp [Call.operands]), h y (by simp [Call.operands])]
      · rfl
    · split
      · rename_i t it x y ht hx
        have hxa : args = #[x, y] := by apply Array.ext'; simpa using hx
        subst hxa
        rw [h x (by simp [Call.operands]), h y (by simp [Call.operands])]
      · rfl
    · rfl
  all_goals (first | rfl | (simp_all; done))

theorem newO_congr (op : Op) (κ : Ob → (Nat → V) → Bool) (h : ∀ x ∈ op.operands, ρ x = ρ' x) : newO tab ρ op κ = newO tab ρ' op κ := by
  cases op <;> simp only [Op.operands] at h <;> simp only [newO]
  case makeMap t r => cases r <;> rfl
  case buildSlice t n ps =>
    have he := parts_congr (ρ := ρ) (ρ' := ρ') (l := ps.toList) fun p hp => h _ (by simp; exact ⟨p.1, by simpa using hp⟩)
    simp only [partsK_eq, he]
  all_goals (first | rfl | (simp_all; done))

theorem opK_congr (fr : Fr) (op : Op) (ds : List ADef) (u : U) (σ : St) (κ : V → List ADef → U → St → Bool) (κp : List (V × Bool) → U → St → Bool) (h : ∀ x ∈ op.operands, ρ x = ρ' x) :
    opK C ng tab fr ρ op ds u σ κ κp = opK C ng tab fr ρ' op ds u σ κ κp := by
  have hp := fun κ => pureK_congr (tab := tab) op κ h
  have hm := fun σ κ => memK_congr (ng := ng) (tab := tab) op σ κ h
  have ha := pureA_congr (tab := tab) op h
  cases op <;> simp only [opK]
  case call c =>
    split
    · rename_i f hf
      obtain ⟨callee, args, ts⟩ := c
      simp only at hf
      subst hf
      simp only [Op.operands] at h
      rw [headV_eq, headV_eq, mapVK_eq, mapVK_eq, h f (by simp [Call.operands]), map_congr' fun x hx => h x (by simp [Call.operands]; exact .inr (by simpa using hx))]
    · rfl
    · rw [hm]
    · rw [hm]
    · rw [hm]
    · rw [ha, hm]
    · rename_i r name hf
      obtain ⟨callee, args, ts⟩ := c
      simp only at hf
      subst hf
      simp only [Op.operands] at h
      rw [headV_eq, headV_eq, mapVK_eq, mapVK_eq, h r (by simp [Call.operands]), map_congr' fun x hx => h x (by simp [Call.operands]; exact .inr (by simpa using hx))]
    · rw [hp]
  case defer c =>
    obtain ⟨callee, args, ts⟩ := c
    simp only
    split
    · rename_i f hrd
      simp only [Op.operands] at h
      rw [h f (by simp [Call.operands])]
      split
      · rw [mapVK_eq, mapVK_eq, map_congr' fun x hx => h x (by simp [Call.operands]; exact .inr (by simpa using hx))]
      · rfl
    · rfl
  case panic x => rw [h x (by simp [Op.operands])]
  case convert s d x =>
    rw [h x (by simp [Op.operands])]
    split
    · rw [hm]
    · rw [hm, hp]
    · rw [hp]
  all_goals (first | (rw [hm]; done) | (rw [hp]; done) | rfl)
end
end Go.Proofs.YtdolijagffcfgaaGreatDoor.Ev

/-
  Values that mention blocks below a bound only; environments cut at a bound.
-/
namespace Go.Proofs.YtdolijagffcfgaaGreatDoor.Ev

mutual
/-- a value mentions blocks below 'n' only -/
def V.bd (n : Nat) : V → Bool
  | .ptr b _ => Nat.blt b n
  | .slice b _ _ _ _ => Nat.blt b n
  | .mapv b => Nat.blt b n
  | .yieldf b => Nat.blt b n
  | .func _ f c => V.bds n f && V.bds n c
  | .iface _ v => V.bd n v
  | .agg l => V.bds n l
  | .tup l => V.bds n l
  | _ => true
def V.bds (n : Nat) : List V → Bool
  | [] => true
  | v :: l => V.bd n v && V.bds n l
end

def Env.cut (e : Env) (n : Nat) : Env := ⟨fun i => e.M i ∧ i < n, e.blk, e.size⟩

theorem Env.cut_le (e : Env) (n : Nat) : (e.cut n).le e := ⟨fun _ h => ⟨h.1, rfl, rfl⟩⟩
theorem Env.cut_mono {e e' : Env} {n n' : Nat} (h : e.le e') (hn : n ≤ n') : (e.cut n).le (e'.cut n') :=
  ⟨fun i hi => let ⟨h1, h2, h3⟩ := h.mono i hi.1; ⟨⟨h1, Nat.lt_of_lt_of_le hi.2 hn⟩, h2, h3⟩⟩

mutual
theorem VR.cut {e : Env} {n : Nat} : ∀ (v : V) (x : Value), v.bd n = true → VR e v x → VR (e.cut n) v x
  | .int .., _, _, r | .bool _, _, _, r | .str _, _, _, r | .nilp, _, _, r | .nils, _, _, r | .emp, _, _, r | .nilm, _, _, r | .nilf, _, _, r | .nili, _, _, r | .junk, _, _, r => by simp only [VR] at r ⊢ <;> exact r
  | .ptr b o, x, h, r => by
    simp only [VR] at r ⊢
    exact ⟨⟨r.1, blt_lt h⟩, r.2⟩
  | .slice b o es len cap, x, h, r => by
    simp only [VR] at r ⊢
    exact ⟨⟨r.1, blt_lt h⟩, r.2⟩
  | .mapv b, x, h, r => by
    simp only [VR] at r ⊢
    exact ⟨⟨r.1, blt_lt h⟩, r.2⟩
  | .yieldf b, x, h, r => by
    simp only [VR] at r ⊢
    exact ⟨⟨r.1, blt_lt h⟩, r.2⟩
  | .func fn f c, x, h, r => by
    simp only [V.bd, Bool.and_eq_true] at h
    simp only [VR] at r ⊢
    obtain ⟨r0, a, b, r1, r2, r3⟩ := r
    exact ⟨r0, a, b, r1, VRs.cut f _ h.1 r2, VRs.cut c _ h.2 r3⟩
  | .iface t v, x, h, r => by
    simp only [V.bd] at h
    simp only [VR] at r ⊢
    obtain ⟨y, r1, r2⟩ := r
    exact ⟨y, r1, VR.cut v y h r2⟩
  | .agg l, x, h, r => by
    simp only [V.bd] at h
    simp only [VR] at r ⊢
    obtain ⟨a, r1, r2⟩ := r
    exact ⟨a, r1, VRs.cut l _ h r2⟩
  | .tup l, x, h, r => by
    simp only [V.bd] at h
    simp only [VR] at r ⊢
    obtain ⟨a, r1, r2⟩ := r
    exact ⟨a, r1, VRs.cut l _ h r2⟩
theorem VRs.cut {e : Env} {n : Nat} : ∀ (l : List V) (m : List Value), V.bds n l = true → VRs e l m → VRs (e.cut n) l m
  | [], [], _, _ => VRs.nil
  | v :: l, x :: m, h, r => by
    simp only [V.bds, Bool.and_eq_true] at h
    simp only [VRs] at r
    exact VRs.cons (VR.cut v x h.1 r.1) (VRs.cut l m h.2 r.2)
  | [], _ :: _, _, r => by simp only [VRs] at r
  | _ :: _, [], _, r => by simp only [VRs] at r
end

/-- environments that say the same of what they know -/
theorem Rel.congr {ng base : Nat} {e e' : Env} {σ : St} {w : World} (h : Rel ng base e σ w) (hle : e.le e') (hM : ∀ i, e'.M i → e.M i) : Rel ng base e' σ w where
  next := h.next
  lim := fun i hi => h.lim i (hM i hi)
  there := fun i hi => by rw [(hle.mono i (hM i hi)).2.1]; exact h.there i (hM i hi)
  obj := fun i hi hn => by
    obtain ⟨o, h1, h2⟩ := h.obj i (hM i hi) hn
    exact ⟨o, by rw [(hle.mono i (hM i hi)).2.1]; exact h1, h2.mono hle (hM i hi)⟩
  inj := fun i j hi hj hni hnj he => h.inj i j (hM i hi) (hM j hj) hni hnj (by rw [(hle.mono i (hM i hi)).2.1, (hle.mono j (hM j hj)).2.1] at he; exact he)
  own := fun i hi hg => by rw [(hle.mono i (hM i hi)).2.1]; exact h.own i (hM i hi) hg
  fresh := h.fresh

end Go.Proofs.YtdolijagffcfgaaGreatDoor.Ev

/-
  The evaluator's drawn regions: the run in the order of the text, with what is checked of each pair of operations, as a record.
-/
namespace Go.Proofs.YtdolijagffcfgaaGreatDoor.Ev

theorem orMap {a b c : Prop} (f : b → c) (h : a ∨ b) : a ∨ c := by
  rcases h with h | h
  · exact .inl h
  · exact .inr (f h)

/-- which operations are evaluated how: 0: no memory; 1: a reading; 2: a quiet allocation; 3: all others, which keep their order -/
def opClass : Op → Nat
  | .load .. => 1
  | .alloc .. | .box .. | .buildSlice .. | .makeSlice .. | .makeMap _ none => 2
  | .move _ | .assign _ | .pick .. | .build .. | .nilCheck _ | .binOp .. | .unOp .. | .convert .. | .makeInterface .. | .makeFunc .. | .slice .. | .fieldAddr .. | .field .. | .indexAddr .. | .index .. | .typeAssert .. | .extract .. => 0
  | .call c =>
    match c.callee with
    | .builtin .len | .builtin .max | .builtin .cap | .builtin .min | .builtin .unsafeSliceData => 0
    | _ => 3
  | _ => 3

noncomputable def dirB (o : Oper) (j : Nat) : Bool :=
  List.rec (motive := fun _ => Bool) false (fun e _ ih => Bool.rec (motive := fun _ => Bool) ih (Region.binds .any e) (Nat.beq e.on j)) o.after.toList

theorem dirB_spec {o : Oper} {j : Nat} (h : dirB o j = true) : ∃ e ∈ o.after, Region.binds .any e = true ∧ e.on = j := by
  have key : ∀ l : List Edge, (List.rec (motive := fun _ => Bool) false (fun e _ ih => Bool.rec (motive := fun _ => Bool) ih (Region.binds .any e) (Nat.beq e.on j)) l : Bool) = true → ∃ e ∈ l, Region.binds .any e = true ∧ e.on = j := by
    intro l
    induction l with
    | nil => intro h; cases h
    | cons e l ih =>
      intro h
      have h' : Bool.rec (motive := fun _ => Bool) (List.rec (motive := fun _ => Bool) false (fun e _ ih => Bool.rec (motive := fun _ => Bool) ih (Region.binds .any e) (Nat.beq e.on j)) l) (Region.binds .any e) (Nat.beq e.on j) = true := h
      cases hb : Nat.beq e.on j with
      | true =>
        rw [hb] at h'
        exact ⟨e, by simp, h', Nat.eq_of_beq_eq_true hb⟩
      | false =>
        rw [hb] at h'
        obtain ⟨x, h1, h2⟩ := ih h'
        exact ⟨x, by simp [h1], h2⟩
  obtain ⟨e, h1, h2⟩ := key _ h
  exact ⟨e, by simpa using h1, h2⟩

/-- whether an operation comes behind the j-th in every order: by its own edge, or by edges of those that it hangs on -/
noncomputable def goB (L : List Oper) : Nat → Oper → Nat → Bool
  | 0, o, j => dirB o j
  | n + 1, o, j => dirB o j || o.after.toList.any fun e => Region.binds .any e && (Nat.blt j e.on && match lget L e.on with | some ok => goB L n ok j | none => false)
noncomputable def ordB (L : List Oper) (o : Oper) (j : Nat) : Bool := goB L 5 o j
noncomputable def ordC (L : List Oper) (o : Oper) (j : Nat) (c : Bool) : Bool := dirB o j || (c || ordB L o j)
theorem ordB_dir {L : List Oper} {o : Oper} {j : Nat} (h : dirB o j = true) : ordB L o j = true := by
  simp only [ordB, goB, h, Bool.true_or]
theorem ordC_spec {L : List Oper} {o : Oper} {j : Nat} {c : Bool} (h : ordC L o j c = true) : ordB L o j = true ∨ c = true := by
  unfold ordC at h
  simp only [Bool.or_eq_true] at h
  rcases h with h | h | h
  · exact .inl (ordB_dir h)
  · exact .inr h
  · exact .inl h

theorem goB_in {ops : Array Oper} {S : List Nat} (hcl : ∀ i ∈ S, ∀ o, ops[i]? = some o → ∀ e ∈ o.after, Region.binds .any e = true → e.on ∈ S) : ∀ (n : Nat) (o : Oper) (j : Nat),
    (∀ e ∈ o.after, Region.binds .any e = true → e.on ∈ S) → goB ops.toList n o j = true → j ∈ S
  | 0, o, j, hp, h => by
    obtain ⟨e, h1, h2, h3⟩ := dirB_spec h
    have := hp e h1 h2
    rwa [h3] at this
  | n + 1, o, j, hp, h => by
    simp only [goB, Bool.or_eq_true, List.any_eq_true, Bool.and_eq_true] at h
    rcases h with h | ⟨e, h1, h2, h3, h4⟩
    · obtain ⟨e, h1, h2, h3⟩ := dirB_spec h
      have := hp e h1 h2
      rwa [h3] at this
    · have hS := hp e (by simpa using h1) h2
      rw [lget_eq, Array.getElem?_toList] at h4
      split at h4
      · rename_i ok hok
        exact goB_in hcl n ok j (fun e' h' hb' => hcl _ hS ok hok e' h' hb') h4
      · cases h4

def opTmps (o : Oper) : List Tmp := o.op.operands.toList.filterMap fun | .tmp t => some t | _ => none
noncomputable def gdTmp (L : List Oper) (o : Oper) : List Tmp :=
  match o.guard with
  | some (g, _) => match lget L g with | some og => og.dst.toList | none => []
  | none => []
noncomputable def looksA (L : List Oper) (o : Oper) : List Tmp := opTmps o ++ gdTmp L o

noncomputable def pairB (L : List Oper) (oi : Oper) (oj : Oper) (j : Nat) : Bool :=
  (match oi.dst, oj.dst with | some d, some d' => !(Nat.beq d d') | _, _ => true) &&
  (match oj.dst with | some d => !((looksA L oi).contains d) || ordB L oi j | none => true) &&
  (match oi.dst with | some d => !((looksA L oj).contains d) || ordB L oi j | none => true)

noncomputable def staticB (L : List Oper) : Bool :=
  L.zipIdx.all fun p => p.1.after.toList.all (fun e => !(Region.binds .any e) || Nat.blt e.on p.2) && L.zipIdx.all fun q => !(Nat.blt q.2 p.2) || pairB L p.1 q.1 q.2

noncomputable def allL {α : Type} (f : α → Bool) : List α → Bool := fun l => List.rec (motive := fun _ => Bool) true (fun a _ ih => Bool.rec (motive := fun _ => Bool) false ih (f a)) l
theorem allL_spec {α : Type} {f : α → Bool} : ∀ {l : List α}, allL f l = true → ∀ a ∈ l, f a = true
  | [], _, _, ha => by cases ha
  | b :: l, h, a, ha => by
    have h' : Bool.rec (motive := fun _ => Bool) false (allL f l) (f b) = true := h
    cases hb : f b with
    | false => rw [hb] at h'; cases h'
    | true =>
      rw [hb] at h'
      rcases List.mem_cons.1 ha with rfl | ha
      · exact hb
      · exact allL_spec (l := l) h' a ha

/-- the cells of a new block mention older blocks only -/
noncomputable def obBd (n : Nat) (ob : Ob) : Bool :=
  match ob with
  | .cells _ l _ _ => allL (fun v => v.bd n) l
  | .map [] _ => true
  | _ => false
noncomputable def opsBd (n : Nat) (ρ : Operand → V) (o : Oper) : Bool := allL (fun x => (ρ x).bd n) o.op.operands.toList

inductive Kd where
  | skip
  | quiet
  | load (b x n : Nat)
  | new (ob : Ob)
  | eff (log : List (Nat × Nat × Nat))

structure Tr where
  i : Nat
  o : Oper
  kd : Kd
  v : V
  tm : T V
  ds : List ADef
  u : U
  σ : St

/-- no entry of a log is of these cells -/
noncomputable def clearB (log : List (Nat × Nat × Nat)) (b x n : Nat) : Bool := allL (fun p => Bool.rec (motive := fun _ => Bool) true (Nat.ble (Nat.add p.2.1 p.2.2) x || Nat.ble (Nat.add x n) p.2.1) (Nat.beq p.1 b)) log
def ClearC (log : List (Nat × Nat × Nat)) (b x n : Nat) : Prop := ∀ p ∈ log, p.1 = b → p.2.1 + p.2.2 ≤ x ∨ x + n ≤ p.2.1
theorem clearB_spec {log : List (Nat × Nat × Nat)} {b x n : Nat} (h : clearB log b x n = true) : ClearC log b x n := by
  intro p hp he
  have := allL_spec h p hp
  have hb : Nat.beq p.1 b = true := by rw [he]; exact Nat.beq_refl b
  rw [hb] at this
  simp only [Bool.or_eq_true] at this
  rcases this with h | h
  · exact .inl (Nat.le_of_ble_eq_true h)
  · exact .inr (Nat.le_of_ble_eq_true h)
noncomputable def noneB (log : List (Nat × Nat × Nat)) (b : Nat) : Bool := allL (fun p => !(Nat.beq p.1 b)) log
theorem noneB_spec {log : List (Nat × Nat × Nat)} {b : Nat} (h : noneB log b = true) : ∀ p ∈ log, p.1 ≠ b := by
  intro p hp he
  have := allL_spec h p hp
  rw [he, Nat.beq_refl] at this
  cases this

noncomputable def lastEff : List Tr → Option Nat := fun l => List.rec (motive := fun _ => Option Nat) none (fun s _ ih => match s.kd with | .eff _ => some s.i | _ => ih) l

/-- what is checked of an operation that keeps its order, against those before it -/
noncomputable def effB (L : List Oper) (o : Oper) (log : List (Nat × Nat × Nat)) (hist : List Tr) : Bool :=
  (match lastEff hist with | some j => ordB L o j | none => true) &&
  allL (fun s => match s.kd with | .load b x n => ordC L o s.i (clearB log b x n) | .new _ => ordC L o s.i (noneB log s.σ.next) | _ => true) hist
noncomputable def loadB (L : List Oper) (o : Oper) (b x n : Nat) (hist : List Tr) : Bool :=
  allL (fun s => match s.kd with | .eff log => ordC L o s.i (clearB log b x n) | .new _ => !(Nat.beq b s.σ.next) | _ => true) hist
/-- whether all that come behind hang on the i-th -/
noncomputable def hangB (i : Nat) (rest : List Oper) : Bool := allL (fun o => !(allL (fun e => !(Region.binds .any e && Nat.ble i e.on)) o.after.toList)) rest

def V.undefV : V := .tup []

noncomputable def junkK (L : List Oper) (tm : T V) (κ : T V → Bool) : Bool :=
  List.rec (motive := fun _ => T V → Bool) κ (fun (o : Oper) _ ih tm => match o.dst with | some d => bif Nat.blt d 512 then T.setK V.undefV V.junk dt d tm ih else false | none => ih tm) L tm
noncomputable def junkP : List Oper → T V → T V
  | [], tm => tm
  | o :: L, tm => junkP L (match o.dst with | some d => T.set V.undefV V.junk dt d tm | none => tm)
theorem junkK_eq : ∀ (L : List Oper) (tm : T V) (κ : T V → Bool), junkK L tm κ = true → κ (junkP L tm) = true ∧ ∀ o ∈ L, ∀ d, o.dst = some d → d < 2 ^ dt
  | [], tm, κ, h => ⟨h, by simp⟩
  | o :: L, tm, κ, h => by
    have h' : (match o.dst with | some d => bif Nat.blt d 512 then T.setK V.undefV V.junk dt d tm (fun tm => junkK L tm κ) else false | none => junkK L tm κ) = true := h
    cases hd : o.dst with
    | none =>
      rw [hd] at h'
      obtain ⟨h1, h2⟩ := junkK_eq L tm κ h'
      refine ⟨by simp only [junkP, hd]; exact h1, fun x hx d hxd => ?_⟩
      rcases List.mem_cons.1 hx with rfl | hx
      · rw [hd] at hxd; cases hxd
      · exact h2 x hx d hxd
    | some d =>
      rw [hd] at h'
      simp only [cond_eq_ite] at h'
      split at h'
      · rename_i hlt
        rw [T.setK_eq] at h'
        obtain ⟨h1, h2⟩ := junkK_eq L _ κ h'
        refine ⟨by simp only [junkP, hd]; exact h1, fun x hx d' hxd => ?_⟩
        rcases List.mem_cons.1 hx with rfl | hx
        · rw [hd] at hxd
          simp only [Option.some.injEq] at hxd
          subst hxd
          exact blt_lt hlt
        · exact h2 x hx d' hxd
      · cases h'

section
variable {P : Program} {ng : Nat} {C : CallT}

noncomputable def drawK (C : CallT) (ng : Nat) (tab : Tab P) (fr : Fr) (L : List Oper) (κ : OutT) (κp : List (V × Bool) → OutT) : List Oper → Nat → List Tr → OutT :=
  fun l => List.rec (motive := fun _ => Nat → List Tr → OutT) (fun _ _ => κ) (fun o rest ih i hist tm ds u σ =>
    match wantA L tm o with
    | some false => putT fr.nt o.dst (.tup []) tm fun tm' => ih (Nat.succ i) ({ i := i, o := o, kd := .skip, v := .tup [], tm := tm, ds := ds, u := u, σ := σ } :: hist) tm' ds u σ
    | some true =>
      match opClass o.op with
      | 0 => pureK tab (evalA ng tm) o.op fun v => putT fr.nt o.dst v tm fun tm' => ih (Nat.succ i) ({ i := i, o := o, kd := .quiet, v := v, tm := tm, ds := ds, u := u, σ := σ } :: hist) tm' ds u σ
      | 1 =>
        match o.op with
        | .load t y =>
          match loadO tab σ t (evalA ng tm y), loadAt? tab t (evalA ng tm y) with
          | some v, (b, x, n) =>
            bif Nat.blt b σ.next && loadB L o b x n hist then
              headV v fun v => putT fr.nt o.dst v tm fun tm' => ih (Nat.succ i) ({ i := i, o := o, kd := .load b x n, v := v, tm := tm, ds := ds, u := u, σ := σ } :: hist) tm' ds u σ
            else false
          | none, _ => false
        | _ => false
      | 2 => newO tab (evalA ng tm) o.op fun ob mk => bif obBd σ.next ob then σ.newK ob fun id σ' => headV (mk id) fun v => putT fr.nt o.dst v tm fun tm' =>
          ih (Nat.succ i) ({ i := i, o := o, kd := .new ob, v := v, tm := tm, ds := ds, u := u, σ := σ } :: hist) tm' ds u σ' else false
      | _ => bif opsBd σ.next (evalA ng tm) o then opK C ng tab fr (evalA ng tm) o.op ds u { σ with log := [] }
          (fun v ds' u' σ1 => bif effB L o σ1.log hist then putT fr.nt o.dst v tm fun tm' => lappK σ1.log σ.log fun lg =>
            ih (Nat.succ i) ({ i := i, o := o, kd := .eff σ1.log, v := v, tm := tm, ds := ds, u := u, σ := σ } :: hist) tm' ds' u' { σ1 with log := lg } else false)
          (fun ch u' σ1 => bif effB L o σ1.log hist && hangB i rest then junkK L tm fun tm' => lappK σ1.log σ.log fun lg => κp ch tm' ds u' { σ1 with log := lg } else false) else false
    | none => false) l

theorem drawK_cons {tab : Tab P} {fr : Fr} {L : List Oper} {κ : OutT} {κp : List (V × Bool) → OutT} {o : Oper} {rest : List Oper} {i : Nat} {hist : List Tr} {tm : T V} {ds : List ADef} {u : U} {σ : St} :
    drawK C ng tab fr L κ κp (o :: rest) i hist tm ds u σ = match wantA L tm o with
    | some false => putT fr.nt o.dst (.tup []) tm fun tm' => drawK C ng tab fr L κ κp rest (Nat.succ i) ({ i := i, o := o, kd := .skip, v := .tup [], tm := tm, ds := ds, u := u, σ := σ } :: hist) tm' ds u σ
    | some true =>
      match opClass o.op with
      | 0 => pureK tab (evalA ng tm) o.op fun v => putT fr.nt o.dst v tm fun tm' => drawK C ng tab fr L κ κp rest (Nat.succ i) ({ i := i, o := o, kd := .quiet, v := v, tm := tm, ds := ds, u := u, σ := σ } :: hist) tm' ds u σ
      | 1 =>
        match o.op with
        | .load t y =>
          match loadO tab σ t (evalA ng tm y), loadAt? tab t (evalA ng tm y) with
          | some v, (b, x, n) =>
            bif Nat.blt b σ.next && loadB L o b x n hist then
              headV v fun v => putT fr.nt o.dst v tm fun tm' => drawK C ng tab fr L κ κp rest (Nat.succ i) ({ i := i, o := o, kd := .load b x n, v := v, tm := tm, ds := ds, u := u, σ := σ } :: hist) tm' ds u σ
            else false
          | none, _ => false
        | _ => false
      | 2 => newO tab (evalA ng tm) o.op fun ob mk => bif obBd σ.next ob then σ.newK ob fun id σ' => headV (mk id) fun v => putT fr.nt o.dst v tm fun tm' =>
          drawK C ng tab fr L κ κp rest (Nat.succ i) ({ i := i, o := o, kd := .new ob, v := v, tm := tm, ds := ds, u := u, σ := σ } :: hist) tm' ds u σ' else false
      | _ => bif opsBd σ.next (evalA ng tm) o then opK C ng tab fr (evalA ng tm) o.op ds u { σ with log := [] }
          (fun v ds' u' σ1 => bif effB L o σ1.log hist then putT fr.nt o.dst v tm fun tm' => lappK σ1.log σ.log fun lg =>
            drawK C ng tab fr L κ κp rest (Nat.succ i) ({ i := i, o := o, kd := .eff σ1.log, v := v, tm := tm, ds := ds, u := u, σ := σ } :: hist) tm' ds' u' { σ1 with log := lg } else false)
          (fun ch u' σ1 => bif effB L o σ1.log hist && hangB i rest then junkK L tm fun tm' => lappK σ1.log σ.log fun lg => κp ch tm' ds u' { σ1 with log := lg } else false) else false
    | none => false := rfl

open Classical in
/-- what an operation looks at; of all else nothing is known -/
noncomputable def restr (o : Oper) (ρ : Operand → V) (x : Operand) : V := if x ∈ o.op.operands then ρ x else .junk
theorem restr_eq {o : Oper} {ρ : Operand → V} : ∀ x ∈ o.op.operands, ρ x = restr o ρ x := by
  intro x hx
  simp [restr, hx]

def Want (L : List Oper) (s : Tr) : Prop := wantA L s.tm s.o = some true

def StepOk (P : Program) (ng : Nat) (tab : Tab P) (fr : Fr) (L : List Oper) (s : Tr) (tm' : T V) (ds' : List ADef) (u' : U) (σ' : St) : Prop :=
  L[s.i]? = some s.o ∧ tm' = putP s.o.dst s.v s.tm ∧ (∀ d, s.o.dst = some d → d < fr.nt ∧ d < 2 ^ dt) ∧ AWf s.σ ∧ AWf σ' ∧
  match s.kd with
  | .skip => wantA L s.tm s.o = some false ∧ s.v = .tup [] ∧ ds' = s.ds ∧ u' = s.u ∧ σ' = s.σ
  | .quiet => Want L s ∧ (∀ c, s.o.op ≠ .defer c) ∧ pureA tab (evalA ng s.tm) s.o.op = some s.v ∧ ds' = s.ds ∧ u' = s.u ∧ σ' = s.σ
  | .load b x n => Want L s ∧ (∃ t y, s.o.op = .load t y ∧ loadO tab s.σ t (evalA ng s.tm y) = some s.v ∧ loadAt? tab t (evalA ng s.tm y) = (b, x, n)) ∧ b < s.σ.next ∧ ds' = s.ds ∧ u' = s.u ∧ σ' = s.σ
  | .new ob => Want L s ∧ (∀ c, s.o.op ≠ .defer c) ∧ (∃ mk, NewOk P (restr s.o (evalA ng s.tm)) s.o ob mk ∧ s.v = mk s.σ.next) ∧ obBd s.σ.next ob = true ∧ s.σ.next < 2 ^ dh ∧ ds' = s.ds ∧ u' = s.u ∧ σ' = s.σ.more ob
  | .eff log => Want L s ∧ opsBd s.σ.next (evalA ng s.tm) s.o = true ∧ ∃ σ1, σ' = { σ1 with log := log ++ s.σ.log } ∧ σ1.log = log ∧ AExt { s.σ with log := [] } σ1 ∧ OpOk P ng fr (restr s.o (evalA ng s.tm)) s.o s.ds s.u { s.σ with log := [] } s.v ds' u' σ1

def PairOk (L : List Oper) (s h : Tr) : Prop :=
  match s.kd, h.kd with
  | .eff log, .load b x n => ordB L s.o h.i = true ∨ ClearC log b x n
  | .eff log, .new _ => ordB L s.o h.i = true ∨ ∀ p ∈ log, p.1 ≠ h.σ.next
  | .load b x n, .eff log => ordB L s.o h.i = true ∨ ClearC log b x n
  | .load b _ _, .new _ => b ≠ h.σ.next
  | _, _ => True

def ChainOk (L : List Oper) (s : Tr) (hist : List Tr) : Prop :=
  match s.kd with
  | .eff _ => ∀ j, lastEff hist = some j → ordB L s.o j = true
  | _ => True

inductive HistOk (P : Program) (ng : Nat) (tab : Tab P) (fr : Fr) (L : List Oper) (tm0 : T V) (ds0 : List ADef) (u0 : U) (σ0 : St) : List Tr → T V → List ADef → U → St → Prop
  | nil : HistOk P ng tab fr L tm0 ds0 u0 σ0 [] tm0 ds0 u0 σ0
  | cons {hist : List Tr} {s : Tr} {tm' : T V} {ds' : List ADef} {u' : U} {σ' : St} : HistOk P ng tab fr L tm0 ds0 u0 σ0 hist s.tm s.ds s.u s.σ → s.i = hist.length → StepOk P ng tab fr L s tm' ds' u' σ' → (∀ h ∈ hist, PairOk L s h) → ChainOk L s hist →
      HistOk P ng tab fr L tm0 ds0 u0 σ0 (s :: hist) tm' ds' u' σ'

theorem StepOk.aext {tab : Tab P} {fr : Fr} {L : List Oper} {s : Tr} {tm' : T V} {ds' : List ADef} {u' : U} {σ' : St} (h : StepOk P ng tab fr L s tm' ds' u' σ') : AExt s.σ σ' := by
  obtain ⟨_, _, _, h4, h5, h6⟩ := h
  cases hk : s.kd <;> rw [hk] at h6 <;> simp only at h6
  · obtain ⟨_, _, _, _, rfl⟩ := h6; exact .refl _
  · obtain ⟨_, _, _, _, _, rfl⟩ := h6; exact .refl _
  · obtain ⟨_, _, _, _, _, rfl⟩ := h6; exact .refl _
  · obtain ⟨_, _, _, _, hlt, _, _, rfl⟩ := h6; exact (AExt.more h4 hlt _).2
  · obtain ⟨_, _, σ1, rfl, rfl, hx, _⟩ := h6
    refine ⟨hx.next, fun p hp _ => List.mem_append_right _ hp, fun i n hi hc => hx.looks i n hi fun p hp => hc p (List.mem_append_left _ hp), fun i hi hc => hx.keeps i hi fun p hp => hc p (List.mem_append_left _ hp)⟩

theorem HistOk.aext {tab : Tab P} {fr : Fr} {L : List Oper} {tm0 : T V} {ds0 : List ADef} {u0 : U} {σ0 : St} {hist : List Tr} {tm' : T V} {ds' : List ADef} {u' : U} {σ' : St} (h : HistOk P ng tab fr L tm0 ds0 u0 σ0 hist tm' ds' u' σ') : AExt σ0 σ' := by
  induction h with
  | nil => exact .refl _
  | cons h _ hs _ _ ih => exact ih.trans hs.aext

theorem opClass_defer {op : Op} (h : opClass op ≠ 3) : ∀ c, op ≠ .defer c := by
  intro c he
  subst he
  exact h rfl

/-- what the run in the order of the text comes to -/
theorem drawK_sound {tab : Tab P} (hC : CallOk P ng C) {fr : Fr} {L : List Oper} {κ : OutT} {κp : List (V × Bool) → OutT} {tm0 : T V} {ds0 : List ADef} {u0 : U} {σ0 : St} : ∀ (l : List Oper) (hist : List Tr) (tm : T V) (ds : List ADef) (u : U) (σ : St),
    L.drop hist.length = l → AWf σ → HistOk P ng tab fr L tm0 ds0 u0 σ0 hist tm ds u σ → drawK C ng tab fr L κ κp l hist.length hist tm ds u σ = true →
    (∃ hist' tm' ds' u' σ', κ tm' ds' u' σ' = true ∧ AWf σ' ∧ hist'.length = L.length ∧ HistOk P ng tab fr L tm0 ds0 u0 σ0 hist' tm' ds' u' σ') ∨
    (∃ hist' tm1 ds1 u1 σ1 o ch u' σ', κp ch (junkP L tm1) ds1 u' { σ' with log := σ'.log ++ σ1.log } = true ∧ AWf σ' ∧ HistOk P ng tab fr L tm0 ds0 u0 σ0 hist' tm1 ds1 u1 σ1 ∧ AWf σ1 ∧ L[hist'.length]? = some o ∧ wantA L tm1 o = some true ∧ opsBd σ1.next (evalA ng tm1) o = true ∧
      AExt { σ1 with log := [] } σ' ∧ OpPan P ng fr (restr o (evalA ng tm1)) o u1 { σ1 with log := [] } ch u' σ' ∧
      (∀ h ∈ hist', match h.kd with | .load b x n => ordB L o h.i = true ∨ ClearC σ'.log b x n | .new _ => ordB L o h.i = true ∨ ∀ p ∈ σ'.log, p.1 ≠ h.σ.next | _ => True) ∧
      (∀ j, lastEff hist' = some j → ordB L o j = true) ∧ (∀ q oq, hist'.length < q → L[q]? = some oq → ∃ e ∈ oq.after, Region.binds .any e = true ∧ hist'.length ≤ e.on) ∧ ∀ o ∈ L, ∀ d, o.dst = some d → d < 2 ^ dt) := by
  intro l
  induction l with
  | nil =>
    intro hist tm ds u σ hl hwf hh h
    left
    refine ⟨hist, tm, ds, u, σ, h, hwf, ?_, hh⟩
    have hle : L.length ≤ hist.length := List.drop_eq_nil_iff.1 hl
    have hge : hist.length ≤ L.length := by
      cases hh with
      | nil => exact Nat.zero_le _
      | cons _ hi hs _ _ =>
        have := (List.getElem?_eq_some_iff.1 hs.1).1
        rw [hi] at this
        show _ + 1 ≤ _
        exact this
    omega
  | cons o rest ih =>
    intro hist tm ds u σ hl hwf hh h
    have ho : L[hist.length]? = some o := by rw [← List.head?_drop, hl]; rfl
    have hl' : L.drop (hist.length + 1) = rest := by rw [← List.drop_drop, hl]; rfl
    rw [drawK_cons] at h
    -- one step more of the record
    have more : ∀ (s : Tr) tm' ds' u' σ', s.i = hist.length → s.tm = tm → s.ds = ds → s.u = u → s.σ = σ → StepOk P ng tab fr L s tm' ds' u' σ' → (∀ h ∈ hist, PairOk L s h) → ChainOk L s hist → drawK C ng tab fr L κ κp rest (Nat.succ hist.length) (s :: hist) tm' ds' u' σ' = true → _ :=
      fun s tm' ds' u' σ' hi e1 e2 e3 e4 hs hp hc hk => ih (s :: hist) tm' ds' u' σ' hl' hs.2.2.2.2.1 (.cons (by rw [e1, e2, e3, e4]; exact hh) hi hs hp hc) hk
    split at h
    · rename_i hw
      obtain ⟨h1, h2⟩ := putT_eq h
      refine more { i := hist.length, o := o, kd := .skip, v := .tup [], tm := tm, ds := ds, u := u, σ := σ } _ _ _ _ rfl rfl rfl rfl rfl ⟨ho, rfl, h2, hwf, hwf, hw, rfl, rfl, rfl, rfl⟩ (fun h _ => ?_) trivial h1
      trivial
    · rename_i hw
      split at h
      · rename_i hcl
        obtain ⟨v, h1, h2⟩ := pureK_pureA h
        obtain ⟨h3, h4⟩ := putT_eq h2
        refine more { i := hist.length, o := o, kd := .quiet, v := v, tm := tm, ds := ds, u := u, σ := σ } _ _ _ _ rfl rfl rfl rfl rfl ⟨ho, rfl, h4, hwf, hwf, hw, opClass_defer (by rw [hcl]; decide), h1, rfl, rfl, rfl⟩ (fun h _ => ?_) trivial h3
        trivial
      · split at h
        · rename_i t y hop
          split at h
          · rename_i v b x n hld hat
            rw [cond_eq_ite] at h
            split at h
            · rename_i hc0
              have hc := Bool.and_eq_true_iff.1 hc0
              rw [headV_eq] at h
              obtain ⟨h3, h4⟩ := putT_eq h
              refine more { i := hist.length, o := o, kd := .load b x n, v := v, tm := tm, ds := ds, u := u, σ := σ } _ _ _ _ rfl rfl rfl rfl rfl ⟨ho, rfl, h4, hwf, hwf, hw, ⟨t, y, hop, hld, hat⟩, blt_lt hc.1, rfl, rfl, rfl⟩ (fun h hm => ?_) trivial h3
              have := allL_spec hc.2 h hm
              cases hk : h.kd <;> simp only [PairOk, hk]
              · rw [hk] at this
                intro he
                rw [he] at this
                simp [Nat.beq_refl] at this
              · rw [hk] at this
                exact orMap clearB_spec (ordC_spec this)
            · cases h
          · cases h
        · cases h
      · rename_i hcl
        obtain ⟨ob, mk, h1, h2⟩ := newO_ok (o := { o with }) (ρ := restr o (evalA ng tm)) (P := P) (tab := tab) (by
          rw [← newO_congr (tab := tab) o.op _ (restr_eq (o := o) (ρ := evalA ng tm))]; exact h)
        rw [cond_eq_ite] at h1
        split at h1 <;> first | (cases h1; done) | skip
        rename_i hbd
        obtain ⟨h3, h4⟩ := newK_eq h1
        rw [headV_eq] at h4
        obtain ⟨h5, h6⟩ := putT_eq h4
        refine more { i := hist.length, o := o, kd := .new ob, v := mk σ.next, tm := tm, ds := ds, u := u, σ := σ } _ _ _ _ rfl rfl rfl rfl rfl ⟨ho, rfl, h6, hwf, (AExt.more hwf h3 ob).1, hw, opClass_defer (by rw [hcl]; decide), ⟨mk, h2, rfl⟩, hbd, h3, rfl, rfl, rfl⟩ (fun h _ => ?_) trivial h5
        trivial
      · have hwf0 : AWf { σ with log := [] } := ⟨hwf.next, hwf.fresh⟩
        rw [cond_eq_ite] at h
        split at h <;> first | (cases h; done) | skip
        rename_i hbd
        rw [opK_congr fr o.op _ _ _ _ _ (restr_eq (o := o) (ρ := evalA ng tm))] at h
        rcases opK_sound hC hwf0 h with ⟨v, ds', u', σ1, h1, h2, h3, h4⟩ | ⟨ch, u', σ1, h1, h2, h3, h4⟩
        · rw [cond_eq_ite] at h1
          split at h1
          · rename_i he
            obtain ⟨h5, h6⟩ := putT_eq h1
            rw [lappK_eq] at h5
            have he' := Bool.and_eq_true_iff.1 he
            refine more { i := hist.length, o := o, kd := .eff σ1.log, v := v, tm := tm, ds := ds, u := u, σ := σ } _ _ _ { σ1 with log := σ1.log ++ σ.log } rfl rfl rfl rfl rfl ⟨ho, rfl, h6, hwf, ⟨h2.next, h2.fresh⟩, hw, hbd, σ1, rfl, rfl, h3, h4⟩ (fun h hm => ?_) ?_ h5
            · have := allL_spec he'.2 h hm
              cases hk : h.kd <;> simp only [PairOk, hk]
              · rw [hk] at this
                exact orMap clearB_spec (ordC_spec this)
              · rw [hk] at this
                exact orMap noneB_spec (ordC_spec this)
            · intro j hj
              have := he'.1
              rw [hj] at this
              exact this
          · cases h1
        · right
          rw [cond_eq_ite] at h1
          split at h1
          · rename_i he0
            have he1 := Bool.and_eq_true_iff.1 he0
            have he := Bool.and_eq_true_iff.1 he1.1
            obtain ⟨h1, hjd⟩ := junkK_eq _ _ _ h1
            rw [lappK_eq] at h1
            refine ⟨hist, tm, ds, u, σ, o, ch, u', σ1, h1, h2, hh, hwf, ho, hw, hbd, h3, h4, ?_, ?_, ?_, hjd⟩
            · intro h hm
              have := allL_spec he.2 h hm
              cases hk : h.kd <;> simp only
              · rw [hk] at this
                exact orMap clearB_spec (ordC_spec this)
              · rw [hk] at this
                exact orMap noneB_spec (ordC_spec this)
            · intro j hj
              have := he.1
              rw [hj] at this
              exact this
            · intro q oq hq hoq
              have hmem : oq ∈ rest := by
                rw [← hl']
                refine List.mem_iff_getElem?.2 ⟨q - (hist.length + 1), ?_⟩
                rw [List.getElem?_drop, ← hoq]
                congr 1
                omega
              have hall0 := allL_spec he1.2 oq hmem
              simp only [Bool.not_eq_true'] at hall0
              by_cases hall : ∃ e ∈ oq.after, Region.binds .any e = true ∧ hist.length ≤ e.on
              · exact hall
              · exfalso
                have : allL (fun e => !(Region.binds .any e && Nat.ble hist.length e.on)) oq.after.toList = true := by
                  have key : ∀ l : List Edge, (∀ e ∈ l, ¬ (Region.binds .any e = true ∧ hist.length ≤ e.on)) → allL (fun e => !(Region.binds .any e && Nat.ble hist.length e.on)) l = true := by
                    intro l
                    induction l with
                    | nil => intro _; rfl
                    | cons e l ih2 =>
                      intro hn
                      have h0 := hn e (by simp)
                      show Bool.rec (motive := fun _ => Bool) false (allL _ l) (!(Region.binds .any e && Nat.ble hist.length e.on)) = true
                      have : (Region.binds .any e && Nat.ble hist.length e.on) = false := by
                        cases hb : Region.binds .any e with
                        | false => rfl
                        | true =>
                          cases hle : Nat.ble hist.length e.on with
                          | false => rfl
                          | true => exact absurd ⟨hb, Nat.le_of_ble_eq_true hle⟩ h0
                      rw [this]
                      exact ih2 fun x hx => hn x (by simp [hx])
                  exact key _ fun e he => fun hc => hall ⟨e, by simpa using he, hc⟩
                rw [this] at hall0
                cases hall0
          · cases h1
    · cases h
end
end Go.Proofs.YtdolijagffcfgaaGreatDoor.Ev

/-
  The record of a drawn region, by numbers; what its static check gives; how the machine draws an order.
-/
namespace Go.Proofs.YtdolijagffcfgaaGreatDoor.Ev
section
variable {P : Program} {ng : Nat}

def Tr.isEff (s : Tr) : Prop := ∃ log, s.kd = .eff log
def Tr.isNew (s : Tr) (ob : Ob) : Prop := s.kd = .new ob

structure Rec (P : Program) (ng : Nat) (tab : Tab P) (fr : Fr) (L : List Oper) (N : Nat) (R : Nat → Tr) (tm : Nat → T V) (ds : Nat → List ADef) (u : Nat → U) (σ : Nat → St) : Prop where
  idx : ∀ i, i < N → (R i).i = i ∧ (R i).tm = tm i ∧ (R i).ds = ds i ∧ (R i).u = u i ∧ (R i).σ = σ i
  step : ∀ i, i < N → StepOk P ng tab fr L (R i) (tm (i + 1)) (ds (i + 1)) (u (i + 1)) (σ (i + 1))
  pair : ∀ j i, j < i → i < N → PairOk L (R i) (R j)
  chain : ∀ j i, j < i → i < N → (R i).isEff → (R j).isEff → (∀ k, j < k → k < i → ¬ (R k).isEff) → ordB L (R i).o j = true

theorem HistOk.record {tab : Tab P} {fr : Fr} {L : List Oper} {tm0 : T V} {ds0 : List ADef} {u0 : U} {σ0 : St} {hist : List Tr} {tm' : T V} {ds' : List ADef} {u' : U} {σ' : St} (h : HistOk P ng tab fr L tm0 ds0 u0 σ0 hist tm' ds' u' σ') (hwf : AWf σ0) :
    ∃ (R : Nat → Tr) (tm : Nat → T V) (ds : Nat → List ADef) (u : Nat → U) (σ : Nat → St), Rec P ng tab fr L hist.length R tm ds u σ ∧ tm 0 = tm0 ∧ ds 0 = ds0 ∧ u 0 = u0 ∧ σ 0 = σ0 ∧
      tm hist.length = tm' ∧ ds hist.length = ds' ∧ u hist.length = u' ∧ σ hist.length = σ' ∧ (∀ i, i ≤ hist.length → AWf (σ i)) ∧ (∀ i, i < hist.length → R i ∈ hist) ∧
      (∀ j, j < hist.length → (R j).isEff → (∀ k, j < k → k < hist.length → ¬ (R k).isEff) → lastEff hist = some j) := by
  induction h with
  | nil => exact ⟨fun _ => ⟨0, default, .skip, .junk, tm0, ds0, u0, σ0⟩, fun _ => tm0, fun _ => ds0, fun _ => u0, fun _ => σ0, ⟨by simp, by simp, by simp, by simp⟩, rfl, rfl, rfl, rfl, rfl, rfl, rfl, rfl, fun _ _ => hwf, by simp, by simp⟩
  | @cons hist s tm' ds' u' σ' h hi hs hp hc ih =>
    obtain ⟨R, tm, ds, u, σ, hR, a1, a2, a3, a4, b1, b2, b3, b4, hw, hm, hl⟩ := ih
    let N := hist.length
    let R' : Nat → Tr := fun i => if i = N then s else R i
    let tm2 : Nat → T V := fun i => if i ≤ N then tm i else tm'
    let ds2 : Nat → List ADef := fun i => if i ≤ N then ds i else ds'
    let u2 : Nat → U := fun i => if i ≤ N then u i else u'
    let σ2 : Nat → St := fun i => if i ≤ N then σ i else σ'
    have eR : ∀ i, i < N → R' i = R i := fun i h => if_neg (Nat.ne_of_lt h)
    have eN : R' N = s := if_pos rfl
    have et : ∀ i, i ≤ N → tm2 i = tm i := fun i h => if_pos h
    have ed : ∀ i, i ≤ N → ds2 i = ds i := fun i h => if_pos h
    have eu : ∀ i, i ≤ N → u2 i = u i := fun i h => if_pos h
    have es : ∀ i, i ≤ N → σ2 i = σ i := fun i h => if_pos h
    have et' : tm2 (N + 1) = tm' := if_neg (by omega)
    have ed' : ds2 (N + 1) = ds' := if_neg (by omega)
    have eu' : u2 (N + 1) = u' := if_neg (by omega)
    have es' : σ2 (N + 1) = σ' := if_neg (by omega)
    have hlen : (s :: hist).length = N + 1 := rfl
    refine ⟨R', tm2, ds2, u2, σ2, ⟨?_, ?_, ?_, ?_⟩, ?_, ?_, ?_, ?_, ?_, ?_, ?_, ?_, ?_, ?_, ?_⟩
    · intro i hiN
      rw [hlen] at hiN
      rcases Nat.lt_or_ge i N with h1 | h1
      · rw [eR i h1, et i (by omega), ed i (by omega), eu i (by omega), es i (by omega)]
        exact hR.idx i h1
      · have : i = N := by omega
        subst this
        rw [eN, et _ (Nat.le_refl _), ed _ (Nat.le_refl _), eu _ (Nat.le_refl _), es _ (Nat.le_refl _)]
        exact ⟨hi, b1.symm, b2.symm, b3.symm, b4.symm⟩
    · intro i hiN
      rw [hlen] at hiN
      rcases Nat.lt_or_ge i N with h1 | h1
      · rw [eR i h1, et (i + 1) (by omega), ed (i + 1) (by omega), eu (i + 1) (by omega), es (i + 1) (by omega)]
        exact hR.step i h1
      · have : i = N := by omega
        subst this
        rw [eN, et', ed', eu', es']
        exact hs
    · intro j i hji hiN
      rw [hlen] at hiN
      rcases Nat.lt_or_ge i N with h1 | h1
      · rw [eR i h1, eR j (by omega)]
        exact hR.pair j i hji h1
      · have : i = N := by omega
        subst this
        rw [eN, eR j hji]
        exact hp _ (hm j hji)
    · intro j i hji hiN he1 he2 hno
      rw [hlen] at hiN
      rcases Nat.lt_or_ge i N with h1 | h1
      · rw [eR i h1] at he1 ⊢
        rw [eR j (by omega)] at he2
        exact hR.chain j i hji h1 he1 he2 fun k k1 k2 => by have := hno k k1 k2; rwa [eR k (by omega)] at this
      · have : i = N := by omega
        subst this
        rw [eN] at he1 ⊢
        rw [eR j hji] at he2
        obtain ⟨log, hlog⟩ := he1
        have hlast := hl j hji he2 fun k k1 k2 => by have := hno k k1 k2; rwa [eR k k2] at this
        unfold ChainOk at hc
        rw [hlog] at hc
        exact hc j hlast
    · rw [et 0 (Nat.zero_le _)]; exact a1
    · rw [ed 0 (Nat.zero_le _)]; exact a2
    · rw [eu 0 (Nat.zero_le _)]; exact a3
    · rw [es 0 (Nat.zero_le _)]; exact a4
    · exact et'
    · exact ed'
    · exact eu'
    · exact es'
    · intro i hiN
      rw [hlen] at hiN
      rcases Nat.lt_or_ge i (N + 1) with h1 | h1
      · rw [es i (by omega)]; exact hw i (by show i ≤ N; omega)
      · have : i = N + 1 := by omega
        rw [this, es']; exact hs.2.2.2.2.1
    · intro i hiN
      rw [hlen] at hiN
      rcases Nat.lt_or_ge i N with h1 | h1
      · rw [eR i h1]; exact List.mem_cons_of_mem _ (hm i h1)
      · have : i = N := by omega
        rw [this, eN]; simp
    · intro j hjN he hno
      rw [hlen] at hjN hno
      rcases Nat.lt_or_ge j N with h1 | h1
      · have hns : ¬ s.isEff := by have := hno N h1 (Nat.lt_succ_self _); rwa [eN] at this
        have hlast := hl j h1 (by rwa [eR j h1] at he) fun k k1 k2 => by have := hno k k1 (by show k < N + 1; omega); rwa [eR k k2] at this
        show (match s.kd with | .eff _ => some s.i | _ => lastEff hist) = some j
        cases hk : s.kd with
        | eff log => exact absurd ⟨log, hk⟩ hns
        | _ => exact hlast
      · have : j = N := by omega
        subst this
        rw [eN] at he
        obtain ⟨log, hlog⟩ := he
        show (match s.kd with | .eff _ => some s.i | _ => lastEff hist) = some _
        rw [hlog]
        exact congrArg some hi

/-! ### the static check -/
theorem staticB_back {L : List Oper} (h : staticB L = true) {i : Nat} {o : Oper} (ho : L[i]? = some o) : ∀ e ∈ o.after, Region.binds .any e = true → e.on < i := by
  intro e he hb
  unfold staticB at h
  rw [List.all_eq_true] at h
  have hm : (o, i) ∈ L.zipIdx := by rw [List.mem_zipIdx_iff_getElem?]; exact ho
  have := h _ hm
  simp only [Bool.and_eq_true, List.all_eq_true] at this
  have h1 := this.1 e (by simpa using he)
  rw [hb] at h1
  simp only [Bool.not_true, Bool.false_or] at h1
  exact blt_lt h1

theorem staticB_pair {L : List Oper} (h : staticB L = true) {i j : Nat} {oi oj : Oper} (hi : L[i]? = some oi) (hj : L[j]? = some oj) (hji : j < i) :
    (∀ d d', oi.dst = some d → oj.dst = some d' → d ≠ d') ∧ (∀ d, oj.dst = some d → d ∈ looksA L oi → ordB L oi j = true) ∧ (∀ d, oi.dst = some d → d ∈ looksA L oj → ordB L oi j = true) := by
  unfold staticB at h
  rw [List.all_eq_true] at h
  have hm : (oi, i) ∈ L.zipIdx := by rw [List.mem_zipIdx_iff_getElem?]; exact hi
  have hm2 : (oj, j) ∈ L.zipIdx := by rw [List.mem_zipIdx_iff_getElem?]; exact hj
  have := h _ hm
  simp only [Bool.and_eq_true, List.all_eq_true] at this
  have h1 := this.2 _ hm2
  have hlt : Nat.blt j i = true := Nat.ble_eq_true_of_le hji
  simp only [hlt, Bool.not_true, Bool.false_or] at h1
  unfold pairB at h1
  simp only [Bool.and_eq_true] at h1
  obtain ⟨⟨g1, g2⟩, g3⟩ := h1
  refine ⟨fun d d' hd hd' => ?_, fun d hd hl => ?_, fun d hd hl => ?_⟩
  · rw [hd, hd'] at g1
    intro he
    rw [he] at g1
    simp [Nat.beq_refl] at g1
  · rw [hd] at g2
    simp only at g2
    have hc : (looksA L oi).contains d = true := by simpa using hl
    rw [hc] at g2
    simpa using g2
  · rw [hd] at g3
    simp only at g3
    have hc : (looksA L oj).contains d = true := by simpa using hl
    rw [hc] at g3
    simpa using g3
end
end Go.Proofs.YtdolijagffcfgaaGreatDoor.Ev

/-
  Every order of a drawn region comes to the same: what holds between two operations.
-/
namespace Go.Proofs.YtdolijagffcfgaaGreatDoor.Ev

theorem at_more (σ : St) (ob : Ob) (hlt : σ.next < 2 ^ dh) (i : Nat) (hi : i < 2 ^ dh) : (σ.more ob).at i = if i = σ.next then ob else σ.at i :=
  St.at_put σ σ.next i ob hlt hi

theorem OR.cut {e : Env} {n n' : Nat} {ob : Ob} {i : Nat} {o : Obj} (h : OR e ob i o) (hb : obBd n ob = true) (hn : n ≤ n') : OR (e.cut n') ob i o := by
  cases ob <;> first | (cases hb; done) | skip
  · rename_i ty vs sp fz
    obtain ⟨c, fr, pre, post, h1, h2, h3, h4, h5⟩ := h
    refine ⟨c, fr, pre, post, h1, h2, ?_, h4, h5⟩
    have key : ∀ l : List V, (∀ x ∈ l, V.bd n x = true) → V.bds n l = true := by
      intro l
      induction l with
      | nil => intro _; rfl
      | cons v l ih =>
        intro hl
        simp only [V.bds, Bool.and_eq_true]
        exact ⟨hl v (by simp), ih fun x hx => hl x (by simp [hx])⟩
    have hbs : V.bds n vs = true := key vs fun x hx => allL_spec (l := vs) hb x hx
    exact VRs.mono (Env.cut_mono (.refl e) hn) _ _ (VRs.cut _ _ hbs h3)
  · rename_i es clock
    cases es with
    | cons _ _ => cases hb
    | nil =>
      obtain ⟨xs, h1, h2⟩ := h
      refine ⟨xs, h1, ?_⟩
      cases hx : xs.toList with
      | nil => trivial
      | cons _ _ => rw [hx] at h2; exact h2.elim

section
variable {ng base : Nat}

/-- a quiet allocation that was not made yet -/
theorem Rel.moreOut {e : Env} {σ : St} {w : World} (h : Rel ng base (e.cut σ.next) σ w) (hlt : σ.next < 2 ^ dh) (ob : Ob) (hn : ¬ e.M σ.next) : Rel ng base (e.cut (σ.more ob).next) (σ.more ob) w := by
  have hM : ∀ i, (e.cut (σ.next + 1)).M i → (e.cut σ.next).M i := fun i hi => ⟨hi.1, by
    have h2 := hi.2
    rcases Nat.lt_or_ge i σ.next with h' | h'
    · exact h'
    · have : i = σ.next := by omega
      rw [this] at hi; exact absurd hi.1 hn⟩
  have hat : ∀ i, (e.cut (σ.next + 1)).M i → (σ.more ob).at i = σ.at i := fun i hi => by
    rw [at_more σ ob hlt i (h.ltM (hM i hi)), if_neg (Nat.ne_of_lt (hM i hi).2)]
  refine ⟨hlt, fun i hi => hi.2, fun i hi => h.there i (hM i hi), fun i hi hno => ?_, fun i j hi hj hni hnj => ?_, fun i hi => h.own i (hM i hi), ?_⟩
  · rw [hat i hi] at hno ⊢
    obtain ⟨o, h1, h2⟩ := h.obj i (hM i hi) hno
    exact ⟨o, h1, h2.mono (Env.cut_mono (.refl e) (Nat.le_succ _)) (hM i hi)⟩
  · rw [hat i hi] at hni
    rw [hat j hj] at hnj
    exact h.inj i j (hM i hi) (hM j hj) hni hnj
  · exact (AExt.more h.awf hlt ob).1.fresh

/-- .. and one that was made ahead -/
theorem Rel.moreIn {e : Env} {σ : St} {w : World} (h : Rel ng base (e.cut σ.next) σ w) (hlt : σ.next < 2 ^ dh) (ob : Ob) {o : Obj} (hb : base ≤ e.blk σ.next) (ho : w.heap[e.blk σ.next]? = some o) (hor : OR (e.cut (σ.next + 1)) ob σ.next o)
    (hap : ∀ i, (e.cut σ.next).M i → (σ.at i).isNo = false → e.blk i ≠ e.blk σ.next) : Rel ng base (e.cut (σ.more ob).next) (σ.more ob) w := by
  have hM : ∀ i, (e.cut (σ.next + 1)).M i → i ≠ σ.next → (e.cut σ.next).M i := fun i hi hne => ⟨hi.1, by have h2 := hi.2; show i < σ.next; omega⟩
  have hlt2 : ∀ i, (e.cut (σ.next + 1)).M i → i < 2 ^ dh := fun i hi => by
    by_cases he : i = σ.next
    · rw [he]; exact hlt
    · exact h.ltM (hM i hi he)
  refine ⟨hlt, fun i hi => hi.2, fun i hi => ?_, fun i hi hno => ?_, fun i j hi hj hni hnj he => ?_, fun i hi hg => ?_, ?_⟩
  · by_cases he : i = σ.next
    · rw [he]; exact (Array.getElem?_eq_some_iff.1 ho).1
    · exact h.there i (hM i hi he)
  · rw [at_more σ ob hlt i (hlt2 i hi)] at hno ⊢
    by_cases he : i = σ.next
    · rw [if_pos he, he]
      exact ⟨o, ho, hor⟩
    · rw [if_neg he] at hno ⊢
      obtain ⟨x, h1, h2⟩ := h.obj i (hM i hi he) hno
      exact ⟨x, h1, h2.mono (Env.cut_mono (.refl e) (Nat.le_succ _)) (hM i hi he)⟩
  · rw [at_more σ ob hlt i (hlt2 i hi)] at hni
    rw [at_more σ ob hlt j (hlt2 j hj)] at hnj
    by_cases hei : i = σ.next
    · by_cases hej : j = σ.next
      · omega
      · rw [if_neg hej] at hnj
        exact absurd (hei ▸ he).symm (hap j (hM j hj hej) hnj)
    · rw [if_neg hei] at hni
      by_cases hej : j = σ.next
      · exact absurd (hej ▸ he) (hap i (hM i hi hei) hni)
      · rw [if_neg hej] at hnj
        exact h.inj i j (hM i hi hei) (hM j hj hej) hni hnj he
  · by_cases he : i = σ.next
    · rw [he]; exact hb
    · exact h.own i (hM i hi he) hg
  · exact (AExt.more h.awf hlt ob).1.fresh
end

section
variable {P : Program} {ng base : Nat} {tab : Tab P} {fr : Fr} {L : List Oper} {N : Nat} {R : Nat → Tr} {tm : Nat → T V} {ds : Nat → List ADef} {u : Nat → U} {σ : Nat → St}

theorem Rec.sig (hR : Rec P ng tab fr L N R tm ds u σ) {i : Nat} (hi : i < N) : (R i).σ = σ i := (hR.idx i hi).2.2.2.2
theorem Rec.aext (hR : Rec P ng tab fr L N R tm ds u σ) {i : Nat} (hi : i < N) : AExt (σ i) (σ (i + 1)) := by
  have := (hR.step i hi).aext
  rwa [hR.sig hi] at this
theorem Rec.next (hR : Rec P ng tab fr L N R tm ds u σ) {i : Nat} : ∀ {j : Nat}, i ≤ j → j ≤ N → (σ i).next ≤ (σ j).next := by
  intro j
  induction j with
  | zero => intro h _; have : i = 0 := by omega
            rw [this]; exact Nat.le_refl _
  | succ j ih =>
    intro h hN
    rcases Nat.lt_or_ge i (j + 1) with h1 | h1
    · exact Nat.le_trans (ih (by omega) (by omega)) (hR.aext (by omega)).next
    · have : i = j + 1 := by omega
      rw [this]; exact Nat.le_refl _

/-- a step that is not ordered leaves what is, and the deferred calls -/
theorem Rec.calm (hR : Rec P ng tab fr L N R tm ds u σ) {i : Nat} (hi : i < N) (hne : ¬ (R i).isEff) : ds (i + 1) = ds i ∧ u (i + 1) = u i ∧ (σ (i + 1) = σ i ∨ ∃ ob, (R i).kd = .new ob ∧ (σ i).next < 2 ^ dh ∧ obBd (σ i).next ob = true ∧ ob.isNo = false ∧ σ (i + 1) = (σ i).more ob) := by
  obtain ⟨_, _, e3, e4, e5⟩ := hR.idx i hi
  obtain ⟨_, _, _, _, _, h6⟩ := hR.step i hi
  cases hk : (R i).kd <;> rw [hk] at h6 <;> simp only at h6
  · obtain ⟨_, _, h1, h2, h3⟩ := h6; exact ⟨h1.trans e3, h2.trans e4, .inl (h3.trans e5)⟩
  · obtain ⟨_, _, _, h1, h2, h3⟩ := h6; exact ⟨h1.trans e3, h2.trans e4, .inl (h3.trans e5)⟩
  · obtain ⟨_, _, _, h1, h2, h3⟩ := h6; exact ⟨h1.trans e3, h2.trans e4, .inl (h3.trans e5)⟩
  · obtain ⟨_, _, ⟨mk, hm, _⟩, hb, hlt, h1, h2, h3⟩ := h6
    rw [e5] at hb hlt h3
    exact ⟨h1.trans e3, h2.trans e4, .inr ⟨_, rfl, hlt, hb, hm.1, h3⟩⟩
  · exact absurd ⟨_, hk⟩ hne

structure Inv (P : Program) (ng base : Nat) (fr : Fr) (b : Frame) (N : Nat) (R : Nat → Tr) (tm : Nat → T V) (ds : Nat → List ADef) (u : Nat → U) (σ : Nat → St) (e0 : Env) (w0 : World) (cs0 : List Frame)
    (S : List Nat) (m : Nat) (e : Env) (a : Act) (cs : List Frame) (w : World) : Prop where
  mN : m ≤ N
  eff : ∀ p, p < N → (R p).isEff → (p ∈ S ↔ p < m)
  room : base ≤ w.heap.size
  main : Rel ng base (e.cut (σ m).next) (σ m) w
  glob : GE ng (e.cut (σ m).next)
  bf : BR (e.cut (σ m).next) fr b
  dl : DRs (e.cut (σ m).next) (ds m) a.defers
  ks : KS (e.cut (σ m).next) fr (u m) cs0 cs
  le0 : e0.le e
  ids : ∀ i, e.M i → e0.M i ∨ ∃ q, q < N ∧ q ∈ S ∧ (σ q).next ≤ i ∧ i < (σ (q + 1)).next
  early : ∀ q, q < N → q ∈ S → m ≤ q → ∀ ob, (R q).kd = .new ob → e.M (σ q).next ∧ base ≤ e.blk (σ q).next ∧ w0.heap.size ≤ e.blk (σ q).next ∧ (∃ o, w.heap[e.blk (σ q).next]? = some o ∧ OR e ob (σ q).next o) ∧
    (∀ i, (e.cut (σ m).next).M i → ((σ m).at i).isNo = false → e.blk i ≠ e.blk (σ q).next) ∧ ∀ q', q' < N → q' ∈ S → m ≤ q' → ∀ ob', (R q').kd = .new ob' → q' ≠ q → e.blk (σ q').next ≠ e.blk (σ q).next
  vals : ∀ q, q < N → q ∈ S → ∀ d, (R q).o.dst = some d → VR e (R q).v (a.tmps.getD d undef)
  rest : ∀ t, t < 2 ^ dt → (∀ q, q < N → q ∈ S → (R q).o.dst ≠ some t) → VR e (tget (tm 0) t) (a.tmps.getD t undef)
  size : a.tmps.size = fr.nt
  wsize : w0.heap.size ≤ w.heap.size
  kept : ∀ bl, bl < w0.heap.size → (∀ i, e0.M i → ((σ 0).at i).isNo = false → ng ≤ i → e0.blk i ≠ bl) → w.heap[bl]? = w0.heap[bl]?
  orig : ∀ i, (e.cut (σ m).next).M i → ((σ m).at i).isNo = false → ng ≤ i → e.blk i < w0.heap.size → ∃ j, e0.M j ∧ ((σ 0).at j).isNo = false ∧ ng ≤ j ∧ e0.blk j = e.blk i
  os : w.os = w0.os
  output : w.output = w0.output
  tape : w.tape = w0.tape

variable {b : Frame} {e0 : Env} {w0 : World} {cs0 : List Frame} {S : List Nat} {m : Nat} {e : Env} {a : Act} {cs : List Frame} {w : World}

/-- ids of a step that has not run are not known -/
theorem Inv.unknown (h : Inv P ng base fr b N R tm ds u σ e0 w0 cs0 S m e a cs w) (hR : Rec P ng tab fr L N R tm ds u σ) (h0 : ∀ i, e0.M i → i < (σ 0).next) {p : Nat} (hp : p < N) (hS : p ∉ S) {i : Nat} (h1 : (σ p).next ≤ i) (h2 : i < (σ (p + 1)).next) : ¬ e.M i := by
  intro hm
  rcases h.ids i hm with h3 | ⟨q, q1, q2, q3, q4⟩
  · have := h0 i h3
    have := hR.next (i := 0) (j := p) (Nat.zero_le _) (by omega)
    omega
  · rcases Nat.lt_trichotomy q p with hlt | heq | hgt
    · have := hR.next (i := q + 1) (j := p) (by omega) (by omega); omega
    · rw [heq] at q2; exact hS q2
    · have := hR.next (i := p + 1) (j := q) (by omega) (by omega); omega

/-- past a step that is not ordered, whether it has run or not -/
theorem Inv.shift (h : Inv P ng base fr b N R tm ds u σ e0 w0 cs0 S m e a cs w) (hR : Rec P ng tab fr L N R tm ds u σ) (h0 : ∀ i, e0.M i → i < (σ 0).next) (hm : m < N) (hne : ¬ (R m).isEff) : Inv P ng base fr b N R tm ds u σ e0 w0 cs0 S (m + 1) e a cs w := by
  obtain ⟨c1, c2, c3⟩ := hR.calm hm hne
  have heff : ∀ p, p < N → (R p).isEff → (p ∈ S ↔ p < m + 1) := fun p hp he => by
    rw [h.eff p hp he]
    constructor
    · intro h'; omega
    · intro h'
      rcases Nat.lt_or_ge p m with h2 | h2
      · exact h2
      · have : p = m := by omega
        rw [this] at he; exact absurd he hne
  rcases c3 with c3 | ⟨ob, k1, k2, k3, k4, k5⟩
  · exact ⟨hm, heff, h.room, by rw [c3]; exact h.main, by rw [c3]; exact h.glob, by rw [c3]; exact h.bf, by rw [c3, c1]; exact h.dl, by rw [c3, c2]; exact h.ks, h.le0, h.ids,
      fun q q1 q2 q3 ob hk => by
        obtain ⟨g1, g2, g3, g4, g5, g6⟩ := h.early q q1 q2 (by omega) ob hk
        exact ⟨g1, g2, g3, g4, by rw [c3]; exact g5, fun q' p1 p2 p3 => g6 q' p1 p2 (by omega)⟩,
      h.vals, h.rest, h.size, h.wsize, h.kept, by rw [c3]; exact h.orig, h.os, h.output, h.tape⟩
  · have hnx : (σ (m + 1)).next = (σ m).next + 1 := by rw [k5]; rfl
    have hcle : (e.cut (σ m).next).le (e.cut (σ (m + 1)).next) := Env.cut_mono (.refl e) (by omega)
    have hmain : Rel ng base (e.cut (σ (m + 1)).next) (σ (m + 1)) w := by
      rw [k5]
      by_cases hS : m ∈ S
      · obtain ⟨_, g2, _, ⟨o, g4, g5⟩, g6, _⟩ := h.early m hm hS (Nat.le_refl _) ob k1
        exact Rel.moreIn h.main k2 ob g2 g4 (g5.cut k3 (Nat.le_succ _)) g6
      · exact Rel.moreOut h.main k2 ob (h.unknown hR h0 hm hS (Nat.le_refl _) (by omega))
    have hat : ∀ i, (e.cut (σ (m + 1)).next).M i → (σ (m + 1)).at i = if i = (σ m).next then ob else (σ m).at i := fun i hi => by
      rw [k5]; exact at_more _ ob k2 i (hmain.ltM hi)
    have hcM : ∀ i, (e.cut (σ (m + 1)).next).M i → i ≠ (σ m).next → (e.cut (σ m).next).M i := fun i hi hn => ⟨hi.1, by have := hi.2; omega⟩
    refine ⟨hm, heff, h.room, hmain, h.glob.mono hcle, h.bf.mono hcle, by rw [c1]; exact h.dl.mono hcle, ?_, h.le0, h.ids, ?_, h.vals, h.rest, h.size, h.wsize, h.kept, ?_, h.os, h.output, h.tape⟩
    · rw [c2]
      refine ⟨h.ks.1, fun hd => ?_⟩
      obtain ⟨c, r, mo, x1, x2, x3⟩ := h.ks.2 hd
      exact ⟨c, r, mo, x1, x2, x3.mono hcle⟩
    · intro q q1 q2 q3 ob' hk
      obtain ⟨g1, g2, g3, g4, g5, g6⟩ := h.early q q1 q2 (by omega) ob' hk
      refine ⟨g1, g2, g3, g4, fun i hi hno => ?_, fun q' p1 p2 p3 => g6 q' p1 p2 (by omega)⟩
      rw [hat i hi] at hno
      by_cases hid : i = (σ m).next
      · by_cases hS : m ∈ S
        · rw [hid]
          exact g6 m hm hS (Nat.le_refl _) ob k1 (by omega)
        · rw [hid] at hi
          exact absurd hi.1 (h.unknown hR h0 hm hS (Nat.le_refl _) (by omega))
      · rw [if_neg hid] at hno
        exact g5 i (hcM i hi hid) hno
    · intro i hi hno hg hlt
      rw [hat i hi] at hno
      by_cases hid : i = (σ m).next
      · by_cases hS : m ∈ S
        · obtain ⟨_, _, g3, _⟩ := h.early m hm hS (Nat.le_refl _) ob k1
          rw [hid] at hlt; omega
        · rw [hid] at hi
          exact absurd hi.1 (h.unknown hR h0 hm hS (Nat.le_refl _) (by omega))
      · rw [if_neg hid] at hno
        exact h.orig i (hcM i hi hid) hno hg hlt

theorem Inv.shifts (hR : Rec P ng tab fr L N R tm ds u σ) (h0 : ∀ i, e0.M i → i < (σ 0).next) : ∀ (d : Nat) {m : Nat}, Inv P ng base fr b N R tm ds u σ e0 w0 cs0 S m e a cs w → m + d ≤ N → (∀ k, m ≤ k → k < m + d → ¬ (R k).isEff) → Inv P ng base fr b N R tm ds u σ e0 w0 cs0 S (m + d) e a cs w
  | 0, _, h, _, _ => h
  | d + 1, m, h, hN, hn => by
    have h1 := h.shift hR h0 (by omega) (hn m (Nat.le_refl _) (by omega))
    have h2 := Inv.shifts hR h0 d h1 (by omega) (fun k k1 k2 => hn k (by omega) (by omega))
    have : m + 1 + d = m + (d + 1) := by omega
    rwa [this] at h2
end
end Go.Proofs.YtdolijagffcfgaaGreatDoor.Ev

/-
  Every order of a drawn region comes to the same: operations without memory, and readings.
-/
namespace Go.Proofs.YtdolijagffcfgaaGreatDoor.Ev
section
variable {P : Program} {ng base : Nat} {tab : Tab P} {fr : Fr} {ops : Array Oper} {N : Nat} {R : Nat → Tr} {tm : Nat → T V} {ds : Nat → List ADef} {u : Nat → U} {σ : Nat → St}

/-- a set of operations that holds all on which its members hang -/
def Cl (ops : Array Oper) (S : List Nat) : Prop := ∀ i ∈ S, ∀ o, ops[i]? = some o → ∀ e ∈ o.after, Region.binds .any e = true → e.on ∈ S
def Pre (ops : Array Oper) (S : List Nat) (i : Nat) : Prop := ∀ o, ops[i]? = some o → ∀ e ∈ o.after, Region.binds .any e = true → e.on ∈ S

theorem Rec.oper (hR : Rec P ng tab fr ops.toList N R tm ds u σ) {i : Nat} (hi : i < N) : ops[i]? = some (R i).o := by
  have := (hR.step i hi).1
  rw [(hR.idx i hi).1, Array.getElem?_toList] at this
  exact this

theorem Rec.tget (hR : Rec P ng tab fr ops.toList N R tm ds u σ) {t : Nat} (ht : t < 2 ^ dt) : ∀ {i : Nat}, i ≤ N → (∃ j, j < i ∧ (R j).o.dst = some t ∧ tget (tm i) t = (R j).v) ∨ ((∀ j, j < i → (R j).o.dst ≠ some t) ∧ tget (tm i) t = tget (tm 0) t) := by
  intro i
  induction i with
  | zero => intro _; exact .inr ⟨by simp, rfl⟩
  | succ i ih =>
    intro hi
    obtain ⟨_, h2, h3, _⟩ := hR.step i (by omega)
    rw [(hR.idx i (by omega)).2.1] at h2
    cases hd : (R i).o.dst with
    | none =>
      rw [hd] at h2
      have h2' : tm (i + 1) = tm i := h2
      rw [h2']
      rcases ih (by omega) with ⟨j, j1, j2, j3⟩ | ⟨j1, j2⟩
      · exact .inl ⟨j, by omega, j2, j3⟩
      · refine .inr ⟨fun j hj => ?_, j2⟩
        rcases Nat.lt_or_ge j i with h | h
        · exact j1 j h
        · have : j = i := by omega
          rw [this, hd]; simp
    | some d =>
      obtain ⟨_, hd2⟩ := h3 d hd
      rw [hd] at h2
      have hg : Ev.tget (tm (i + 1)) t = if t = d then (R i).v else Ev.tget (tm i) t := by
        rw [h2]
        exact T.get_set _ _ _ _ _ _ hd2 ht
      rw [hg]
      by_cases he : t = d
      · rw [if_pos he]
        exact .inl ⟨i, Nat.lt_succ_self _, by rw [hd, he], rfl⟩
      · rw [if_neg he]
        rcases ih (by omega) with ⟨j, j1, j2, j3⟩ | ⟨j1, j2⟩
        · exact .inl ⟨j, by omega, j2, j3⟩
        · refine .inr ⟨fun j hj => ?_, j2⟩
          rcases Nat.lt_or_ge j i with h | h
          · exact j1 j h
          · have : j = i := by omega
            rw [this, hd]
            simp only [ne_eq, Option.some.injEq]
            exact fun h => he h.symm

variable {b : Frame} {e0 : Env} {w0 : World} {cs0 : List Frame} {S : List Nat} {m : Nat} {e : Env} {a : Act} {cs : List Frame} {w : World}

/-- what the i-th operation looks at is as in the run in text order -/
theorem Inv.tmp (h : Inv P ng base fr b N R tm ds u σ e0 w0 cs0 S m e a cs w) (hR : Rec P ng tab fr ops.toList N R tm ds u σ) (hst : staticB ops.toList = true) (hcl : Cl ops S) {i : Nat} {o : Oper} (hi : i ≤ N) (ho : ops[i]? = some o) (hS : i ∉ S) (hpre : Pre ops S i)
    {t : Nat} (ht : t < 2 ^ dt) (hl : t ∈ looksA ops.toList o) : VR e (Ev.tget (tm i) t) (a.tmps.getD t undef) := by
  have hoL : ops.toList[i]? = some o := by rw [Array.getElem?_toList]; exact ho
  rcases hR.tget ht hi with ⟨j, j1, j2, j3⟩ | ⟨j1, j2⟩
  · rw [j3]
    have hjN : j < N := by omega
    have hjL : ops.toList[j]? = some (R j).o := by rw [Array.getElem?_toList]; exact hR.oper hjN
    have hdir := (staticB_pair hst hoL hjL j1).2.1 t j2 hl
    have hjS : j ∈ S := goB_in hcl 5 o j (hpre o ho) hdir
    exact h.vals j hjN hjS t j2
  · rw [j2]
    refine h.rest t ht fun q q1 q2 q3 => ?_
    rcases Nat.lt_trichotomy q i with hlt | heq | hgt
    · exact j1 q hlt q3
    · rw [heq] at q2; exact hS q2
    · have hqL : ops.toList[q]? = some (R q).o := by rw [Array.getElem?_toList]; exact hR.oper q1
      have hdir := (staticB_pair hst hqL hoL hgt).2.2 t q3 hl
      exact hS (goB_in hcl 5 _ _ (hcl q q2 _ (hR.oper q1)) hdir)

theorem Inv.operand (h : Inv P ng base fr b N R tm ds u σ e0 w0 cs0 S m e a cs w) (hR : Rec P ng tab fr ops.toList N R tm ds u σ) (hst : staticB ops.toList = true) (hcl : Cl ops S) {i : Nat} {o : Oper} (hi : i ≤ N) (ho : ops[i]? = some o) (hS : i ∉ S) (hpre : Pre ops S i) :
    ∀ x, VR e (restr o (evalA ng (tm i)) x) (a.eval x) := by
  intro x
  unfold restr
  split
  · rename_i hx
    cases x with
    | tmp t =>
      simp only [evalA, cond_eq_ite]
      split
      · rename_i hlt
        exact h.tmp hR hst hcl hi ho hS hpre (blt_lt hlt) (List.mem_append_left _ (List.mem_filterMap.2 ⟨.tmp t, by simpa using hx, rfl⟩))
      · simp only [VR]
    | const v => exact ofV_sound e 8 v
    | global g =>
      simp only [evalA, cond_eq_ite]
      split
      · rename_i hlt
        obtain ⟨h1, h2⟩ := h.glob g (blt_lt hlt)
        simp only [VR]
        exact ⟨h1.1, by rw [show e.blk g = g from h2]; rfl⟩
      · simp only [VR]
    | func f =>
      simp only [evalA, VR]
      exact ⟨by simp, #[], #[], rfl, VRs.nil, VRs.nil⟩
  · simp only [VR]

theorem Inv.wants (h : Inv P ng base fr b N R tm ds u σ e0 w0 cs0 S m e a cs w) (hR : Rec P ng tab fr ops.toList N R tm ds u σ) (hst : staticB ops.toList = true) (hcl : Cl ops S) {i : Nat} {o : Oper} (hi : i ≤ N) (ho : ops[i]? = some o) (hS : i ∉ S) (hpre : Pre ops S i) {r : Bool}
    (hw : wantA ops.toList (tm i) o = some r) : Region.wanted o (yielded ops a.tmps) = r := by
  refine wantA_sound (e := e) hw (fun d hd hlt => ?_) h.size
  obtain ⟨j, oj, want, g1, g2, g3⟩ := hd
  refine h.tmp hR hst hcl hi ho hS hpre hlt (List.mem_append_right _ ?_)
  unfold gdTmp
  rw [g1]
  simp only [lget_eq, Array.getElem?_toList, g2, g3]
  simp

/-- an operation more, that leaves the world as it is -/
theorem Inv.still (h : Inv P ng base fr b N R tm ds u σ e0 w0 cs0 S m e a cs w) (hR : Rec P ng tab fr ops.toList N R tm ds u σ) (hst : staticB ops.toList = true) {i : Nat} (hi : i < N) (hS : i ∉ S) (hne : ¬ (R i).isEff) (hnn : ∀ ob, (R i).kd ≠ .new ob) {z : Value} (hz : VR e (R i).v z) :
    Inv P ng base fr b N R tm ds u σ e0 w0 cs0 (i :: S) m e (a.put (R i).o.dst z) cs w := by
  have hdl : (a.put (R i).o.dst z).defers = a.defers := by cases (R i).o.dst <;> rfl
  obtain ⟨_, _, hd, _⟩ := hR.step i hi
  refine ⟨h.mN, fun p hp he => ?_, h.room, h.main, h.glob, h.bf, by rw [hdl]; exact h.dl, h.ks, h.le0, fun x hx => ?_, fun q q1 q2 q3 ob hk => ?_, fun q q1 q2 d hq => ?_, fun t ht hn => ?_, ?_, h.wsize, h.kept, h.orig, h.os, h.output, h.tape⟩
  · rw [← h.eff p hp he]
    constructor
    · intro hm
      rcases List.mem_cons.1 hm with rfl | hm
      · exact absurd he hne
      · exact hm
    · exact List.mem_cons_of_mem _
  · rcases h.ids x hx with h1 | ⟨q, q1, q2, q3⟩
    · exact .inl h1
    · exact .inr ⟨q, q1, List.mem_cons_of_mem _ q2, q3⟩
  · rcases List.mem_cons.1 q2 with rfl | q2
    · exact absurd hk (hnn ob)
    · obtain ⟨g1, g2, g3, g4, g5, g6⟩ := h.early q q1 q2 q3 ob hk
      refine ⟨g1, g2, g3, g4, g5, fun q' p1 p2 p3 ob' hk' hne' => ?_⟩
      rcases List.mem_cons.1 p2 with rfl | p2
      · exact absurd hk' (hnn ob')
      · exact g6 q' p1 p2 p3 ob' hk' hne'
  · rcases List.mem_cons.1 q2 with rfl | q2
    · have hlt : d < a.tmps.size := by rw [h.size]; exact (hd d hq).1
      simp only [Act.put, hq]
      have : (a.tmps.setIfInBounds d z).getD d undef = z := by simp [Array.getD, hlt]
      rw [this]; exact hz
    · have hv := h.vals q q1 q2 d hq
      have hdd : ∀ d', (R i).o.dst = some d' → d' ≠ d := by
        intro d' hd' heq
        have hiL : ops.toList[i]? = some (R i).o := by rw [Array.getElem?_toList]; exact hR.oper hi
        have hqL : ops.toList[q]? = some (R q).o := by rw [Array.getElem?_toList]; exact hR.oper q1
        rcases Nat.lt_trichotomy i q with hlt | he | hgt
        · exact (staticB_pair hst hqL hiL hlt).1 d d' hq hd' heq.symm
        · rw [he] at hS; exact hS q2
        · exact (staticB_pair hst hiL hqL hgt).1 d' d hd' hq heq
      cases hdi : (R i).o.dst with
      | none => exact hv
      | some d' =>
        have : (a.tmps.setIfInBounds d' z).getD d undef = a.tmps.getD d undef := by
          simp only [Array.getD_eq_getD_getElem?, Array.getElem?_setIfInBounds_ne (hdd d' hdi)]
        simp only [Act.put]
        rw [this]; exact hv
  · have hr := h.rest t ht fun q q1 q2 => hn q q1 (List.mem_cons_of_mem _ q2)
    have hdi := hn i hi (by simp)
    cases hd2 : (R i).o.dst with
    | none => exact hr
    | some d' =>
      rw [hd2] at hdi
      have hne' : d' ≠ t := fun he => hdi (by rw [he])
      have : (a.tmps.setIfInBounds d' z).getD t undef = a.tmps.getD t undef := by
        simp only [Array.getD_eq_getD_getElem?, Array.getElem?_setIfInBounds_ne hne']
      simp only [Act.put]
      rw [this]; exact hr
  · cases (R i).o.dst <;> simp [Act.put, h.size]

/-- looks between two points of the run in text order -/
theorem Rec.look (hR : Rec P ng tab fr ops.toList N R tm ds u σ) {x n : Nat} {lo : Nat} (hlo : x < (σ lo).next) : ∀ (d : Nat), lo + d ≤ N → (∀ k, lo ≤ k → k < lo + d → ∀ log, (R k).kd = .eff log → Clear log x n) → ((σ (lo + d)).at x).look n = ((σ lo).at x).look n
  | 0, _, _ => rfl
  | d + 1, hN, hc => by
    have ih := Rec.look hR hlo d (by omega) fun k k1 k2 => hc k k1 (by omega)
    rw [← ih]
    have hk : lo + d < N := by omega
    have hx : x < (σ (lo + d)).next := Nat.lt_of_lt_of_le hlo (hR.next (Nat.le_add_right _ _) (by omega))
    by_cases he : (R (lo + d)).isEff
    · obtain ⟨log, hlog⟩ := he
      have hcl := hc (lo + d) (Nat.le_add_right _ _) (by omega) log hlog
      obtain ⟨_, _, _, _, _, h6⟩ := hR.step (lo + d) hk
      rw [hlog] at h6
      simp only at h6
      obtain ⟨_, _, σ1, g1, g2, g3, _⟩ := h6
      have hat : (σ (lo + (d + 1))).at x = σ1.at x := by
        have : lo + (d + 1) = lo + d + 1 := by omega
        rw [this, g1]; rfl
      rw [hat]
      have := g3.looks x n (by rw [hR.sig hk]; exact hx) (by rw [g2]; exact hcl)
      rw [hR.sig hk] at this
      exact this
    · have heq : lo + (d + 1) = lo + d + 1 := by omega
      rw [heq]
      obtain ⟨_, _, h3⟩ := hR.calm hk he
      rcases h3 with h3 | ⟨ob, _, hlt, _, _, h3⟩
      · rw [h3]
      · rw [h3, at_more _ ob hlt x (by omega), if_neg (by omega)]

theorem ClearC.clear {log : List (Nat × Nat × Nat)} {b x n k : Nat} (h : ClearC log b x n) (h1 : x ≤ k) (h2 : k < x + n) : Clear log b k := by
  intro p hp he hc
  rcases h p hp he with h | h <;> omega

/-- a reading reads now what it read in the run in text order -/
theorem Inv.loads (h : Inv P ng base fr b N R tm ds u σ e0 w0 cs0 S m e a cs w) (hR : Rec P ng tab fr ops.toList N R tm ds u σ) (h0 : ∀ i, e0.M i → i < (σ 0).next) (hst : staticB ops.toList = true) (hcl : Cl ops S) {i : Nat} (hi : i < N) (hS : i ∉ S) (hpre : Pre ops S i)
    {bl x n : Nat} (hk : (R i).kd = .load bl x n) : ∃ z, VR e (R i).v z ∧ (execOp a.eval (R i).o).run P w = .ok (.value z) w := by
  obtain ⟨e1, e2, _, _, e5⟩ := hR.idx i hi
  obtain ⟨_, _, _, _, _, h6⟩ := hR.step i hi
  rw [hk] at h6
  simp only at h6
  obtain ⟨_, ⟨t, y, hop, hld, hat⟩, hbl, _⟩ := h6
  rw [e2, e5] at hld
  rw [e2] at hat
  rw [e5] at hbl
  have ho := hR.oper hi
  have hY := h.operand hR hst hcl (Nat.le_of_lt hi) ho hS hpre y
  have hyy : restr (R i).o (evalA ng (tm i)) y = evalA ng (tm i) y := by
    rw [← restr_eq]
    rw [hop]; simp [Op.operands]
  rw [hyy] at hY
  -- the block is one of the main ones
  have hptr : ∃ b' o', evalA ng (tm i) y = .ptr b' o' := by
    unfold loadO at hld
    split at hld
    · rename_i hp; exact ⟨_, _, hp⟩
    · cases hld
  obtain ⟨b', o', hp⟩ := hptr
  have hb' : b' = bl := by
    rw [hp] at hat
    unfold loadAt? at hat
    split at hat
    · rename_i hq
      simp only [V.ptr.injEq] at hq
      simp only [Prod.mk.injEq] at hat
      rw [hq.1]; exact hat.1
    · exfalso
      rename_i hno
      rw [hp] at hld
      unfold loadO at hld
      split at hld
      · rename_i ti b2 o2 hti hq
        exact hno ti b2 o2 hti hq
      · cases hld
  subst hb'
  rw [hp] at hY
  simp only [VR] at hY
  obtain ⟨hM, hX⟩ := hY
  have hmain : b' < (σ m).next := by
    rcases h.ids b' hM with h1 | ⟨q, q1, q2, q3, q4⟩
    · exact Nat.lt_of_lt_of_le (h0 b' h1) (hR.next (Nat.zero_le _) h.mN)
    · by_cases he : (R q).isEff
      · have := (h.eff q q1 he).1 q2
        exact Nat.lt_of_lt_of_le q4 (hR.next (by omega) h.mN)
      · obtain ⟨_, _, h3⟩ := hR.calm q1 he
        rcases h3 with h3 | ⟨ob, hkq, _, _, _, h3⟩
        · rw [h3] at q4; omega
        · have hid : b' = (σ q).next := by rw [h3] at q4; have : b' < (σ q).next + 1 := q4; omega
          exfalso
          rcases Nat.lt_or_ge q i with hlt | hge
          · have hpair := hR.pair q i hlt hi
            simp only [PairOk, hk, hkq] at hpair
            rw [hR.sig q1] at hpair
            exact hpair hid
          · have := hR.next hge (by omega : q ≤ N)
            omega
  have hlook : ∀ k, x ≤ k → k < x + n → ((σ m).at b').look k = ((σ i).at b').look k := by
    intro k k1 k2
    rcases Nat.le_total i m with him | hmi
    · have := hR.look (n := k) hbl (m - i) (by have := h.mN; omega) (fun q q1 q2 log hlog => by
        have hqN : q < N := by have := h.mN; omega
        rcases Nat.eq_or_lt_of_le q1 with heq | hlt
        · rw [← heq, hk] at hlog; cases hlog
        · have hqS := (h.eff q hqN ⟨log, hlog⟩).2 (by omega)
          have hpair := hR.pair i q hlt hqN
          simp only [PairOk, hlog, hk] at hpair
          rcases hpair with hd | hd
          · have := goB_in hcl 5 _ _ (hcl q hqS _ (hR.oper hqN)) hd
            rw [e1] at this
            exact absurd this hS
          · exact hd.clear k1 k2)
      rwa [show i + (m - i) = m by omega] at this
    · have := hR.look (n := k) hmain (i - m) (by omega) (fun q q1 q2 log hlog => by
        have hqN : q < N := by omega
        have hqS : q ∉ S := fun hq => by have := (h.eff q hqN ⟨log, hlog⟩).1 hq; omega
        have hpair := hR.pair q i (by omega) hi
        simp only [PairOk, hlog, hk] at hpair
        rcases hpair with hd | hd
        · have := goB_in hcl 5 _ _ (hpre _ ho) hd
          rw [(hR.idx q hqN).1] at this
          exact absurd this hqS
        · exact hd.clear k1 k2)
      rw [show m + (i - m) = i by omega] at this
      exact this.symm
  have hld' := loadO_congr (τ := σ m) hld (by rw [hat]; exact hlook)
  have hXc : VR (e.cut (σ m).next) (evalA ng (tm i) y) (a.eval y) := by
    rw [hp]; simp only [VR]; exact ⟨⟨hM, hmain⟩, hX⟩
  obtain ⟨z, z1, z2⟩ := loadO_sound hld' h.main hXc
  refine ⟨z, VR.mono (Env.cut_le e _) _ _ z1, ?_⟩
  have : execOp a.eval (R i).o = (do pure (.value (← Instr.loadAt t (a.eval y)))) := by
    generalize hg : (R i).o = oo at hop
    obtain ⟨dst, op, ty, pos, after, guard⟩ := oo
    simp only at hop
    subst hop
    rfl
  rw [this, Sem.run_bind, z2]
  rfl
end
end Go.Proofs.YtdolijagffcfgaaGreatDoor.Ev

/-
  Every order of a drawn region comes to the same: allocations, and operations that keep their order.
-/
namespace Go.Proofs.YtdolijagffcfgaaGreatDoor.Ev
section
variable {P : Program} {ng base : Nat} {tab : Tab P} {fr : Fr} {ops : Array Oper} {N : Nat} {R : Nat → Tr} {tm : Nat → T V} {ds : Nat → List ADef} {u : Nat → U} {σ : Nat → St}
variable {b : Frame} {e0 : Env} {w0 : World} {cs0 : List Frame} {S : List Nat} {m : Nat} {e : Env} {a : Act} {cs : List Frame} {w : World}

theorem Inv.puts (h : Inv P ng base fr b N R tm ds u σ e0 w0 cs0 S m e a cs w) (hR : Rec P ng tab fr ops.toList N R tm ds u σ) (hst : staticB ops.toList = true) {i : Nat} (hi : i < N) (hS : i ∉ S) {e' : Env} (hle : e.le e') {z : Value} (hz : VR e' (R i).v z) {a2 : Act} (ha : a2.tmps = a.tmps) :
    (∀ q, q < N → q ∈ i :: S → ∀ d, (R q).o.dst = some d → VR e' (R q).v ((a2.put (R i).o.dst z).tmps.getD d undef)) ∧
    (∀ t, t < 2 ^ dt → (∀ q, q < N → q ∈ i :: S → (R q).o.dst ≠ some t) → VR e' (Ev.tget (tm 0) t) ((a2.put (R i).o.dst z).tmps.getD t undef)) ∧ (a2.put (R i).o.dst z).tmps.size = fr.nt := by
  obtain ⟨_, _, hd, _⟩ := hR.step i hi
  have hsz : a2.tmps.size = fr.nt := by rw [ha]; exact h.size
  refine ⟨fun q q1 q2 d hq => ?_, fun t ht hn => ?_, ?_⟩
  · rcases List.mem_cons.1 q2 with rfl | q2
    · have hlt : d < a2.tmps.size := by rw [hsz]; exact (hd d hq).1
      simp only [Act.put, hq]
      have : (a2.tmps.setIfInBounds d z).getD d undef = z := by simp [Array.getD, hlt]
      rw [this]; exact hz
    · have hv := VR.mono hle _ _ (h.vals q q1 q2 d hq)
      rw [← ha] at hv
      have hdd : ∀ d', (R i).o.dst = some d' → d' ≠ d := by
        intro d' hd' heq
        have hiL : ops.toList[i]? = some (R i).o := by rw [Array.getElem?_toList]; exact hR.oper hi
        have hqL : ops.toList[q]? = some (R q).o := by rw [Array.getElem?_toList]; exact hR.oper q1
        rcases Nat.lt_trichotomy i q with hlt | he | hgt
        · exact (staticB_pair hst hqL hiL hlt).1 d d' hq hd' heq.symm
        · rw [he] at hS; exact hS q2
        · exact (staticB_pair hst hiL hqL hgt).1 d' d hd' hq heq
      cases hdi : (R i).o.dst with
      | none => exact hv
      | some d' =>
        have : (a2.tmps.setIfInBounds d' z).getD d undef = a2.tmps.getD d undef := by
          simp only [Array.getD_eq_getD_getElem?, Array.getElem?_setIfInBounds_ne (hdd d' hdi)]
        simp only [Act.put]
        rw [this]; exact hv
  · have hr := VR.mono hle _ _ (h.rest t ht fun q q1 q2 => hn q q1 (List.mem_cons_of_mem _ q2))
    rw [← ha] at hr
    have hdi := hn i hi (by simp)
    cases hd2 : (R i).o.dst with
    | none => exact hr
    | some d' =>
      rw [hd2] at hdi
      have hne' : d' ≠ t := fun he => hdi (by rw [he])
      have : (a2.tmps.setIfInBounds d' z).getD t undef = a2.tmps.getD t undef := by
        simp only [Array.getD_eq_getD_getElem?, Array.getElem?_setIfInBounds_ne hne']
      simp only [Act.put]
      rw [this]; exact hr
  · cases (R i).o.dst <;> simp [Act.put, hsz]

theorem Rel.push {e : Env} {σ : St} {w : World} (h : Rel ng base e σ w) (o : Obj) : Rel ng base e σ (w.alloc o) :=
  ⟨h.next, h.lim, fun i hi => by rw [World.size_alloc]; exact Nat.lt_succ_of_lt (h.there i hi), fun i hi hn => by
    obtain ⟨x, h1, h2⟩ := h.obj i hi hn
    exact ⟨x, by rw [heap_alloc_old w o _ (h.there i hi)]; exact h1, h2⟩, h.inj, h.own, h.fresh⟩

/-- a block that the abstract memory has had for long -/
theorem Rel.late {e : Env} {σ : St} {w : World} {n : Nat} (h : Rel ng base (e.cut n) σ w) {id : Nat} (hid : id < n) (hn : ¬ e.M id) (hlim : n ≤ σ.next) {o : Obj} {size : Nat} (hb : base ≤ w.heap.size) (hor : OR ((e.more id w.heap.size size).cut n) (σ.at id) id o) :
    Rel ng base ((e.more id w.heap.size size).cut n) σ (w.alloc o) := by
  have hle : (e.cut n).le ((e.more id w.heap.size size).cut n) := Env.cut_mono (Env.le_more e id _ _ hn) (Nat.le_refl _)
  have hM : ∀ i, ((e.more id w.heap.size size).cut n).M i → i ≠ id → (e.cut n).M i := fun i hi hne => ⟨hi.1.resolve_right hne, hi.2⟩
  have hbid : ((e.more id w.heap.size size).cut n).blk id = w.heap.size := by simp [Env.more, Env.cut]
  refine ⟨h.next, fun i hi => Nat.lt_of_lt_of_le hi.2 hlim, fun i hi => ?_, fun i hi hno => ?_, fun i j hi hj hni hnj he => ?_, fun i hi hg => ?_, h.fresh⟩
  · by_cases hie : i = id
    · rw [hie, hbid, World.size_alloc]; exact Nat.lt_succ_self _
    · have hm := hM i hi hie
      rw [(hle.mono i hm).2.1, World.size_alloc]; exact Nat.lt_succ_of_lt (h.there i hm)
  · by_cases hie : i = id
    · rw [hie, hbid]
      exact ⟨o, heap_alloc_new w o, hor⟩
    · have hm := hM i hi hie
      obtain ⟨x, h1, h2⟩ := h.obj i hm hno
      exact ⟨x, by rw [(hle.mono i hm).2.1, heap_alloc_old w o _ (h.there i hm)]; exact h1, h2.mono hle hm⟩
  · by_cases hie : i = id
    · by_cases hje : j = id
      · omega
      · have hm := hM j hj hje
        rw [hie, hbid, (hle.mono j hm).2.1] at he
        have := h.there j hm; omega
    · have hm := hM i hi hie
      by_cases hje : j = id
      · rw [hje, hbid, (hle.mono i hm).2.1] at he
        have := h.there i hm; omega
      · have hm' := hM j hj hje
        rw [(hle.mono i hm).2.1, (hle.mono j hm').2.1] at he
        exact h.inj i j hm hm' hni hnj he
  · by_cases hie : i = id
    · rw [hie, hbid]; exact hb
    · have hm := hM i hi hie
      rw [(hle.mono i hm).2.1]; exact h.own i hm hg

/-- the content of a new block is not touched where nothing in a log is of it -/
theorem Rec.stays (hR : Rec P ng tab fr ops.toList N R tm ds u σ) {x : Nat} {lo : Nat} (hlo : x < (σ lo).next) : ∀ (d : Nat), lo + d ≤ N → (∀ k, lo ≤ k → k < lo + d → ∀ log, (R k).kd = .eff log → ∀ p ∈ log, p.1 ≠ x) → (σ (lo + d)).at x = (σ lo).at x
  | 0, _, _ => rfl
  | d + 1, hN, hc => by
    have ih := Rec.stays hR hlo d (by omega) fun k k1 k2 => hc k k1 (by omega)
    rw [← ih]
    have hk : lo + d < N := by omega
    have hx : x < (σ (lo + d)).next := Nat.lt_of_lt_of_le hlo (hR.next (Nat.le_add_right _ _) (by omega))
    have heq : lo + (d + 1) = lo + d + 1 := by omega
    rw [heq]
    by_cases he : (R (lo + d)).isEff
    · obtain ⟨log, hlog⟩ := he
      have hcl := hc (lo + d) (Nat.le_add_right _ _) (by omega) log hlog
      obtain ⟨_, _, _, _, _, h6⟩ := hR.step (lo + d) hk
      rw [hlog] at h6
      simp only at h6
      obtain ⟨_, _, σ1, g1, g2, g3, _⟩ := h6
      have hat : (σ (lo + d + 1)).at x = σ1.at x := by rw [g1]; rfl
      rw [hat]
      have := g3.keeps x (by rw [hR.sig hk]; exact hx) (by rw [g2]; exact hcl)
      rw [hR.sig hk] at this
      exact this
    · obtain ⟨_, _, h3⟩ := hR.calm hk he
      rcases h3 with h3 | ⟨ob, _, hlt, _, _, h3⟩
      · rw [h3]
      · rw [h3, at_more _ ob hlt x (by omega), if_neg (by omega)]

/-- a quiet allocation more -/
theorem Inv.news (h : Inv P ng base fr b N R tm ds u σ e0 w0 cs0 S m e a cs w) (hR : Rec P ng tab fr ops.toList N R tm ds u σ) (h0 : ∀ i, e0.M i → i < (σ 0).next) (hst : staticB ops.toList = true) (hcl : Cl ops S) {i : Nat} (hi : i < N) (hS : i ∉ S) (hpre : Pre ops S i) {ob : Ob} (hk : (R i).kd = .new ob) :
    ∃ e' z w', (execOp a.eval (R i).o).run P w = .ok (.value z) w' ∧ Inv P ng base fr b N R tm ds u σ e0 w0 cs0 (i :: S) m e' (a.put (R i).o.dst z) cs w' := by
  obtain ⟨x1, x2, _, _, x5⟩ := hR.idx i hi
  obtain ⟨_, _, _, _, _, h6⟩ := hR.step i hi
  rw [hk] at h6
  simp only at h6
  obtain ⟨_, _, ⟨mk, ⟨hno, hnew⟩, hv⟩, hbd, hlt, _, _, hσ⟩ := h6
  rw [x2] at hnew
  rw [x5] at hv hbd hlt hσ
  have ho := hR.oper hi
  have hnx : (σ (i + 1)).next = (σ i).next + 1 := by rw [hσ]; rfl
  have hun := h.unknown hR h0 hi hS (Nat.le_refl _) (by omega : (σ i).next < (σ (i + 1)).next)
  have hoper := h.operand hR hst hcl (Nat.le_of_lt hi) ho hS hpre
  obtain ⟨obj, size, z, r1, r2, r3⟩ := hnew e w a.eval (σ i).next hun hoper
  have hle := Env.le_more e (σ i).next w.heap.size size hun
  have hbid : (e.more (σ i).next w.heap.size size).blk (σ i).next = w.heap.size := by simp [Env.more]
  have hbo : ∀ j, e.M j → (e.more (σ i).next w.heap.size size).blk j = e.blk j := fun j hj => (hle.mono j hj).2.1
  have hne : ¬ (R i).isEff := by rintro ⟨log, hl⟩; rw [hk] at hl; cases hl
  have hcle : (e.cut (σ m).next).le ((e.more (σ i).next w.heap.size size).cut (σ m).next) := Env.cut_mono hle (Nat.le_refl _)
  have hdl : (a.put (R i).o.dst z).defers = a.defers := by cases (R i).o.dst <;> rfl
  obtain ⟨v1, v2, v3⟩ := h.puts hR hst hi hS hle (a2 := a) (z := z) (by rw [hv]; exact r3) rfl
  have hmM : ∀ j, ((e.more (σ i).next w.heap.size size).cut (σ m).next).M j → j ≠ (σ i).next → (e.cut (σ m).next).M j := fun j hj hn => ⟨hj.1.resolve_right hn, hj.2⟩
  have hmain : Rel ng base ((e.more (σ i).next w.heap.size size).cut (σ m).next) (σ m) (w.alloc obj) := by
    rcases Nat.lt_or_ge i m with him | hmi
    · have hidm : (σ i).next < (σ m).next := by have := hR.next (i := i + 1) (j := m) him h.mN; omega
      have hatm : (σ m).at (σ i).next = ob := by
        have hst2 := hR.stays (x := (σ i).next) (lo := i + 1) (by omega) (m - (i + 1)) (by have := h.mN; omega) (fun q q1 q2 log hlog => by
          have hqN : q < N := by have := h.mN; omega
          have hqS := (h.eff q hqN ⟨log, hlog⟩).2 (by omega)
          have hpair := hR.pair i q (by omega) hqN
          simp only [PairOk, hlog, hk] at hpair
          rw [x5] at hpair
          rcases hpair with hd | hd
          · have := goB_in hcl 5 _ _ (hcl q hqS _ (hR.oper hqN)) hd
            rw [x1] at this
            exact absurd this hS
          · exact hd)
        rw [show i + 1 + (m - (i + 1)) = m by omega] at hst2
        rw [hst2, hσ, at_more _ ob hlt _ hlt, if_pos rfl]
      exact Rel.late h.main hidm hun (Nat.le_refl _) h.room (by rw [hatm]; exact r2.cut hbd (Nat.le_of_lt hidm))
    · have hidm : (σ m).next ≤ (σ i).next := hR.next hmi (Nat.le_of_lt hi)
      exact (h.main.push obj).congr hcle fun j hj => hmM j hj (by have := hj.2; omega)
  refine ⟨_, z, _, r1, ⟨h.mN, fun p hp he => ?_, by rw [World.size_alloc]; exact Nat.le_succ_of_le h.room, hmain, h.glob.mono hcle, h.bf.mono hcle, by rw [hdl]; exact h.dl.mono hcle, ?_, h.le0.trans hle, ?_, ?_, v1, v2, v3, by rw [World.size_alloc]; exact Nat.le_succ_of_le h.wsize, ?_, ?_, h.os, h.output, h.tape⟩⟩
  · rw [← h.eff p hp he]
    constructor
    · intro hm
      rcases List.mem_cons.1 hm with rfl | hm
      · exact absurd he hne
      · exact hm
    · exact List.mem_cons_of_mem _
  · refine ⟨h.ks.1, fun hd => ?_⟩
    obtain ⟨c, r, mo, y1, y2, y3⟩ := h.ks.2 hd
    exact ⟨c, r, mo, y1, y2, y3.mono hcle⟩
  · rintro j (hj | rfl)
    · rcases h.ids j hj with h1 | ⟨q, q1, q2, q3⟩
      · exact .inl h1
      · exact .inr ⟨q, q1, List.mem_cons_of_mem _ q2, q3⟩
    · exact .inr ⟨i, hi, by simp, Nat.le_refl _, by omega⟩
  · -- those made ahead
    have olds : ∀ q, q < N → q ∈ S → m ≤ q → ∀ ob', (R q).kd = .new ob' → e.M (σ q).next ∧ (σ q).next ≠ (σ i).next ∧ e.blk (σ q).next < w.heap.size := by
      intro q q1 q2 q3 ob' hk'
      obtain ⟨g1, _, _, ⟨o, g4, _⟩, _⟩ := h.early q q1 q2 q3 ob' hk'
      exact ⟨g1, fun he => hun (he ▸ g1), (Array.getElem?_eq_some_iff.1 g4).1⟩
    intro q q1 q2 q3 ob' hk'
    by_cases hqi : q = i
    · subst hqi
      have : ob' = ob := by rw [hk] at hk'; simpa using hk'.symm
      subst this
      refine ⟨.inr rfl, by rw [hbid]; exact h.room, by rw [hbid]; exact h.wsize, ⟨obj, by rw [hbid]; exact heap_alloc_new w obj, r2⟩, fun j hj hnj => ?_, fun q' p1 p2 p3 ob2 hk2 hne2 => ?_⟩
      · have hidm : (σ m).next ≤ (σ q).next := hR.next q3 (Nat.le_of_lt hi)
        have hm := hmM j hj (by have := hj.2; omega)
        rw [hbid, hbo j hm.1]
        exact Nat.ne_of_lt (h.main.there j hm)
      · have p2' : q' ∈ S := (List.mem_cons.1 p2).resolve_left hne2
        obtain ⟨o1, o2, o3⟩ := olds q' p1 p2' p3 ob2 hk2
        rw [hbid, hbo _ o1]; omega
    · have q2' : q ∈ S := (List.mem_cons.1 q2).resolve_left hqi
      obtain ⟨g1, g2, g3, ⟨o, g4, g5⟩, g6, g7⟩ := h.early q q1 q2' q3 ob' hk'
      obtain ⟨o1, o2, o3⟩ := olds q q1 q2' q3 ob' hk'
      refine ⟨.inl g1, by rw [hbo _ g1]; exact g2, by rw [hbo _ g1]; exact g3, ⟨o, by rw [hbo _ g1, heap_alloc_old w obj _ o3]; exact g4, g5.mono hle g1⟩, fun j hj hnj => ?_, fun q' p1 p2 p3 ob2 hk2 hne2 => ?_⟩
      · rw [hbo _ g1]
        by_cases hji : j = (σ i).next
        · rw [hji, hbid]; omega
        · have hm := hmM j hj hji
          rw [hbo j hm.1]
          exact g6 j hm hnj
      · rw [hbo _ g1]
        by_cases hqi' : q' = i
        · rw [hqi', hbid]; omega
        · have p2' : q' ∈ S := (List.mem_cons.1 p2).resolve_left hqi'
          obtain ⟨k1, k2, k3⟩ := olds q' p1 p2' p3 ob2 hk2
          rw [hbo _ k1]
          exact g7 q' p1 p2' p3 ob2 hk2 hne2
  · intro bl hbl hn
    rw [heap_alloc_old w obj bl (Nat.lt_of_lt_of_le hbl h.wsize)]
    exact h.kept bl hbl hn
  · intro j hj hnj hg hltj
    by_cases hji : j = (σ i).next
    · have hltj' : (e.more (σ i).next w.heap.size size).blk j < w0.heap.size := hltj
      rw [hji, hbid] at hltj'
      have := h.wsize; omega
    · have hm := hmM j hj hji
      have hltj' : (e.more (σ i).next w.heap.size size).blk j < w0.heap.size := hltj
      rw [hbo j hm.1] at hltj'
      obtain ⟨k, k1, k2, k3, k4⟩ := h.orig j hm hnj hg hltj'
      refine ⟨k, k1, k2, k3, ?_⟩
      show _ = (e.more (σ i).next w.heap.size size).blk j
      rw [hbo j hm.1]; exact k4
end
end Go.Proofs.YtdolijagffcfgaaGreatDoor.Ev

/-
  Every order of a drawn region comes to the same: operations that keep their order.
-/
namespace Go.Proofs.YtdolijagffcfgaaGreatDoor.Ev
section
variable {P : Program} {ng base : Nat} {tab : Tab P} {fr : Fr} {ops : Array Oper} {N : Nat} {R : Nat → Tr} {tm : Nat → T V} {ds : Nat → List ADef} {u : Nat → U} {σ : Nat → St}
variable {b : Frame} {e0 : Env} {w0 : World} {cs0 : List Frame} {S : List Nat} {m : Nat} {e : Env} {a : Act} {cs : List Frame} {w : World}

/-- up to an ordered operation that comes next -/
theorem Inv.upto (h : Inv P ng base fr b N R tm ds u σ e0 w0 cs0 S m e a cs w) (hR : Rec P ng tab fr ops.toList N R tm ds u σ) (h0 : ∀ i, e0.M i → i < (σ 0).next) {i : Nat} (hi : i ≤ N) (hmi : m ≤ i) (hno : ∀ k, m ≤ k → k < i → ¬ (R k).isEff) : Inv P ng base fr b N R tm ds u σ e0 w0 cs0 S i e a cs w := by
  have := Inv.shifts hR h0 (i - m) h (by omega) (fun k k1 k2 => hno k k1 (by omega))
  rwa [show m + (i - m) = i by omega] at this

theorem last_eff {p : Nat → Prop} {m i : Nat} (h : ∃ k, m ≤ k ∧ k < i ∧ p k) : ∃ k, m ≤ k ∧ k < i ∧ p k ∧ ∀ q, k < q → q < i → ¬ p q := by
  classical
  induction i with
  | zero => obtain ⟨k, _, h2, _⟩ := h; omega
  | succ i ih =>
    by_cases hp : p i ∧ m ≤ i
    · exact ⟨i, hp.2, Nat.lt_succ_self _, hp.1, fun q q1 q2 => by omega⟩
    · obtain ⟨k, h1, h2, h3⟩ := h
      have hki : k < i := by
        rcases Nat.lt_or_ge k i with h | h
        · exact h
        · have : k = i := by omega
          rw [this] at h1 h3
          exact absurd ⟨h3, h1⟩ hp
      obtain ⟨k', g1, g2, g3, g4⟩ := ih ⟨k, h1, hki, h3⟩
      refine ⟨k', g1, by omega, g3, fun q q1 q2 hq => ?_⟩
      rcases Nat.lt_or_ge q i with h | h
      · exact g4 q q1 h hq
      · have : q = i := by omega
        rw [this] at hq
        exact hp ⟨hq, by omega⟩

theorem KS.mono {e e' : Env} (h : e.le e') {fr : Fr} {u : U} {cs cs' : List Frame} (r : KS e fr u cs cs') : KS e' fr u cs cs' := by
  refine ⟨r.1, fun hd => ?_⟩
  obtain ⟨c, x, mo, y1, y2, y3⟩ := r.2 hd
  exact ⟨c, x, mo, y1, y2, y3.mono h⟩

theorem opsBd_cut {o : Oper} {ρ : Operand → V} {n : Nat} (hb : opsBd n ρ o = true) {e : Env} {a : Act} (h : ∀ x, VR e (restr o ρ x) (a.eval x)) : ∀ x, VR (e.cut n) (restr o ρ x) (a.eval x) := by
  intro x
  have hx := h x
  unfold restr at hx ⊢
  split
  · rename_i hm
    rw [if_pos hm] at hx
    exact VR.cut _ _ (allL_spec hb x (by simpa using hm)) hx
  · simp only [VR]

/-- what is known after an ordered operation -/
def Env.glue (e e1 : Env) (n1 : Nat) : Env := ⟨fun x => e1.M x ∨ (e.M x ∧ n1 ≤ x), fun x => if x < n1 then e1.blk x else e.blk x, fun x => if x < n1 then e1.size x else e.size x⟩

theorem Env.glue_cut {e e1 : Env} {n1 : Nat} (h1 : ∀ x, e1.M x → x < n1) : e1.le ((e.glue e1 n1).cut n1) ∧ ∀ x, ((e.glue e1 n1).cut n1).M x → e1.M x := by
  refine ⟨⟨fun x hx => ⟨⟨.inl hx, h1 x hx⟩, ?_, ?_⟩⟩, fun x hx => ?_⟩
  · show (if x < n1 then _ else _) = _; rw [if_pos (h1 x hx)]
  · show (if x < n1 then _ else _) = _; rw [if_pos (h1 x hx)]
  · rcases hx.1 with h | h
    · exact h
    · have := hx.2; omega

theorem Env.glue_le {e e1 : Env} {n0 n1 : Nat} (h1 : ∀ x, e1.M x → x < n1) (hle : (e.cut n0).le e1) (hgap : ∀ x, n0 ≤ x → x < n1 → ¬ e.M x) : e.le (e.glue e1 n1) := by
  refine ⟨fun x hx => ?_⟩
  rcases Nat.lt_or_ge x n0 with hlt | hge
  · obtain ⟨g1, g2, g3⟩ := hle.mono x ⟨hx, hlt⟩
    refine ⟨.inl g1, ?_, ?_⟩
    · show (if x < n1 then _ else _) = _; rw [if_pos (h1 x g1)]; exact g2
    · show (if x < n1 then _ else _) = _; rw [if_pos (h1 x g1)]; exact g3
  · have hn : n1 ≤ x := by
      rcases Nat.lt_or_ge x n1 with h | h
      · exact absurd hx (hgap x hge h)
      · exact h
    refine ⟨.inr ⟨hx, hn⟩, ?_, ?_⟩
    · show (if x < n1 then _ else _) = _; rw [if_neg (by omega)]
    · show (if x < n1 then _ else _) = _; rw [if_neg (by omega)]

/-- no ordered operation is left between -/
theorem Inv.noEff (h : Inv P ng base fr b N R tm ds u σ e0 w0 cs0 S m e a cs w) {i : Nat} (hi : i ≤ N) {o : Oper} (ho : ops[i]? = some o) (hcl : Cl ops S) (hpre : Pre ops S i)
    (hch : ∀ j, j < i → (R j).isEff → (∀ k, j < k → k < i → ¬ (R k).isEff) → ordB ops.toList o j = true) : ∀ k, m ≤ k → k < i → ¬ (R k).isEff := by
  intro k k1 k2 hk
  obtain ⟨k', g1, g2, g3, g4⟩ := last_eff (p := fun k => (R k).isEff) ⟨k, k1, k2, hk⟩
  have := goB_in hcl 5 _ _ (hpre o ho) (hch k' g2 g3 g4)
  have := (h.eff k' (by omega) g3).1 this
  omega

theorem Inv.effs (h : Inv P ng base fr b N R tm ds u σ e0 w0 cs0 S m e a cs w) (hR : Rec P ng tab fr ops.toList N R tm ds u σ) (h0 : ∀ i, e0.M i → i < (σ 0).next) (hnb : ng ≤ base) (hst : staticB ops.toList = true) (hcl : Cl ops S) {i : Nat} (hi : i < N) (hS : i ∉ S) (hpre : Pre ops S i) {log : List (Nat × Nat × Nat)} (hk : (R i).kd = .eff log)
    (rest : List Nat) (k : List Item) :
    ∃ e' a' cs' w', Steps P (lone (b.atR a (.inRegion ops (i :: rest) :: k)) cs w) (lone (b.atR a' (.inRegion ops rest :: k)) cs' w') ∧ Inv P ng base fr b N R tm ds u σ e0 w0 cs0 (i :: S) (i + 1) e' a' cs' w' := by
  have hie : (R i).isEff := ⟨log, hk⟩
  have hmi : m ≤ i := by
    rcases Nat.lt_or_ge i m with h1 | h1
    · exact absurd ((h.eff i hi hie).2 h1) hS
    · exact h1
  have ho := hR.oper hi
  have h2 := h.upto hR h0 (Nat.le_of_lt hi) hmi (h.noEff (Nat.le_of_lt hi) ho hcl hpre fun j j1 j2 j3 => hR.chain j i j1 hi hie j2 j3)
  obtain ⟨x1, x2, x3, x4, x5⟩ := hR.idx i hi
  obtain ⟨_, _, _, _, _, h6⟩ := hR.step i hi
  rw [hk] at h6
  simp only at h6
  obtain ⟨hw, hbd, σ1, g1, g2, g3, g4⟩ := h6
  unfold Want at hw
  rw [x2] at hw
  rw [x2, x5] at hbd
  rw [x5] at g1 g3
  rw [x2, x3, x4, x5] at g4
  have hoper := opsBd_cut hbd (h2.operand hR hst hcl (Nat.le_of_lt hi) ho hS hpre)
  have hwant := h2.wants hR hst hcl (Nat.le_of_lt hi) ho hS hpre hw
  obtain ⟨e1, dl, cs', w', z, r1, r2, r3, r4, r5, r6⟩ := g4 base (e.cut (σ i).next) b a cs w ops i rest k h2.room hnb (h2.main.log []) h2.glob h2.bf hoper h2.dl h2.ks.kr ho hwant
  have hn1 : (σ (i + 1)).next = σ1.next := by rw [g1]
  have hlim : ∀ x, e1.M x → x < (σ (i + 1)).next := fun x hx => by rw [hn1]; exact r4.lim x hx
  have hgap : ∀ x, (σ i).next ≤ x → x < (σ (i + 1)).next → ¬ e.M x := fun x h1' h2' => h2.unknown hR h0 hi hS h1' h2'
  obtain ⟨q1, q2⟩ := Env.glue_cut (e := e) hlim
  have q3 := Env.glue_le hlim r5.le hgap
  have hmain : Rel ng base ((e.glue e1 (σ (i + 1)).next).cut (σ (i + 1)).next) (σ (i + 1)) w' := by
    have := (r4.congr q1 q2).log (log ++ (σ i).log)
    rw [g1]
    rw [g1] at this
    exact this
  have hat : ∀ x, (σ (i + 1)).at x = σ1.at x := fun x => by rw [g1]; rfl
  have hbl : ∀ x, e1.M x → (e.glue e1 (σ (i + 1)).next).blk x = e1.blk x := fun x hx => by
    show (if x < (σ (i + 1)).next then _ else _) = _; rw [if_pos (hlim x hx)]
  have hdl : ({ a with defers := dl }.put (R i).o.dst z : Act).defers = dl := by cases (R i).o.dst <;> rfl
  obtain ⟨v1, v2, v3⟩ := h2.puts hR hst hi hS q3 (a2 := { a with defers := dl }) (z := z) (VR.mono (q1.trans (Env.cut_le _ _)) _ _ r2) rfl
  refine ⟨e.glue e1 (σ (i + 1)).next, _, cs', w', r1, ⟨hi, fun p hp he => ?_, Nat.le_trans h2.room r5.size, hmain, (h2.glob.mono r5.le).mono q1, (h2.bf.mono r5.le).mono q1, by rw [hdl]; exact r3.mono q1, KS.mono q1 (h2.ks.trans r6), h2.le0.trans q3, ?_, ?_, v1, v2, v3, Nat.le_trans h2.wsize r5.size, ?_, ?_, r5.os.trans h2.os, r5.output.trans h2.output, r5.tape.trans h2.tape⟩⟩
  · constructor
    · intro hm
      rcases List.mem_cons.1 hm with rfl | hm
      · exact Nat.lt_succ_self _
      · have := (h2.eff p hp he).1 hm; omega
    · intro hlt
      rcases Nat.lt_or_ge p i with h' | h'
      · exact List.mem_cons_of_mem _ ((h2.eff p hp he).2 h')
      · have : p = i := by omega
        rw [this]; simp
  · rintro x (hx | ⟨hx, _⟩)
    · by_cases hc : (e.cut (σ i).next).M x
      · rcases h2.ids x hc.1 with h1' | ⟨q, p1, p2, p3⟩
        · exact .inl h1'
        · exact .inr ⟨q, p1, List.mem_cons_of_mem _ p2, p3⟩
      · exact .inr ⟨i, hi, by simp, r5.newer x hx hc, hlim x hx⟩
    · rcases h2.ids x hx with h1' | ⟨q, p1, p2, p3⟩
      · exact .inl h1'
      · exact .inr ⟨q, p1, List.mem_cons_of_mem _ p2, p3⟩
  · intro q p1 p2 p3 ob hkq
    have hqi : q ≠ i := by omega
    have p2' : q ∈ S := (List.mem_cons.1 p2).resolve_left hqi
    obtain ⟨y1, y2, y3, ⟨o, y4, y5⟩, y6, y7⟩ := h2.early q p1 p2' (by omega) ob hkq
    have hge : (σ (i + 1)).next ≤ (σ q).next := hR.next (by omega) (Nat.le_of_lt p1)
    have hbq : ∀ q', q' < N → i + 1 ≤ q' → (e.glue e1 (σ (i + 1)).next).blk (σ q').next = e.blk (σ q').next := fun q' c1 c2 => by
      have : (σ (i + 1)).next ≤ (σ q').next := hR.next c2 (Nat.le_of_lt c1)
      show (if (σ q').next < (σ (i + 1)).next then _ else _) = _; rw [if_neg (by omega)]
    have hblk := hbq q p1 p3
    have hbsz : e.blk (σ q).next < w.heap.size := (Array.getElem?_eq_some_iff.1 y4).1
    refine ⟨.inr ⟨y1, hge⟩, by rw [hblk]; exact y2, by rw [hblk]; exact y3, ⟨o, ?_, y5.mono q3 y1⟩, fun x hx hnx => ?_, fun q' c1 c2 c3 ob' hk' hne => ?_⟩
    · rw [hblk, r5.kept _ hbsz (fun x hx hnx hg => y6 x hx hnx)]
      exact y4
    · rw [hblk]
      have hx1 := q2 x hx
      rw [hat] at hnx
      rw [hbl x hx1]
      intro heq
      rcases Nat.lt_or_ge x ng with hxg | hxg
      · obtain ⟨c1, c2⟩ := h2.glob x hxg
        have hb1 := (r5.le.mono x c1).2.1
        rw [hb1, c2] at heq
        omega
      · obtain ⟨j, j1, j2, j3, j4⟩ := r5.orig x hx1 hnx hxg (by rw [heq]; exact hbsz)
        exact y6 j j1 j2 (j4.trans heq)
    · rw [hblk, hbq q' c1 c3]
      have hqi' : q' ≠ i := by omega
      exact y7 q' c1 ((List.mem_cons.1 c2).resolve_left hqi') (by omega) ob' hk' hne
  · intro bl hbl' hn
    rw [r5.kept bl (Nat.lt_of_lt_of_le hbl' h2.wsize) (fun x hx hnx hg heq => ?_)]
    · exact h2.kept bl hbl' hn
    · have heq' : e.blk x = bl := heq
      obtain ⟨j, j1, j2, j3, j4⟩ := h2.orig x hx hnx hg (by rw [heq']; exact hbl')
      exact hn j j1 j2 j3 (j4.trans heq')
  · intro x hx hnx hg hlt
    have hx1 := q2 x hx
    rw [hat] at hnx
    have hlt' : (e.glue e1 (σ (i + 1)).next).blk x < w0.heap.size := hlt
    rw [hbl x hx1] at hlt'
    obtain ⟨j, j1, j2, j3, j4⟩ := r5.orig x hx1 hnx hg (Nat.lt_of_lt_of_le hlt' h2.wsize)
    have j4' : e.blk j = e1.blk x := j4
    obtain ⟨k', c1, c2, c3, c4⟩ := h2.orig j j1 j2 j3 (by rw [j4']; exact hlt')
    refine ⟨k', c1, c2, c3, ?_⟩
    show _ = (e.glue e1 (σ (i + 1)).next).blk x
    rw [hbl x hx1, ← j4']; exact c4
end
end Go.Proofs.YtdolijagffcfgaaGreatDoor.Ev

