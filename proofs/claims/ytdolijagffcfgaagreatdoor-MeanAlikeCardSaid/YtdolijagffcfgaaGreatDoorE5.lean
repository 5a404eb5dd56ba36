/-
  The evaluator, part 6 of 6: a program of the model is run by the kernel, piece by piece, and what it computes is proved of the run itself. No condition.
-/
import Derived.Lib.Bytealg
import Derived.Lib.Builder
import Derived.ChangeKeysEq
import Derived.Test.YtdolijagffcfgaaGreatDoorE4
set_option linter.unusedVariables false
set_option linter.unusedSimpArgs false
/-
  The evaluator's tables: a trie of facts, and the functions without a body that touch no memory.
-/
namespace Go.Proofs.YtdolijagffcfgaaGreatDoor.Ev

/-! ### a trie of facts -/
def AllT {α : Type} (Q : Nat → α → Prop) : Nat → Nat → Nat → T α → Prop
  | _, _, _, .nil => True
  | 0, k, _, .node v _ _ => Q k v
  | d + 1, k, s, .node _ l r => AllT Q d k (2 * s) l ∧ AllT Q d (k + s) (2 * s) r

theorem AllT.get {α : Type} {Q : Nat → Option α → Prop} : ∀ (d k s : Nat) (t : T (Option α)), AllT Q d k s t → ∀ j, j < 2 ^ d → ∀ x, T.get none d t j = some x → Q (k + s * j) (some x)
  | d, _, _, .nil, _, j, _, x, h => by rw [T.get_nil] at h; cases h
  | 0, k, s, .node v l r, hq, j, hj, x, h => by
    have hj0 : j = 0 := by simpa using hj
    subst hj0
    rw [T.get_zero] at h
    simp only at h
    subst h
    simpa [AllT] using hq
  | d + 1, k, s, .node v l r, hq, j, hj, x, h => by
    rw [T.get_succ] at h
    simp only at h
    have hj' : j / 2 < 2 ^ d := by rw [Nat.pow_succ] at hj; omega
    obtain ⟨h1, h2⟩ := hq
    by_cases h0 : j % 2 = 0
    · rw [if_pos h0] at h
      have := AllT.get d k (2 * s) l h1 (j / 2) hj' x h
      have e : k + 2 * s * (j / 2) = k + s * j := by
        have : j = 2 * (j / 2) := by omega
        rw [Nat.mul_comm 2 s, Nat.mul_assoc, ← this]
      rwa [e] at this
    · rw [if_neg h0] at h
      have := AllT.get d (k + s) (2 * s) r h2 (j / 2) hj' x h
      have e : k + s + 2 * s * (j / 2) = k + s * j := by
        have : j = 2 * (j / 2) + 1 := by omega
        rw [Nat.mul_comm 2 s, Nat.mul_assoc]
        conv => rhs; rw [this, Nat.mul_add, Nat.mul_one]
        omega
      rwa [e] at this

/-- a look into a trie of nine bits -/
noncomputable def look9 {α : Type} (t : T (Option α)) (j : Nat) : Option α := bif Nat.blt j 512 then T.get none 9 t j else none
theorem look9_spec {α : Type} {Q : Nat → Option α → Prop} {t : T (Option α)} (h : AllT Q 9 0 1 t) {j : Nat} {x : α} (hx : look9 t j = some x) : Q j (some x) := by
  unfold look9 at hx
  rw [cond_eq_ite] at hx
  split at hx
  · rename_i hlt
    have := AllT.get 9 0 1 t h j (blt_lt hlt) x hx
    rwa [Nat.zero_add, Nat.one_mul] at this
  · cases hx

section
variable {P : Program}

theorem VR.of8 {v : V} {z : Value} (h : v = ofV 8 z) (e : Env) : VR e v z := by rw [h]; exact ofV_sound e 8 z

def QT (P : Program) (k : Nat) (o : Option TI) : Prop := ∀ ti, o = some ti → TIok P k ti
theorem QT.of {k : Nat} {ti : TI} (h : TIok P k ti) : QT P k (some ti) := fun t ht => by cases ht; exact h
theorem QT.no {k : Nat} : QT P k none := fun t ht => by cases ht
def FOk (P : Program) (f : FuncId) (x : Func) : Prop := P.funcs[f]? = some x ∧ (x.name == "runtime.NumGoroutine") = false ∧ x.body.isSome = true
def QF (P : Program) (k : Nat) (o : Option Func) : Prop := ∀ x, o = some x → FOk P k x
theorem QF.of {k : Nat} {x : Func} (h : FOk P k x) : QF P k (some x) := fun t ht => by cases ht; exact h
theorem QF.no {k : Nat} : QF P k none := fun t ht => by cases ht

/-! ### functions without a body -/
def ExtOk (P : Program) (f : FuncId) (F : List V → Option V) : Prop :=
  ∀ args v, F args = some v → ∀ e (ARGS : Array Value), VRs e args ARGS.toList → ∃ z, VR e v z ∧ ∀ w, (callFunc f ARGS).run P w = .ok (.value z) w

theorem VRs.one {e : Env} {v : V} {A : Array Value} (h : VRs e [v] A.toList) : ∃ z, A = #[z] ∧ VR e v z := by
  have hl := h.length
  simp at hl
  obtain ⟨z, hz⟩ : ∃ z, A = #[z] := Array.size_eq_one_iff.1 hl.symm
  subst hz
  simp only [VRs] at h
  exact ⟨z, rfl, h.1⟩
theorem VRs.two {e : Env} {v u : V} {A : Array Value} (h : VRs e [v, u] A.toList) : ∃ y z, A = #[y, z] ∧ VR e v y ∧ VR e u z := by
  obtain ⟨l⟩ := A
  match l, h with
  | [], h => simp only [VRs] at h
  | [_], h => simp only [VRs] at h; exact h.2.elim
  | [y, z], h => simp only [VRs] at h; exact ⟨y, z, rfl, h.1, h.2.1⟩
  | _ :: _ :: _ :: _, h => simp only [VRs] at h; exact h.2.2.elim

noncomputable def noEscA (args : List V) : Option V := match args with | [x] => some x | _ => none
theorem noEscA_ok {f : FuncId} {fn : Func} (hf : P.funcs[f]? = some fn) (hname : (fn.name == "runtime.NumGoroutine") = false) (hb : fn.body.isNone = true) (hn : Extern.findNext fn = none) (he : Extern.find fn = some Extern.AbiNoEscape.same) : ExtOk P f noEscA := by
  intro args v h e ARGS ha
  unfold noEscA at h
  split at h
  · simp only [Option.some.injEq] at h
    subst h
    obtain ⟨z, rfl, hz⟩ := ha.one
    refine ⟨z, hz, fun w => ?_⟩
    rw [run_callFunc_extern hf hname hb hn he, Lib.run_noEscape]
    rfl
  · cases h

noncomputable def cntN (c : Nat) : List Nat → Nat
  | [] => 0
  | a :: l => bif Nat.beq a c then Nat.succ (cntN c l) else cntN c l
noncomputable def idxN (c : Nat) : List Nat → Nat → Option Nat
  | [], _ => none
  | a :: l, i => bif Nat.beq a c then some i else idxN c l (Nat.succ i)

noncomputable def countA (args : List V) : Option V := match args with | [.str s, .int .u8 (.ofNat c)] => bif Nat.blt c 256 then some (natA (cntN c s)) else none | _ => none
noncomputable def indexByteA (args : List V) : Option V :=
  match args with
  | [.str s, .int .u8 (.ofNat c)] => bif Nat.blt c 256 then (match idxN c s 0 with | some i => some (natA i) | none => some (.int .i64 (.negSucc 0))) else none
  | _ => none

theorem beq_byte {a c : Nat} (ha : a < 256) (hc : c < 256) : ((UInt8.ofNat a) == (Int.ofNat c).toNat.toUInt8) = Nat.beq a c := by
  have hcc : (Int.ofNat c).toNat.toUInt8 = UInt8.ofNat c := rfl
  rw [hcc]
  cases h : Nat.beq a c with
  | true => have := Nat.eq_of_beq_eq_true h; subst this; simp
  | false =>
    have hne := Nat.ne_of_beq_eq_false h
    cases hq : (UInt8.ofNat a == UInt8.ofNat c) with
    | false => rfl
    | true => exact absurd (ofNat_inj ha hc (by simpa using hq)) hne

theorem cntN_eq {c : Nat} (hc : c < 256) : ∀ s : List Nat, (∀ n ∈ s, n < 256) → (Lib.countByte (s.map UInt8.ofNat) (Int.ofNat c).toNat.toUInt8) = cntN c s
  | [], _ => rfl
  | a :: s, h => by
    have ih := cntN_eq hc s fun n hn => h n (by simp [hn])
    unfold Lib.countByte at ih ⊢
    rw [List.map_cons, List.count_cons, ih, beq_byte (h a (by simp)) hc]
    simp only [cntN, cond_eq_ite]
    split <;> simp

theorem idxN_eq {c : Nat} (hc : c < 256) : ∀ (s : List Nat) (i : Nat), (∀ n ∈ s, n < 256) → (match idxN c s i with | some j => i ≤ j ∧ Lib.indexByte (s.map UInt8.ofNat) (Int.ofNat c).toNat.toUInt8 = (j : Int) - i | none => Lib.indexByte (s.map UInt8.ofNat) (Int.ofNat c).toNat.toUInt8 = -1)
  | [], _, _ => rfl
  | a :: s, i, h => by
    have ih := idxN_eq hc s (i + 1) fun n hn => h n (by simp [hn])
    simp only [idxN, List.map_cons, Lib.indexByte, beq_byte (h a (by simp)) hc, cond_eq_ite]
    by_cases hb : Nat.beq a c = true
    · rw [if_pos hb, if_pos hb]
      exact ⟨Nat.le_refl _, by omega⟩
    · rw [if_neg hb, if_neg hb]
      cases hj : idxN c s (i + 1) with
      | none =>
        rw [hj] at ih
        simp only at ih ⊢
        rw [ih]
        simp
      | some j =>
        rw [hj] at ih
        simp only at ih ⊢
        obtain ⟨h1, h2⟩ := ih
        refine ⟨by omega, ?_⟩
        rw [h2]
        have hne : ¬ ((j : Int) - ((i + 1 : Nat) : Int)) = -1 := by omega
        rw [if_neg (by simpa using hne)]
        omega

theorem countA_ok {f : FuncId} {fn : Func} (hf : P.funcs[f]? = some fn) (hname : (fn.name == "runtime.NumGoroutine") = false) (hb : fn.body.isNone = true) (hn : Extern.findNext fn = none) (he : Extern.find fn = some Extern.BytealgCount.count) : ExtOk P f countA := by
  intro args v h e ARGS ha
  unfold countA at h
  split at h
  · rename_i s c
    rw [cond_eq_ite] at h
    split at h
    · rename_i hc
      simp only [Option.some.injEq] at h
      subst h
      obtain ⟨y, z, rfl, hy, hz⟩ := ha.two
      simp only [VR] at hy hz
      obtain ⟨rfl, hs⟩ := hy
      subst hz
      refine ⟨.int .i64 (cntN c s), by simp only [natA, VR]; rfl, fun w => ?_⟩
      rw [run_callFunc_extern hf hname hb hn he, Lib.run_countString]
      have : (strOf s).data.toList = s.map UInt8.ofNat := by simp [strOf]
      rw [this, cntN_eq (blt_lt hc) s hs]
      rfl
    · cases h
  · cases h

theorem indexByteA_ok {f : FuncId} {fn : Func} (hf : P.funcs[f]? = some fn) (hname : (fn.name == "runtime.NumGoroutine") = false) (hb : fn.body.isNone = true) (hn : Extern.findNext fn = none) (he : Extern.find fn = some Extern.BytealgIndexByte.indexByte) : ExtOk P f indexByteA := by
  intro args v h e ARGS ha
  unfold indexByteA at h
  split at h
  · rename_i s c
    rw [cond_eq_ite] at h
    split at h
    · rename_i hc
      obtain ⟨y, z, rfl, hy, hz⟩ := ha.two
      simp only [VR] at hy hz
      obtain ⟨rfl, hs⟩ := hy
      subst hz
      have hd : (strOf s).data.toList = s.map UInt8.ofNat := by simp [strOf]
      have hi := idxN_eq (blt_lt hc) s 0 hs
      have hrun : ∀ w, (callFunc f #[.string (strOf s), .int .u8 (.ofNat c)]).run P w = .ok (.value (.int .i64 (Lib.indexByte (s.map UInt8.ofNat) (Int.ofNat c).toNat.toUInt8))) w := by
        intro w
        rw [run_callFunc_extern hf hname hb hn he, Lib.run_indexByteString, hd]
        rfl
      split at h
      · rename_i j hj
        rw [hj] at hi
        simp only [Option.some.injEq] at h
        subst h
        have hv : Lib.indexByte (s.map UInt8.ofNat) (Int.ofNat c).toNat.toUInt8 = (j : Int) := by have := hi.2; simpa using this
        rw [hv] at hrun
        exact ⟨.int .i64 j, by simp only [natA, VR]; rfl, hrun⟩
      · rename_i hj
        rw [hj] at hi
        simp only [Option.some.injEq] at h
        subst h
        rw [show Lib.indexByte (s.map UInt8.ofNat) (Int.ofNat c).toNat.toUInt8 = Int.negSucc 0 from hi] at hrun
        exact ⟨.int .i64 (.negSucc 0), by simp only [VR], hrun⟩
    · cases h
  · cases h
end
end Go.Proofs.YtdolijagffcfgaaGreatDoor.Ev

/-
  The evaluator's answer, as a contract: a call without arguments whose result is known, at a memory whose first blocks are as the call knew them.
-/
namespace Go.Proofs.YtdolijagffcfgaaGreatDoor.Ev
variable {P : Program} {ng : Nat}

/-- the first blocks of a memory, each under its own number -/
def env0 (ng : Nat) (w : World) : Env := { M := fun i => i < ng, blk := fun i => i, size := fun i => match w.heap[i]? with | some (.cells c _ _) => c.size | _ => 0 }

theorem MemoOk.calls {m : Memo} (hm : MemoOk P ng m) (ha : m.args = []) (hlo : m.lo = ng) {w : World} (hng : ng ≤ w.heap.size)
    (hpre : ∀ b ob, (b, ob) ∈ m.pre → ∃ ty vs c, ob = .cells ty vs false false ∧ w.heap[b]? = some (.cells c ty (0, 0)) ∧ VRs (env0 ng w) vs c.toList) :
    Calls P m.f #[] w fun E w' => (∃ e', ER e' (.ret m.out) E) ∧ w'.os = w.os ∧ w'.output = w.output ∧ w'.tape = w.tape ∧ w.heap.size ≤ w'.heap.size ∧ ∀ b, b < w.heap.size → w'.heap[b]? = w.heap[b]? := by
  obtain ⟨σ0, σ', u, u', c1, c2, c3, c4, c5, c6⟩ := hm.does
  intro cs
  rw [ha] at c6
  have hrel : Rel ng w.heap.size (env0 ng w) σ0 w := by
    refine ⟨c2.next, fun i hi => by rw [c1, hlo]; exact hi, fun i hi => Nat.lt_of_lt_of_le hi hng, fun i hi hno => ?_, fun i j _ _ _ _ he => he, fun i hi hgi => absurd hi (Nat.not_lt.2 hgi), c2.fresh⟩
    obtain ⟨ty, vs, c, h1, h2, h3⟩ := hpre _ _ (c3 i (by rw [hlo]; exact hi) hno)
    refine ⟨_, h2, ?_⟩
    rw [h1]
    refine ⟨c, (0, 0), c.toList, [], rfl, (List.append_nil _).symm, h3, ?_, fun _ => rfl, fun _ => rfl⟩
    show c.size = (match w.heap[i]? with | some (.cells c _ _) => c.size | _ => 0)
    rw [h2]
  obtain ⟨e', w', fr, E, d1, d2, d3, d4, d5, d6⟩ := c6 w.heap.size (env0 ng w) w #[] (Nat.le_refl _) hng hrel (fun g hg => ⟨hg, rfl⟩) VRs.nil cs
  refine ⟨E, w', fr, ⟨⟨e', d4⟩, d6.os, d6.output, d6.tape, d6.size, fun b hb => d6.kept b hb fun i hi _ hgi => absurd hi (Nat.not_lt.2 hgi)⟩, ?_, d2, d3⟩
  cases E with
  | returned z => exact d1
  | panicked _ => exact d4.elim
  | outgrown => exact d4.elim
end Go.Proofs.YtdolijagffcfgaaGreatDoor.Ev

/-
  A method that a type has by itself, without a pointer and without a promoted field.
-/
namespace Go.Proofs.YtdolijagffcfgaaGreatDoor.Ev
open Go

theorem method_plain {P : Program} {t : TypeId} {i : TypeInfo} {d : TypeDesc} {m : Method} {f : FuncId} {name : String}
    (hi : P.info? t = some i) (hd : P.underlying t = some d) (hnp : ∀ e, d ≠ .pointer e)
    (hm : i.methods.find? (fun m => m.name == name) = some m) (hp : m.path = #[]) (hf : m.func = some (f, false)) (x : Value) (w : World) :
    (method (P.types.size + Made.depth) t x name).run P w = .ok (f, x) w := by
  have hn : P.types.size + Made.depth = (P.types.size + 99) + 1 := rfl
  rw [hn]
  unfold method
  rw [Sem.run_bind, run_typeInfo w hi, Result.andThen_ok]
  simp only [hm]
  rw [hp, hf, Sem.run_bind]
  simp only [follow, Sem.run_pure, Result.andThen_ok, Sem.run_bind]
  have hr : (receiverAt t (.val x) false (if (#[] : Array FieldStep).isEmpty then some ((name.splitOn ".").getLastD name) else none)).run P w = .ok x w := by
    unfold receiverAt
    rw [Sem.run_bind, run_underlying hd, Result.andThen_ok]
    split <;> first | contradiction | exact absurd rfl (hnp _) | rfl
  rw [hr]
  rfl
end Go.Proofs.YtdolijagffcfgaaGreatDoor.Ev

