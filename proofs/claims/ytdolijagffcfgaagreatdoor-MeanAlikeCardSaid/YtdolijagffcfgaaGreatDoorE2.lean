/-
  The evaluator, part 3 of 6: a program of the model is run by the kernel, piece by piece, and what it computes is proved of the run itself. No condition.
-/
import Derived.Lib.UnsafeStr
import Derived.Lib.Builder
import Derived.Laws.IdiomStrings
import Derived.AtR
import Derived.Recover
import Derived.Test.YtdolijagffcfgaaGreatDoorE1
set_option linter.unusedVariables false
set_option linter.unusedSimpArgs false
/-
  The evaluator's maps, written; the walk through a string; rows made by 'make'.
-/
namespace Go.Proofs.YtdolijagffcfgaaGreatDoor.Ev
section
variable {P : Program} {ng : Nat}

theorem MRs.get {e : Env} : ∀ {l : List (V × V × Nat)} {m : List MapEntry} (_ : MRs e l m) (i : Nat) (p : V × V × Nat), l[i]? = some p → ∃ x, m[i]? = some x ∧ VR e p.1 x.key ∧ VR e p.2.1 x.val ∧ x.born = p.2.2
  | [], [], _, i, p, hp => by simp at hp
  | (k, v, n) :: l, x :: m, h, i, p, hp => by
    cases i with
    | zero =>
      simp only [List.getElem?_cons_zero, Option.some.injEq] at hp
      subst hp
      exact ⟨x, by simp, h.1⟩
    | succ i =>
      obtain ⟨y, h1, h2⟩ := MRs.get h.2 i p (by simpa using hp)
      exact ⟨y, by simpa using h1, h2⟩
  | [], _ :: _, h, _, _, _ => h.elim
  | _ :: _, [], h, _, _, _ => by simp only [MRs] at h

theorem MRs.modify {e : Env} {f : MapEntry → MapEntry} {k v : V} {n : Nat} : ∀ {l : List (V × V × Nat)} {m : List MapEntry} (_ : MRs e l m) (i : Nat), (∀ x, m[i]? = some x → VR e k (f x).key ∧ VR e v (f x).val ∧ (f x).born = n) → MRs e (l.set i (k, v, n)) (m.modify i f)
  | [], [], _, i, _ => by cases i <;> trivial
  | (k', v', n') :: l, x :: m, h, i, hf => by
    cases i with
    | zero => exact ⟨hf x (by simp), h.2⟩
    | succ i => exact ⟨h.1, MRs.modify h.2 i fun y hy => hf y (by simpa using hy)⟩
  | [], _ :: _, h, _, _ => h.elim
  | _ :: _, [], h, _, _ => by simp only [MRs] at h

theorem MRs.app {e : Env} {k v : V} {n : Nat} {x : MapEntry} (hx : VR e k x.key ∧ VR e v x.val ∧ x.born = n) : ∀ {l : List (V × V × Nat)} {m : List MapEntry} (_ : MRs e l m), MRs e (l ++ [(k, v, n)]) (m ++ [x])
  | [], [], _ => ⟨hx, trivial⟩
  | _ :: _, _ :: _, h => ⟨h.1, MRs.app hx h.2⟩
  | [], _ :: _, h => h.elim
  | _ :: _, [], h => by simp only [MRs] at h

theorem stays {old new : Value} (h : Instr.sameBits 10000 old new = true) (w : World) : (Instr.keyThatStays old new).run P w = .ok new w := by
  unfold Instr.keyThatStays
  rw [if_pos h]
  rfl

noncomputable def mapUpdateA (ng : Nat) (tab : Tab P) (σ : St) (t : TypeId) (x k v : V) (κ : St → Bool) : Bool :=
  match tab.ty t, x with
  | some ti, .mapv b =>
    match ti.desc with
    | .map kt _ =>
      match tab.ty kt, σ.at b with
      | some kti, .map es clock =>
        bif keyOk tab kti k then
          match findA tab kt kti k es with
          | some (some (i, _)) =>
            match lget es i with
            | some (_, _, n) => lsetK es (k, v, n) i fun es' => obK ng σ b (.map es' clock) κ
            | none => false
          | some none => lappK es [(k, v, clock)] fun es' => forceN (Nat.succ clock) fun c' => obK ng σ b (.map es' c') κ
          | none => false
        else false
      | _, _ => false
    | _ => false
  | _, _ => false

theorem mapUpdateA_goes {tab : Tab P} {σ : St} (hwf : AWf σ) {t : TypeId} {x k v : V} {κ : St → Bool} (h : mapUpdateA ng tab σ t x k v κ = true) :
    ∃ σ', κ σ' = true ∧ AWf σ' ∧ AExt σ σ' ∧ ∀ base e w X K Y, Rel ng base e σ w → VR e x X → VR e k K → VR e v Y → ∃ w', (Instr.mapUpdate t X K Y).run P w = .ok () w' ∧ Rel ng base e σ' w' ∧ Ext ng e σ w e σ' w' := by
  unfold mapUpdateA at h
  split at h
  · rename_i ti b hti
    have okt := tab.tyOk _ _ hti
    split at h
    · rename_i kt et hd
      have hu := okt.under
      rw [hd] at hu
      split at h
      · rename_i kti es clock hkti hat
        have okk := tab.tyOk _ _ hkti
        rw [cond_eq_ite] at h
        split at h
        · rename_i hkt
          split at h
          · rename_i i u hf
            split at h
            · rename_i k0 v0 n hg
              rw [lget_eq] at hg
              rw [lsetK_eq] at h
              obtain ⟨σ', h1, h2, h3, h4⟩ := obK_goes (P := P) hwf hat rfl rfl h
              refine ⟨σ', h1, h2, h3, fun base e w X K Y hr hx hk hv => ?_⟩
              simp only [VR] at hx
              obtain ⟨hm, rfl⟩ := hx
              obtain ⟨o, g1, ⟨xs, rfl, g2⟩, g4⟩ := ob_sound hr hm hat rfl
              obtain ⟨z, ent, f1, _, f4, _, f6⟩ := findA_sound okk hk hf g2
              obtain ⟨y, y1, _, _, y4⟩ := MRs.get g2 i _ hg
              have hye : y = ent := by rw [f4] at y1; simpa using y1.symm
              subst hye
              obtain ⟨w', r1, r2, r3⟩ := h4 base e w (.map (xs.modify i fun e => { e with key := K, val := Y }) clock) hr hm ⟨_, rfl, by
                rw [Array.toList_modify]
                exact MRs.modify g2 i fun x hx => ⟨hk, hv, by rw [f4] at hx; simp only [Option.some.injEq] at hx; rw [← hx]; exact y4⟩⟩
              refine ⟨w', ?_, r2, r3⟩
              have hent : xs[i]? = some y := by rw [← Array.getElem?_toList]; exact f4
              simp only [Instr.mapUpdate, Sem.run_bind, Go.run_underlying hu, Result.andThen_ok, getOb (P := P) g1 g4, checkKey_ok okk hkt hk, f1, Sem.run_pure, hent, Option.map_some, Option.getD_some, stays f6]
              exact r1
            · cases h
          · rename_i hf
            rw [lappK_eq, forceN_eq] at h
            obtain ⟨σ', h1, h2, h3, h4⟩ := obK_goes (P := P) hwf hat rfl rfl h
            refine ⟨σ', h1, h2, h3, fun base e w X K Y hr hx hk hv => ?_⟩
            simp only [VR] at hx
            obtain ⟨hm, rfl⟩ := hx
            obtain ⟨o, g1, ⟨xs, rfl, g2⟩, g4⟩ := ob_sound hr hm hat rfl
            have f1 := findA_sound okk hk hf g2
            simp only at f1
            obtain ⟨w', r1, r2, r3⟩ := h4 base e w (.map (xs.push { key := K, val := Y, born := clock }) (clock + 1)) hr hm ⟨_, rfl, by
              rw [Array.toList_push]
              exact MRs.app (x := { key := K, val := Y, born := clock }) ⟨hk, hv, rfl⟩ g2⟩
            refine ⟨w', ?_, r2, r3⟩
            simp only [Instr.mapUpdate, Sem.run_bind, Go.run_underlying hu, Result.andThen_ok, getOb (P := P) g1 g4, checkKey_ok okk hkt hk, f1, Sem.run_pure]
            exact r1
          · cases h
        · cases h
      · cases h
    · cases h
  · cases h

noncomputable def mapEntryA (ng : Nat) (tab : Tab P) (σ : St) (t : TypeId) (x k : V) (κ : V → St → Bool) : Bool :=
  match tab.ty t, x with
  | some ti, .mapv b =>
    match ti.desc with
    | .map kt et =>
      match tab.ty kt, tab.ty et, σ.at b with
      | some kti, some eti, .map es clock =>
        bif keyOk tab kti k then
          match findA tab kt kti k es with
          | some (some (i, u)) =>
            match lget es i with
            | some (_, _, n) => lsetK es (k, u, n) i fun es' => obK ng σ b (.map es' clock) fun σ' => κ (.tup [u, natA n]) σ'
            | none => false
          | some none => lappK es [(k, eti.zero, clock)] fun es' => forceN (Nat.succ clock) fun c' => obK ng σ b (.map es' c') fun σ' => κ (.tup [eti.zero, natA clock]) σ'
          | none => false
        else false
      | _, _, _ => false
    | _ => false
  | _, _ => false

theorem mapEntryA_goes {tab : Tab P} {σ : St} (hwf : AWf σ) {t : TypeId} {x k : V} {κ : V → St → Bool} (h : mapEntryA ng tab σ t x k κ = true) :
    ∃ u σ', κ u σ' = true ∧ AWf σ' ∧ AExt σ σ' ∧ ∀ base e w X K, Rel ng base e σ w → VR e x X → VR e k K → ∃ w' z, (Instr.mapEntry t X K).run P w = .ok z w' ∧ VR e u z ∧ Rel ng base e σ' w' ∧ Ext ng e σ w e σ' w' := by
  unfold mapEntryA at h
  split at h
  · rename_i ti b hti
    have okt := tab.tyOk _ _ hti
    split at h
    · rename_i kt et hd
      have hu := okt.under
      rw [hd] at hu
      split at h
      · rename_i kti eti es clock hkti heti hat
        have okk := tab.tyOk _ _ hkti
        have oke := tab.tyOk _ _ heti
        obtain ⟨z0, hz1, hz2⟩ := oke.run_zero
        rw [cond_eq_ite] at h
        split at h
        · rename_i hkt
          split at h
          · rename_i i u hf
            split at h
            · rename_i k0 v0 n hg
              rw [lget_eq] at hg
              rw [lsetK_eq] at h
              obtain ⟨σ', h1, h2, h3, h4⟩ := obK_goes (P := P) hwf hat rfl rfl h
              refine ⟨_, σ', h1, h2, h3, fun base e w X K hr hx hk => ?_⟩
              simp only [VR] at hx
              obtain ⟨hm, rfl⟩ := hx
              obtain ⟨o, g1, ⟨xs, rfl, g2⟩, g4⟩ := ob_sound hr hm hat rfl
              obtain ⟨z, ent, f1, f2, f4, f5, f6⟩ := findA_sound okk hk hf g2
              obtain ⟨y, y1, _, _, y4⟩ := MRs.get g2 i _ hg
              have hye : y = ent := by rw [f4] at y1; simpa using y1.symm
              subst hye
              obtain ⟨w', r1, r2, r3⟩ := h4 base e w (.map (xs.modify i fun e => { e with key := K }) clock) hr hm ⟨_, rfl, by
                rw [Array.toList_modify]
                exact MRs.modify g2 i fun x hx => ⟨hk, by rw [f4] at hx; simp only [Option.some.injEq] at hx; rw [← hx, f5]; exact f2, by rw [f4] at hx; simp only [Option.some.injEq] at hx; rw [← hx]; exact y4⟩⟩
              refine ⟨w', .tuple #[z, goInt n], ?_, ?_, r2, r3⟩
              · have hent : xs[i]? = some y := by rw [← Array.getElem?_toList]; exact f4
                simp only [Instr.mapEntry, Sem.run_bind, Go.run_underlying hu, Result.andThen_ok, getOb (P := P) g1 g4, checkKey_ok okk hkt hk, f1, Sem.run_pure, hent, Option.map_some, Option.getD_some, stays f6]
                rw [r1]
                simp only [Result.andThen_ok, y4]
              · simp only [VR]
                exact ⟨_, rfl, VRs.cons f2 (VRs.cons (by simp only [natA, VR]; rfl) VRs.nil)⟩
            · cases h
          · rename_i hf
            rw [lappK_eq, forceN_eq] at h
            obtain ⟨σ', h1, h2, h3, h4⟩ := obK_goes (P := P) hwf hat rfl rfl h
            refine ⟨_, σ', h1, h2, h3, fun base e w X K hr hx hk => ?_⟩
            simp only [VR] at hx
            obtain ⟨hm, rfl⟩ := hx
            obtain ⟨o, g1, ⟨xs, rfl, g2⟩, g4⟩ := ob_sound hr hm hat rfl
            have f1 := findA_sound okk hk hf g2
            simp only at f1
            obtain ⟨w', r1, r2, r3⟩ := h4 base e w (.map (xs.push { key := K, val := z0, born := clock }) (clock + 1)) hr hm ⟨_, rfl, by
              rw [Array.toList_push]
              exact MRs.app (x := { key := K, val := z0, born := clock }) ⟨hk, hz1 e, rfl⟩ g2⟩
            refine ⟨w', .tuple #[z0, goInt clock], ?_, ?_, r2, r3⟩
            · simp only [Instr.mapEntry, Sem.run_bind, Go.run_underlying hu, Result.andThen_ok, getOb (P := P) g1 g4, checkKey_ok okk hkt hk, f1, Sem.run_pure, hz2]
              rw [r1]
              simp only [Result.andThen_ok]
            · simp only [VR]
              exact ⟨_, rfl, VRs.cons (hz1 e) (VRs.cons (by simp only [natA, VR]; rfl) VRs.nil)⟩
          · cases h
        · cases h
      · cases h
    · cases h
  · cases h

noncomputable def bornA (n : Nat) : List (V × V × Nat) → Nat → Option Nat
  | [], _ => none
  | (_, _, m) :: es, i => bif Nat.beq m n then some i else bornA n es (Nat.succ i)

theorem bornA_sound {e : Env} {n : Nat} : ∀ {es : List (V × V × Nat)} {ES : List MapEntry} (i j : Nat), bornA n es i = some j → MRs e es ES → i ≤ j ∧ ES.findIdx? (fun e => (e.born : Int) == (n : Int)) = some (j - i)
  | [], [], i, j, h, _ => by simp [bornA] at h
  | (k, v, m) :: es, x :: ES, i, j, h, hm => by
    simp only [bornA, cond_eq_ite, beq_iff] at h
    have hb := hm.1.2.2
    split at h
    · rename_i hc
      have hc' : m = n := by simpa using hc
      simp only [Option.some.injEq] at h
      subst h
      refine ⟨Nat.le_refl _, ?_⟩
      rw [List.findIdx?_cons, if_pos (by simp [hb, hc'])]
      simp
    · rename_i hc
      have hc' : ¬ m = n := by simpa using hc
      obtain ⟨h1, h2⟩ := bornA_sound (i + 1) j h hm.2
      refine ⟨by omega, ?_⟩
      rw [List.findIdx?_cons, if_neg (by simp [hb]; omega), h2]
      simp
      omega
  | [], _ :: _, _, _, _, hm => hm.elim
  | _ :: _, [], _, _, _, hm => by simp only [MRs] at hm

noncomputable def entryStoreA (ng : Nat) (σ : St) (x s v : V) (κ : St → Bool) : Bool :=
  match x, s with
  | .mapv b, .int _ (.ofNat n) =>
    match σ.at b with
    | .map es clock =>
      match bornA n es 0 with
      | some i =>
        match lget es i with
        | some (k, _, m) => lsetK es (k, v, m) i fun es' => obK ng σ b (.map es' clock) κ
        | none => false
      | none => false
    | _ => false
  | _, _ => false

theorem entryStoreA_goes {σ : St} (hwf : AWf σ) {x s v : V} {κ : St → Bool} (h : entryStoreA ng σ x s v κ = true) :
    ∃ σ', κ σ' = true ∧ AWf σ' ∧ AExt σ σ' ∧ ∀ base e w (t : TypeId) X S Y, Rel ng base e σ w → VR e x X → VR e s S → VR e v Y → ∃ w', (Instr.entryStore t X S Y).run P w = .ok () w' ∧ Rel ng base e σ' w' ∧ Ext ng e σ w e σ' w' := by
  unfold entryStoreA at h
  split at h
  · rename_i b ik n
    split at h
    · rename_i es clock hat
      split at h
      · rename_i i hb
        split at h
        · rename_i k0 v0 m hg
          rw [lget_eq] at hg
          rw [lsetK_eq] at h
          obtain ⟨σ', h1, h2, h3, h4⟩ := obK_goes (P := P) hwf hat rfl rfl h
          refine ⟨σ', h1, h2, h3, fun base e w t X S Y hr hx hs hv => ?_⟩
          simp only [VR] at hx hs
          obtain ⟨hm, rfl⟩ := hx
          subst hs
          obtain ⟨o, g1, ⟨xs, rfl, g2⟩, g4⟩ := ob_sound hr hm hat rfl
          obtain ⟨_, f1⟩ := bornA_sound 0 i hb g2
          simp only [Nat.sub_zero] at f1
          obtain ⟨y, y1, y2, _, y4⟩ := MRs.get g2 i _ hg
          obtain ⟨w', r1, r2, r3⟩ := h4 base e w (.map (xs.modify i fun e => { e with val := Y }) clock) hr hm ⟨_, rfl, by
            rw [Array.toList_modify]
            exact MRs.modify g2 i fun x hx => by rw [y1] at hx; simp only [Option.some.injEq] at hx; subst hx; exact ⟨y2, hv, y4⟩⟩
          refine ⟨w', ?_, r2, r3⟩
          have hfi : xs.findIdx? (fun e => (e.born : Int) == Int.ofNat n) = some i := by
            rcases xs with ⟨xl⟩; simpa using f1
          simp only [Instr.entryStore, Sem.run_bind, Sem.run_pure, Result.andThen_ok, getOb (P := P) g1 g4, asInt, asIntOf, hfi]
          exact r1
        · cases h
      · cases h
    · cases h
  · cases h

/-! ### the walk through a string -/
noncomputable def rangeA (tab : Tab P) (σ : St) (t : TypeId) (x : V) (κ : V → St → Bool) : Bool :=
  match tab.ty t, x with
  | some ti, .str s => match ti.desc with
    | .string => σ.newK (.sit s 0) fun b σ' => κ (.ptr b 0) σ'
    | _ => false
  | _, _ => false

theorem rangeA_goes {tab : Tab P} {σ : St} (hwf : AWf σ) {t : TypeId} {x : V} {κ : V → St → Bool} (h : rangeA tab σ t x κ = true) :
    ∃ u σ', κ u σ' = true ∧ AWf σ' ∧ AExt σ σ' ∧ ∀ base e w X, base ≤ w.heap.size → Rel ng base e σ w → VR e x X → ∃ e' w' z, (Instr.range t X).run P w = .ok z w' ∧ VR e' u z ∧ Rel ng base e' σ' w' ∧ Ext ng e σ w e' σ' w' := by
  unfold rangeA at h
  split at h
  · rename_i ti s hti
    have ok := tab.tyOk _ _ hti
    split at h
    · rename_i hd
      have hu := ok.under
      rw [hd] at hu
      obtain ⟨h1, h2, h3, h4⟩ := newK_goes (P := P) (ng := ng) hwf h
      refine ⟨_, _, h1, h2, h3, fun base e w X hb hr hx => ?_⟩
      simp only [VR] at hx
      obtain ⟨rfl, hs⟩ := hx
      obtain ⟨w', g1, g2, g3⟩ := h4 base e w (.stringIter (strOf s) 0) 0 hb hr ⟨rfl, hs⟩
      refine ⟨_, w', .pointer (some ⟨w.heap.size, 0, none⟩), ?_, ?_, g2, g3⟩
      · simp only [Instr.range, Sem.run_bind, Go.run_underlying hu, Result.andThen_ok, Sem.run_pure, g1]
      · simp only [VR]
        exact ⟨.inr rfl, by simp [Env.more]⟩
    · cases h
  · cases h

noncomputable def nextA (ng : Nat) (σ : St) (x : V) (κ : V → St → Bool) : Bool :=
  match x with
  | .ptr b 0 =>
    match σ.at b with
    | .sit s pos =>
      match lget s pos with
      | some c => bif Nat.blt c 128 then forceN (Nat.succ pos) fun pos' => obK ng σ b (.sit s pos') fun σ' => κ (.tup [.bool true, natA pos, .int .i32 (.ofNat c)]) σ' else false
      | none => κ (.tup [.bool false]) σ
    | _ => false
  | _ => false

theorem nextA_goes {σ : St} (hwf : AWf σ) {x : V} {κ : V → St → Bool} (h : nextA ng σ x κ = true) :
    ∃ u σ', κ u σ' = true ∧ AWf σ' ∧ AExt σ σ' ∧ ∀ base e w X (ty : TypeId), Rel ng base e σ w → VR e x X → ∃ w' z, (Instr.next X true ty).run P w = .ok z w' ∧ VR e u z ∧ Rel ng base e σ' w' ∧ Ext ng e σ w e σ' w' := by
  unfold nextA at h
  split at h
  · rename_i b
    split at h
    · rename_i s pos hat
      split at h
      · rename_i c hc
        rw [lget_eq] at hc
        rw [cond_eq_ite] at h
        split at h
        · rename_i h128
          have h128' := blt_lt h128
          rw [forceN_eq] at h
          obtain ⟨σ', h1, h2, h3, h4⟩ := obK_goes (P := P) hwf hat rfl rfl h
          refine ⟨_, σ', h1, h2, h3, fun base e w X ty hr hx => ?_⟩
          simp only [VR] at hx
          obtain ⟨hm, rfl⟩ := hx
          obtain ⟨o, g1, ⟨rfl, g2⟩, g4⟩ := ob_sound hr hm hat rfl
          obtain ⟨w', r1, r2, r3⟩ := h4 base e w (.stringIter (strOf s) (pos + 1)) hr hm ⟨rfl, g2⟩
          have hpos : pos < s.length := (List.getElem?_eq_some_iff.1 hc).1
          have hdec : Utf8.decode (strOf s) pos = (c, 1) := by
            have hget : ((strOf s).get! pos).toNat = c := by
              have : (strOf s).get! pos = UInt8.ofNat c := by
                have h1 : s[pos] = c := by rw [List.getElem?_eq_getElem hpos] at hc; simpa using hc
                show ((s.map UInt8.ofNat).toArray)[pos]! = _
                simp [hpos, h1]
              rw [this, toNat_ofNat (by omega)]
            simp only [Utf8.decode, Nat.add_zero, hget]
            rw [if_pos h128']
          refine ⟨w', .tuple #[.bool true, goInt pos, .int .i32 c], ?_, ?_, r2, r3⟩
          · have hlt : pos < (strOf s).size := by rw [strOf_size]; exact hpos
            simp only [Instr.next, Sem.run_bind, Sem.run_pure, Result.andThen_ok, getOb (P := P) g1 g4, hlt, if_true, hdec]
            rw [r1]
            rfl
          · simp only [VR]
            exact ⟨_, rfl, VRs.cons (by simp only [VR]) (VRs.cons (by simp only [natA, VR]; rfl) (VRs.cons (by simp only [VR]; rfl) VRs.nil))⟩
        · cases h
      · rename_i hc
        rw [lget_eq] at hc
        refine ⟨_, σ, h, hwf, .refl σ, fun base e w X ty hr hx => ?_⟩
        simp only [VR] at hx
        obtain ⟨hm, rfl⟩ := hx
        obtain ⟨o, g1, ⟨rfl, g2⟩, g4⟩ := ob_sound hr hm hat rfl
        have hpos : ¬ pos < (strOf s).size := by
          rw [strOf_size]
          intro hlt
          rw [List.getElem?_eq_getElem hlt] at hc
          cases hc
        refine ⟨w, .tuple #[.bool false], ?_, ?_, hr, .refl ..⟩
        · simp only [Instr.next, Sem.run_bind, Sem.run_pure, Result.andThen_ok, getOb (P := P) g1 g4, hpos, if_false]
        · simp only [VR]
          exact ⟨_, rfl, VRs.cons (by simp only [VR]) VRs.nil⟩
    · cases h
  · cases h

/-! ### make -/
noncomputable def makeSliceA (tab : Tab P) (σ : St) (t : TypeId) (l c : V) (κ : V → St → Bool) : Bool :=
  match tab.ty t, l, c with
  | some ti, .int _ (.ofNat l), .int _ (.ofNat c) =>
    match ti.desc with
    | .slice elem =>
      match tab.ty elem with
      | some eti =>
        bif Nat.ble l c && Nat.blt c 4294967296 && Nat.ble (Nat.mul eti.bytes c) 281474976710656 then
          match zerosA eti c with
          | some zs => lforceK zs fun zs => rowK σ elem zs fun b σ' => κ (.slice b 0 eti.size l (some c)) σ'
          | none => false
        else false
      | none => false
    | _ => false
  | _, _, _ => false

theorem makeSliceA_goes {tab : Tab P} {σ : St} (hwf : AWf σ) {t : TypeId} {l c : V} {κ : V → St → Bool} (h : makeSliceA tab σ t l c κ = true) :
    ∃ u σ', κ u σ' = true ∧ AWf σ' ∧ AExt σ σ' ∧ ∀ base e w L C, base ≤ w.heap.size → Rel ng base e σ w → VR e l L → VR e c C →
      ∃ e' w' z, (Instr.makeSlice t L C).run P w = .ok z w' ∧ VR e' u z ∧ Rel ng base e' σ' w' ∧ Ext ng e σ w e' σ' w' := by
  unfold makeSliceA at h
  split at h
  · rename_i ti lk l ck c hti
    have ok := tab.tyOk _ _ hti
    split at h
    · rename_i elem hd
      have hu := ok.under
      rw [hd] at hu
      split at h
      · rename_i eti heti
        have oke := tab.tyOk _ _ heti
        obtain ⟨i, i1, i2, i3, _, zv, i5, _⟩ := oke.info
        rw [cond_eq_ite] at h
        split at h
        · rename_i hc0
          simp only [Bool.and_eq_true] at hc0
          obtain ⟨⟨hc1, hc2⟩, hc3⟩ := hc0
          have hlc := Nat.le_of_ble_eq_true hc1
          have hcm := blt_lt hc2
          have hcb : eti.bytes * c ≤ 281474976710656 := Nat.le_of_ble_eq_true hc3
          split at h
          · rename_i zs hzs
            rw [lforceK_eq] at h
            obtain ⟨h1, h2, h3, h4⟩ := rowK_goes (P := P) (ng := ng) hwf h
            refine ⟨_, _, h1, h2, h3, fun base e w L C hb hr hl hc => ?_⟩
            simp only [VR] at hl hc
            subst hl
            subst hc
            obtain ⟨Z, ce, hce, z2, z3, z4⟩ := zerosA_sound oke hzs e
            obtain ⟨e', w', g1, g2, g3, g4, g5⟩ := h4 base e w ce hb hr z2
            refine ⟨e', w', .slice (some ⟨e'.blk σ.next, 0, none⟩) l c, ?_, ?_, g4, g5⟩
            · have z4' := z4 w
              have hcem : ce = madeCells zv.cells (c * i.size) := by
                rw [hce, i2]
                unfold madeCells
                by_cases h0 : c * eti.size = 0
                · rw [h0]; simp
                · rw [if_neg h0] at z4'
                  simp [zeroValue, typeInfo, i1, i5] at z4'
                  rw [z4']
              have hrun := run_make (P := P) w t elem i zv hu i1 i5 lk ck (l : Int) (c : Int) (by omega) (by omega) (by rw [i3, ← Int.natCast_mul]; exact Int.ofNat_le.2 hcb) (by omega)
              have hn : (newRow elem ce).run P w = .ok ⟨w.heap.size, 0, none⟩ (w.alloc (.cells ce elem)) := rfl
              rw [hn] at g1
              simp only [Result.ok.injEq, Addr.mk.injEq, and_true] at g1
              obtain ⟨q1, q2⟩ := g1
              rw [← q1, ← q2, hcem]
              exact hrun
            · simp only [VR]
              refine ⟨g2, c, rfl, hlc, ?_, by simp, by simp⟩
              rw [g3, z3]
              omega
          · cases h
        · cases h
      · cases h
    · cases h
  · cases h
end
end Go.Proofs.YtdolijagffcfgaaGreatDoor.Ev

/-
  The evaluator's pointers that are turned, and the bytes of a row read as a string.
-/
namespace Go.Proofs.YtdolijagffcfgaaGreatDoor.Ev
section
variable {P : Program} {ng : Nat}

/-- where a variable lies, one of its type lies -/
theorem liesAt_self {e : TypeId} {c : Nat} (hc : P.cellsOf e = c) (h0 : c ≠ 0) {count : Nat} (hn : 1 ≤ count) : liesAt P P.depth e count 0 e 1 = true := by
  have hd : P.depth = (2 * (P.types.size + Made.depth) + 1) + 1 := rfl
  rw [hd]
  simp only [liesAt, Bool.or_eq_true]
  left
  rw [hd]
  simp [rowAt, hc, h0, hn, sameLayout]

noncomputable def turnPtrA (tab : Tab P) (σ : St) (s d : TypeId) (b o : Nat) : Option V :=
  match tab.ty s, tab.ty d with
  | some si, some di =>
    match si.desc, di.desc, σ.at b with
    | .pointer t, .unsafePointer, .cells _ vs _ _ =>
      match tab.ty t with
      | some ti => bif Nat.ble 1 ti.size && Nat.blt o (llen vs) then some (.ptr b o) else none
      | none => none
    | .unsafePointer, .pointer u, .cells ty vs _ _ =>
      match tab.ty u with
      | some ui => bif Nat.beq ty u && Nat.beq o 0 && (Nat.ble 1 ui.size && Nat.ble ui.size (llen vs)) then some (.ptr b o) else none
      | none => none
    | _, _, _ => none
  | _, _ => none

theorem cells_shape {base : Nat} {e : Env} {σ : St} {w : World} (hr : Rel ng base e σ w) {b : Nat} (hm : e.M b) {ty : TypeId} {vs : List V} {sp fz : Bool} (hat : σ.at b = .cells ty vs sp fz) :
    ∃ n, w.shape? (e.blk b) = some (ty, n) ∧ vs.length ≤ n := by
  obtain ⟨c, fr, pre, post, q1, q2, q3, q4, _⟩ := cells_sound hr hm hat
  refine ⟨c.size, by simp [World.shape?, q1], ?_⟩
  rw [← Array.length_toList, q2, q3.length]
  simp

theorem turnPtrA_sound {tab : Tab P} {σ : St} {s d : TypeId} {b o : Nat} {v : V} (h : turnPtrA tab σ s d b o = some v) {base : Nat} {e : Env} {w : World} (hr : Rel ng base e σ w) (hm : e.M b) :
    ∃ z, VR e v z ∧ (convert s d (.pointer (some ⟨e.blk b, o, none⟩))).run P w = .ok z w := by
  unfold turnPtrA at h
  split at h
  · rename_i si di hsi hdi
    have ok := tab.tyOk _ _ hsi
    have ok' := tab.tyOk _ _ hdi
    have hu := ok.under
    have hu' := ok'.under
    split at h
    · rename_i t ty vs sp fz hd1 hd2 hat
      rw [hd1] at hu
      rw [hd2] at hu'
      split at h
      · rename_i ti hti
        obtain ⟨i, i1, i2, _⟩ := (tab.tyOk _ _ hti).info
        rw [cond_eq_ite] at h
        split at h
        · rename_i hc0
          have hc := Bool.and_eq_true_iff.1 hc0
          have h1 := Nat.le_of_ble_eq_true hc.1
          have h2 := blt_lt hc.2
          rw [llen_eq] at h2
          simp only [Option.some.injEq] at h
          subst h
          obtain ⟨n, n1, n2⟩ := cells_shape hr hm hat
          exact ⟨_, by simp only [VR]; exact ⟨hm, trivial⟩, Lib.run_to_unsafe w ⟨e.blk b, o, none⟩ hu hu' i1 (by omega) n1 (by show o < n; omega)⟩
        · cases h
      · cases h
    · rename_i u ty vs sp fz hd1 hd2 hat
      rw [hd1] at hu
      rw [hd2] at hu'
      split at h
      · rename_i ui hui
        obtain ⟨i, i1, i2, _⟩ := (tab.tyOk _ _ hui).info
        rw [cond_eq_ite] at h
        split at h
        · rename_i hc0
          simp only [Bool.and_eq_true] at hc0
          obtain ⟨⟨hc1, hc2⟩, hc3, hc4⟩ := hc0
          have h1 := Nat.eq_of_beq_eq_true hc1
          have h2 := Nat.eq_of_beq_eq_true hc2
          have h3 := Nat.le_of_ble_eq_true hc3
          have h4 := Nat.le_of_ble_eq_true hc4
          rw [llen_eq] at h4
          subst h1
          subst h2
          simp only [Option.some.injEq] at h
          subst h
          obtain ⟨n, n1, n2⟩ := cells_shape hr hm hat
          have hcell : P.cellsOf ty = ui.size := by simp [Program.cellsOf, i1, i2]
          refine ⟨_, by simp only [VR]; exact ⟨hm, trivial⟩, Lib.run_from_unsafe w ⟨e.blk b, 0, none⟩ hu hu' i1 n1 (liesAt_self hcell (by omega) ?_)⟩
          rw [hcell]
          exact (Nat.le_div_iff_mul_le (by omega)).2 (by omega)
        · cases h
      · cases h
    · cases h
  · cases h

/-! ### the bytes of a row -/
noncomputable def bytesA : List V → Option (List Nat)
  | [] => some []
  | .int .u8 (.ofNat n) :: l => bif Nat.blt n 256 then (match bytesA l with | some s => some (n :: s) | none => none) else none
  | _ => none

theorem bytesA_sound {e : Env} : ∀ {l : List V} {s : List Nat} {xs : List Value}, bytesA l = some s → VRs e l xs → (∀ n ∈ s, n < 256) ∧ s.length = l.length ∧ xs = s.map fun n : Nat => Value.int .u8 (n : Int)
  | [], s, xs, h, hx => by
    simp only [bytesA, Option.some.injEq] at h
    subst h
    cases xs with
    | nil => exact ⟨by simp, rfl, rfl⟩
    | cons _ _ => simp only [VRs] at hx
  | v :: l, s, xs, h, hx => by
    cases xs with
    | nil => simp only [VRs] at hx
    | cons x xs =>
      simp only [VRs] at hx
      unfold bytesA at h
      split at h
      · rename_i heq; cases heq
      · rename_i n l' heq
        simp only [List.cons.injEq] at heq
        obtain ⟨rfl, rfl⟩ := heq
        rw [cond_eq_ite] at h
        split at h
        · rename_i hlt
          split at h
          · rename_i s' hs'
            simp only [Option.some.injEq] at h
            subst h
            obtain ⟨g1, g2, g3⟩ := bytesA_sound hs' hx.2
            simp only [VR] at hx
            refine ⟨?_, by simp [g2], ?_⟩
            · intro m hm
              rcases List.mem_cons.1 hm with rfl | hm
              · exact blt_lt hlt
              · exact g1 m hm
            · rw [hx.1, g3]; rfl
          · cases h
        · cases h
      · cases h

noncomputable def freezeK (ng : Nat) (σ : St) (b : Nat) (ty : TypeId) (vs : List V) (sp : Bool) (n : Nat) (κ : St → Bool) : Bool :=
  bif Nat.ble ng b && Nat.blt b σ.next then σ.putK b (.cells ty vs sp true) fun σ' => κ { σ' with log := (b, 0, n) :: σ'.log } else false

theorem freezeK_goes {σ : St} (hwf : AWf σ) {b n : Nat} {ty : TypeId} {vs : List V} {sp fz : Bool} {κ : St → Bool} (hat : σ.at b = .cells ty vs sp fz) (h : freezeK ng σ b ty vs sp n κ = true) :
    ∃ σ', κ σ' = true ∧ AWf σ' ∧ AExt σ σ' ∧ ∀ base e w, Rel ng base e σ w → e.M b → n ≠ 0 → Rel ng base e σ' (w.freeze ⟨e.blk b, 0, none⟩ n) ∧ Ext ng e σ w e σ' (w.freeze ⟨e.blk b, 0, none⟩ n) := by
  unfold freezeK at h
  rw [cond_eq_ite] at h
  split at h
  · rename_i hc0
    have hc := Bool.and_eq_true_iff.1 hc0
    have hng := Nat.le_of_ble_eq_true hc.1
    have hb := blt_lt hc.2
    rw [St.putK_eq] at h
    have hlook : ∀ m, Clear [(b, 0, n)] b m → (Ob.cells ty vs sp true).look m = (σ.at b).look m := by
      intro m _
      rw [hat]
      rfl
    obtain ⟨h1, h2⟩ := AExt.put hwf hb (ob := .cells ty vs sp true) (b, 0, n) rfl hlook
    refine ⟨_, h, h1, h2, fun base e w hr hm hn => ?_⟩
    have hno : (σ.at b).isNo = false := by rw [hat]; rfl
    obtain ⟨c, fr, pre, post, q1, q2, q3, q4, q5, _⟩ := cells_sound hr hm hat
    obtain ⟨lo, hi⟩ := fr
    let fr' : Nat × Nat := if lo == hi then (0, 0 + n) else (min lo 0, max hi (0 + n))
    have hget : ∀ i, (w.freeze ⟨e.blk b, 0, none⟩ n).heap[i]? = if i = e.blk b then some (.cells c ty fr') else w.heap[i]? := by
      intro i
      simp only [World.freeze, if_neg hn, Array.getElem?_modify]
      by_cases hi' : e.blk b = i
      · subst hi'
        rw [if_pos rfl, if_pos rfl, q1]
        rfl
      · rw [if_neg hi', if_neg (Ne.symm hi')]
    have hsz : (w.freeze ⟨e.blk b, 0, none⟩ n).heap.size = w.heap.size := by simp [World.freeze, if_neg hn]
    have ho : OR e (.cells ty vs sp true) b (.cells c ty fr') := ⟨c, fr', pre, post, rfl, q2, q3, q4, q5, by simp⟩
    exact ⟨(hr.put (w' := w.freeze ⟨e.blk b, 0, none⟩ n) hm hno hsz hget ho).log _, Ext.put (w' := w.freeze ⟨e.blk b, 0, none⟩ n) hr hm hng hno hsz hget (by simp [World.freeze, if_neg hn]) (by simp [World.freeze, if_neg hn]) (by simp [World.freeze, if_neg hn]) _ hlook⟩
  · cases h

noncomputable def ustrA (ng : Nat) (tab : Tab P) (σ : St) (pt : TypeId) (p n : V) (κ : V → St → Bool) : Bool :=
  match p, n with
  | .nilp, .int .i64 0 => κ (.str []) σ
  | .ptr _ _, .int .i64 0 => κ (.str []) σ
  | .ptr b 0, .int .i64 (.ofNat (Nat.succ m)) =>
    match tab.ty pt, σ.at b with
    | some pti, .cells ty vs sp _ =>
      match pti.desc, tab.ty ty with
      | .pointer e, some ti =>
        bif Nat.beq e ty && Nat.beq ti.size 1 && Nat.blt m 9223372036854775807 then
          ltakeK false (Nat.succ m) vs fun l =>
            match bytesA l with
            | some s => freezeK ng σ b ty vs sp (Nat.succ m) fun σ' => κ (.str s) σ'
            | none => false
        else false
      | _, _ => false
    | _, _ => false
  | _, _ => false

theorem ustrA_goes {tab : Tab P} {σ : St} (hwf : AWf σ) {pt : TypeId} {p n : V} {κ : V → St → Bool} (h : ustrA ng tab σ pt p n κ = true) :
    ∃ u σ', κ u σ' = true ∧ AWf σ' ∧ AExt σ σ' ∧ ∀ base e w P' N (it ty : TypeId), Rel ng base e σ w → VR e p P' → VR e n N →
      ∃ w' z, (Builtin.unsafeString_ #[pt, it] ty #[P', N]).run P w = .ok z w' ∧ VR e u z ∧ Rel ng base e σ' w' ∧ Ext ng e σ w e σ' w' := by
  have none_ : ∀ {e : Env}, VR e (.str []) (.string .empty) := by
    intro e
    simp only [VR]
    exact ⟨rfl, by simp⟩
  unfold ustrA at h
  split at h
  · refine ⟨_, σ, h, hwf, .refl σ, fun base e w P' N it ty hr hp hn => ?_⟩
    simp only [VR] at hp hn
    subst hp
    subst hn
    exact ⟨w, _, Lib.run_unsafeString_none w pt it ty none, none_, hr, .refl ..⟩
  · refine ⟨_, σ, h, hwf, .refl σ, fun base e w P' N it ty hr hp hn => ?_⟩
    simp only [VR] at hp hn
    obtain ⟨_, rfl⟩ := hp
    subst hn
    exact ⟨w, _, Lib.run_unsafeString_none w pt it ty _, none_, hr, .refl ..⟩
  · rename_i b m
    split at h
    · rename_i pti ty vs sp fz hpt hat
      have okp := tab.tyOk _ _ hpt
      split at h
      · rename_i e0 ti hd hti
        have okt := tab.tyOk _ _ hti
        have hu := okp.under
        rw [hd] at hu
        obtain ⟨i, i1, i2, _⟩ := okt.info
        rw [cond_eq_ite] at h
        split at h
        · rename_i hc0
          simp only [Bool.and_eq_true] at hc0
          obtain ⟨⟨hc1, hc2⟩, hc3⟩ := hc0
          have h1 := Nat.eq_of_beq_eq_true hc1
          have h2 := Nat.eq_of_beq_eq_true hc2
          have h3 := blt_lt hc3
          subst h1
          rw [ltakeK_eq] at h
          split at h
          · rename_i hle
            split at h
            · rename_i s hs
              obtain ⟨σ', k1, k2, k3, k4⟩ := freezeK_goes hwf hat h
              refine ⟨_, σ', k1, k2, k3, fun base e w P' N it ty' hr hp hn => ?_⟩
              simp only [VR] at hp hn
              obtain ⟨hm, rfl⟩ := hp
              subst hn
              obtain ⟨xs, g1, g2, _⟩ := load_sound hr hm hat P 0 (m + 1) (by omega)
              rw [List.drop_zero] at g1
              obtain ⟨b1, b2, b3⟩ := bytesA_sound hs g1
              have hlen : s.length = m + 1 := by rw [b2]; simp; omega
              obtain ⟨cn, n1, n2⟩ := cells_shape hr hm hat
              have hcell : P.cellsOf e0 = 1 := by simp [Program.cellsOf, i1, i2, h2]
              obtain ⟨q1, q2⟩ := k4 base e w hr hm (Nat.succ_ne_zero m)
              have hrun := Lib.run_unsafeString_row (P := P) w pt it ty' e0 hu hcell (e.blk b) cn n1 (s.map UInt8.ofNat) (by intro h0; have := congrArg List.length h0; simp at this; subst this; simp at hlen) (by simp; omega) (by simp; omega) (by
                intro j x hj
                apply g2
                rw [b3, List.getElem?_map]
                rw [List.getElem?_map] at hj
                cases hsj : s[j]? with
                | none => rw [hsj] at hj; cases hj
                | some c =>
                  rw [hsj] at hj
                  simp only [Option.map_some, Option.some.injEq] at hj ⊢
                  rw [← hj, toNat_ofNat (b1 c (List.mem_of_getElem? hsj))])
              rw [List.length_map, hlen] at hrun
              refine ⟨w.freeze ⟨e.blk b, 0, none⟩ (m + 1), .string (strOf s), ?_, by simp only [VR]; exact ⟨trivial, b1⟩, q1, q2⟩
              exact hrun
            · cases h
          · cases h
        · cases h
      · cases h
    · cases h
  · cases h
end
end Go.Proofs.YtdolijagffcfgaaGreatDoor.Ev

/-
  A string turned into a row of bytes: a new block of which the end is not known.
-/
namespace Go.Proofs.YtdolijagffcfgaaGreatDoor.Ev
section
variable {P : Program} {ng : Nat}

noncomputable def strRowA (tab : Tab P) (σ : St) (s d : TypeId) (l : List Nat) (κ : V → St → Bool) : Bool :=
  match tab.ty s, tab.ty d with
  | some si, some di =>
    match si.desc, di.desc with
    | .string, .slice el =>
      match tab.ty el with
      | some eti =>
        match eti.desc with
        | .int .u8 => σ.newK (.cells el (l.map fun n => V.int .u8 (.ofNat n)) true true) fun b σ' => κ (.slice b 0 1 (llen l) none) σ'
        | _ => false
      | none => false
    | _, _ => false
  | _, _ => false

/-- is it a type of slices? -/
noncomputable def isRowT (tab : Tab P) (d : TypeId) : Bool :=
  match tab.ty d with
  | some di => match di.desc with | .slice _ => true | _ => false
  | none => false

theorem bytes_refl (e : Env) (l : List Nat) (h : ∀ n ∈ l, n < 256) : VRs e (l.map fun n => V.int .u8 (.ofNat n)) ((strOf l).data.map fun b => Value.int .u8 (b.toNat : Int)).toList := by
  unfold strOf
  rw [Array.toList_map]
  induction l with
  | nil => exact VRs.nil
  | cons n l ih =>
    refine VRs.cons ?_ (ih fun m hm => h m (List.mem_cons_of_mem _ hm))
    have := toNat_ofNat (h n (by simp))
    simp only [VR]
    rw [this]
    rfl

theorem strRowA_goes {tab : Tab P} {σ : St} (hwf : AWf σ) {s d : TypeId} {l : List Nat} {κ : V → St → Bool} (h : strRowA tab σ s d l κ = true) :
    ∃ u σ', κ u σ' = true ∧ AWf σ' ∧ AExt σ σ' ∧ ∀ base e w X, base ≤ w.heap.size → Rel ng base e σ w → VR e (.str l) X →
      ∃ e' w' z, (convert s d X).run P w = .ok z w' ∧ VR e' u z ∧ Rel ng base e' σ' w' ∧ Ext ng e σ w e' σ' w' := by
  unfold strRowA at h
  split at h
  · rename_i si di hsi hdi
    have ok := tab.tyOk _ _ hsi
    have ok' := tab.tyOk _ _ hdi
    have hu := ok.under
    have hu' := ok'.under
    split at h
    · rename_i el hd1 hd2
      rw [hd1] at hu
      rw [hd2] at hu'
      split at h
      · rename_i eti heti
        have hue := (tab.tyOk _ _ heti).under
        split at h
        · rename_i hd3
          rw [hd3] at hue
          obtain ⟨h1, h2, h3, h4⟩ := newK_goes (P := P) (ng := ng) hwf h
          refine ⟨_, _, h1, h2, h3, fun base e w X hb hr hX => ?_⟩
          simp only [VR] at hX
          obtain ⟨rfl, hl⟩ := hX
          have hrun := run_bytes_of_string (P := P) w s d el (strOf l) hu hu' hue
          have hge := grownCap_ge w (strOf l).size 0 el
          generalize grownCap w (strOf l).size 0 el = gc at hrun hge
          have hnm : ¬ e.M σ.next := fun hm => Nat.lt_irrefl _ (hr.lim _ hm)
          have hsz : (bytesRow (strOf l) gc).size = gc := by
            unfold bytesRow
            rw [Array.size_append, Array.size_map, Array.size_replicate]
            show (strOf l).size + _ = _
            omega
          have hle := Env.le_more e σ.next w.drew.heap.size gc hnm
          obtain ⟨w', g1, g2, g3⟩ := h4 base e w.drew (.cells (bytesRow (strOf l) gc) el ((bytesRow (strOf l) gc).size, (bytesRow (strOf l) gc).size + 1)) gc hb (hr.gc rfl) (by
            refine ⟨_, _, _, (Array.replicate (gc - (strOf l).size) (Value.int .u8 0)).toList, rfl, by unfold bytesRow; rw [Array.toList_append], bytes_refl _ l hl, by rw [hsz]; simp [Env.more], by simp, by simp⟩)
          have hw' : w' = w.drew.alloc (.cells (bytesRow (strOf l) gc) el ((bytesRow (strOf l) gc).size, (bytesRow (strOf l) gc).size + 1)) := by
            have : (newObj (.cells (bytesRow (strOf l) gc) el ((bytesRow (strOf l) gc).size, (bytesRow (strOf l) gc).size + 1))).run P w.drew = .ok w.drew.heap.size (w.drew.alloc (.cells (bytesRow (strOf l) gc) el ((bytesRow (strOf l) gc).size, (bytesRow (strOf l) gc).size + 1))) := rfl
            rw [this] at g1
            simp only [Result.ok.injEq] at g1
            exact g1.2.symm
          rw [← hw'] at hrun
          refine ⟨_, w', _, hrun, ?_, g2, ⟨g3.le, g3.next, g3.size, g3.newer, g3.kept, g3.orig, g3.logs, g3.looks, g3.os, g3.output, g3.tape⟩⟩
          simp only [VR]
          refine ⟨.inr rfl, gc, ?_, ?_, ?_, by simp, ?_⟩
          · rw [strOf_size, llen_eq]; simp [Env.more]
          · rw [llen_eq]; rw [strOf_size] at hge; omega
          · simp [Env.more]
          · intro _; simp [Env.more]
        · cases h
      · cases h
    · cases h
  · cases h

/-- values that go over from one row to another -/
noncomputable def copyA (ng : Nat) (tab : Tab P) (σ : St) (t : TypeId) (b o es l b2 o2 es2 l2 : Nat) (κ : V → St → Bool) : Bool :=
  match tab.ty t with
  | some ti =>
    match ti.desc with
    | .slice el =>
      match tab.ty el with
      | some eti =>
        bif Nat.beq es eti.size && Nat.beq es2 eti.size then
          forceN (bif Nat.ble l2 l then l2 else l) fun n =>
          match σ.at b2 with
          | .cells _ vs _ _ =>
            bif Nat.ble (Nat.add o2 (Nat.mul n eti.size)) (llen vs) then
              ltakeK false (Nat.mul n eti.size) (ldrop o2 vs) fun new => bif Nat.blt b σ.next then σ.storeK ng b o new fun σ' => κ (natA n) σ' else false
            else false
          | _ => false
        else false
      | none => false
    | _ => false
  | none => false

theorem copyA_goes {tab : Tab P} {σ : St} (hwf : AWf σ) {t : TypeId} {b o es l b2 o2 es2 l2 : Nat} {cap cap2 : Option Nat} {κ : V → St → Bool} (h : copyA ng tab σ t b o es l b2 o2 es2 l2 κ = true) :
    ∃ u σ', κ u σ' = true ∧ AWf σ' ∧ AExt σ σ' ∧ ∀ base e w X Y tx ty, base ≤ w.heap.size → Rel ng base e σ w → VR e (.slice b o es l cap) X → VR e (.slice b2 o2 es2 l2 cap2) Y →
      ∃ w' z, (Builtin.copy_ #[t, tx] ty #[X, Y]).run P w = .ok z w' ∧ VR e u z ∧ Rel ng base e σ' w' ∧ Ext ng e σ w e σ' w' := by
  unfold copyA at h
  split at h
  · rename_i ti hti
    have ok := tab.tyOk _ _ hti
    have hu := ok.under
    split at h
    · rename_i el hd
      rw [hd] at hu
      split at h
      · rename_i eti heti
        have oke := tab.tyOk _ _ heti
        rw [cond_eq_ite] at h
        split at h
        · rename_i hes
          simp only [Bool.and_eq_true] at hes
          have he1 := Nat.eq_of_beq_eq_true hes.1
          have he2 := Nat.eq_of_beq_eq_true hes.2
          subst he1
          rw [forceN_eq] at h
          have hmin : (bif Nat.ble l2 l then l2 else l) = Nat.min l2 l := by
            rw [cond_eq_ite]
            split
            · rename_i hh; have := Nat.le_of_ble_eq_true hh; exact (Nat.min_eq_left this).symm
            · rename_i hh
              have : ¬ l2 ≤ l := fun hl => hh (Nat.ble_eq_true_of_le hl)
              exact (Nat.min_eq_right (by omega)).symm
          rw [hmin] at h
          have hnl : Nat.min l2 l ≤ l2 := Nat.min_le_left _ _
          generalize hn : Nat.min l2 l = n at h hnl
          split at h
          · rename_i ety vs sp fz hat
            rw [cond_eq_ite] at h
            split at h
            · rename_i hle0
              have hle : o2 + n * eti.size ≤ vs.length := by have := Nat.le_of_ble_eq_true hle0; rwa [llen_eq] at this
              rw [ltakeK_eq, ldrop_eq, if_pos (by simp; show n * eti.size ≤ _; omega)] at h
              obtain ⟨σ', h1, h2, h3, h4⟩ := storeK_goes (P := P) (ng := ng) hwf h
              refine ⟨_, σ', h1, h2, h3, fun base e w X Y tx ty hb hr hX hY => ?_⟩
              simp only [VR] at hX hY
              obtain ⟨hm, c, rfl, _⟩ := hX
              obtain ⟨hm2, c2, rfl, hlc2, _⟩ := hY
              obtain ⟨news, k1, k2, _⟩ := load_sound hr hm2 hat P o2 (n * eti.size) hle
              have hlen : news.length = n * eti.size := by rw [← k1.length]; simp; omega
              obtain ⟨w', g1, g2, g3⟩ := h4 base e w news hr hm k1
              have hf := run_firstCells_some (P := P) w eti.size n ⟨e.blk b2, o2, none⟩ l2 c2 news hlen (by simpa using k2)
              refine ⟨w', .int .i64 n, ?_, by simp only [natA, VR]; rfl, g2, g3⟩
              simp [Builtin.copy_, Go.run_underlying hu, oke.run_sizeOf, Builtin.lenOf, hn, hf, g1, goInt]
            · cases h
          · cases h
        · cases h
      · cases h
    · cases h
  · cases h
end
end Go.Proofs.YtdolijagffcfgaaGreatDoor.Ev

/-
  The evaluator's operations, all that call no function: one function in continuation style, and its law.
-/
namespace Go.Proofs.YtdolijagffcfgaaGreatDoor.Ev

section
variable {β : Type}
/-- the bytes of a string, forced -/
noncomputable def forceS : List Nat → (List Nat → β) → β :=
  fun l => List.rec (motive := fun _ => (List Nat → β) → β) (fun κ => κ []) (fun a _ ih κ => forceN a fun a => ih fun l => κ (a :: l)) l
theorem forceS_eq (l : List Nat) : ∀ (κ : List Nat → β), forceS l κ = κ l := by
  induction l with
  | nil => intro κ; rfl
  | cons a l ih =>
    intro κ
    show forceN a (fun a => forceS l fun l => κ (a :: l)) = _
    rw [forceN_eq, ih]

noncomputable def forceO (c : Option Nat) (κ : Option Nat → β) : β :=
  match c with
  | none => κ none
  | some n => forceN n fun n => κ (some n)
theorem forceO_eq (c : Option Nat) (κ : Option Nat → β) : forceO c κ = κ c := by cases c <;> simp [forceO, forceN_eq]

/-- a value computed, built of constructors -/
noncomputable def forceV (v : V) (κ : V → β) : β :=
  match v with
  | .int k n => forceI n fun n => κ (.int k n)
  | .bool b => forceB b fun b => κ (.bool b)
  | .str s => forceS s fun s => κ (.str s)
  | .ptr b o => forceN o fun o => κ (.ptr b o)
  | .slice b o es len cap => forceN o fun o => forceN len fun len => forceO cap fun cap => κ (.slice b o es len cap)
  | .agg l => lappK l [] fun l => κ (.agg l)
  | .tup l => lappK l [] fun l => κ (.tup l)
  | v => κ v
theorem forceV_eq (v : V) (κ : V → β) : forceV v κ = κ v := by
  cases v <;> simp [forceV, forceI_eq, forceB_eq, forceS_eq, forceN_eq, forceO_eq, lappK_eq]

/-- a value that was built of constructors: its head alone -/
noncomputable def headV (v : V) (κ : V → β) : β :=
  match v with
  | .int k n => κ (.int k n)
  | .bool b => κ (.bool b)
  | .str s => κ (.str s)
  | .ptr b o => κ (.ptr b o)
  | .slice b o es len cap => κ (.slice b o es len cap)
  | .agg l => lappK l [] fun l => κ (.agg l)
  | .iface t v => κ (.iface t v)
  | v => κ v
theorem headV_eq (v : V) (κ : V → β) : headV v κ = κ v := by
  cases v <;> simp [headV, lappK_eq]

noncomputable def mapVK (ρ : Operand → V) : List Operand → (List V → β) → β :=
  fun l => List.rec (motive := fun _ => (List V → β) → β) (fun κ => κ []) (fun a _ ih κ => headV (ρ a) fun v => ih fun l => κ (v :: l)) l
theorem mapVK_eq (ρ : Operand → V) (l : List Operand) : ∀ (κ : List V → β), mapVK ρ l κ = κ (l.map ρ) := by
  induction l with
  | nil => intro κ; rfl
  | cons a l ih =>
    intro κ
    show headV (ρ a) (fun v => mapVK ρ l fun l => κ (v :: l)) = _
    rw [headV_eq, ih]
    rfl

noncomputable def partsK (ρ : Operand → V) : List (Nat × Operand) → (List (Nat × V) → β) → β :=
  fun l => List.rec (motive := fun _ => (List (Nat × V) → β) → β) (fun κ => κ []) (fun a _ ih κ => headV (ρ a.2) fun v => ih fun l => κ ((a.1, v) :: l)) l
theorem partsK_eq (ρ : Operand → V) (l : List (Nat × Operand)) : ∀ (κ : List (Nat × V) → β), partsK ρ l κ = κ (l.map fun p => (p.1, ρ p.2)) := by
  induction l with
  | nil => intro κ; rfl
  | cons a l ih =>
    intro κ
    show headV (ρ a.2) (fun v => partsK ρ l fun l => κ ((a.1, v) :: l)) = _
    rw [headV_eq, ih]
    rfl
end

section
variable {P : Program} {ng : Nat}

/-- which operations are taken as pure, and how their values are forced -/
noncomputable def pureK (tab : Tab P) (ρ : Operand → V) (op : Op) (κ : V → Bool) : Bool :=
  match op with
  | .move x | .assign x => headV (ρ x) κ
  | .pick c a b =>
    match ρ c with
    | .bool true => headV (ρ a) κ
    | .bool false => headV (ρ b) κ
    | _ => false
  | .build t parts => partsK ρ parts.toList fun ps => match buildA tab t ps with | some v => headV v κ | none => false
  | .makeFunc fn first captured =>
    match fn with
    | .func f => mapVK ρ first.toList fun fs => mapVK ρ captured.toList fun cs => κ (.func (.func f) fs cs)
    | _ => false
  | .makeInterface t x => headV (ρ x) fun x => match ifaceA tab t x with | some v => headV v κ | none => false
  | .field t x f => headV (ρ x) fun x => match fieldA tab t x f with | some v => headV v κ | none => false
  | .typeAssert x _ t ok => headV (ρ x) fun x => match assertA tab x t ok with | some v => headV v κ | none => false
  | .extract t i => match extractA (ρ t) i with | some v => headV v κ | none => false
  | .nilCheck x => headV (ρ x) fun x => match nilCheckA x with | some v => κ v | none => false
  | op => match pureA tab ρ op with | some v => forceV v κ | none => false

theorem pureK_pureA {tab : Tab P} {ρ : Operand → V} {op : Op} {κ : V → Bool} (h : pureK tab ρ op κ = true) : ∃ v, pureA tab ρ op = some v ∧ κ v = true := by
  unfold pureK at h
  split at h
  · rw [headV_eq] at h; exact ⟨_, rfl, h⟩
  · rw [headV_eq] at h; exact ⟨_, rfl, h⟩
  · split at h
    · rename_i hc; rw [headV_eq] at h; exact ⟨_, by simp only [pureA, hc, pickA], h⟩
    · rename_i hc; rw [headV_eq] at h; exact ⟨_, by simp only [pureA, hc, pickA], h⟩
    · cases h
  · rw [partsK_eq] at h
    split at h
    · rename_i v hv; rw [headV_eq] at h; exact ⟨v, hv, h⟩
    · cases h
  · split at h
    · rw [mapVK_eq, mapVK_eq] at h; exact ⟨_, rfl, h⟩
    · cases h
  · rw [headV_eq] at h
    split at h
    · rename_i v hv; rw [headV_eq] at h; exact ⟨v, hv, h⟩
    · cases h
  · rw [headV_eq] at h
    split at h
    · rename_i v hv; rw [headV_eq] at h; exact ⟨v, hv, h⟩
    · cases h
  · rw [headV_eq] at h
    split at h
    · rename_i v hv; rw [headV_eq] at h; exact ⟨v, hv, h⟩
    · cases h
  · split at h
    · rename_i v hv; rw [headV_eq] at h; exact ⟨v, hv, h⟩
    · cases h
  · rw [headV_eq] at h
    split at h
    · rename_i v hv; exact ⟨v, hv, h⟩
    · cases h
  · split at h
    · rename_i v hv; rw [forceV_eq] at h; exact ⟨v, hv, h⟩
    · cases h

def Nx (nx : Next) (z : Value) : Prop := nx = .value z ∨ (nx = .skip ∧ z = undef)

/-- what an operation does that yields a value -/
def OpDoes (P : Program) (ng : Nat) (ρ : Operand → V) (o : Oper) (σ : St) (v : V) (σ' : St) : Prop :=
  AWf σ' ∧ AExt σ σ' ∧ ∀ base e w R, base ≤ w.heap.size → Rel ng base e σ w → (∀ x, VR e (ρ x) (R x)) →
    ∃ e' w' nx z, (execOp R o).run P w = .ok nx w' ∧ Nx nx z ∧ VR e' v z ∧ Rel ng base e' σ' w' ∧ Ext ng e σ w e' σ' w'

/-- operations on memory that call no function -/
noncomputable def memK (ng : Nat) (tab : Tab P) (ρ : Operand → V) (op : Op) (σ : St) (κ : V → St → Bool) : Bool :=
  match op with
  | .load t x => match loadO tab σ t (ρ x) with | some v => headV v fun v => κ v σ | none => false
  | .lookup t x k ok => match lookupA tab σ t (ρ x) (ρ k) ok with | some v => headV v fun v => κ v σ | none => false
  | .store t x v => headV (ρ x) fun x => headV (ρ v) fun v => storeA ng tab σ t x v fun σ' => κ (.tup []) σ'
  | .alloc elem => allocA tab σ elem κ
  | .box elem x => headV (ρ x) fun v => boxA σ elem v κ
  | .buildSlice t len parts => partsK ρ parts.toList fun ps => buildSliceA tab σ t len ps κ
  | .makeMap _ none => makeMapA σ κ
  | .makeSlice t l c => headV (ρ l) fun l => headV (ρ c) fun c => makeSliceA tab σ t l c κ
  | .mapUpdate t m k x | .insert t m k x => headV (ρ m) fun m => headV (ρ k) fun k => headV (ρ x) fun x => mapUpdateA ng tab σ t m k x fun σ' => κ (.tup []) σ'
  | .mapEntry t m k => headV (ρ m) fun m => headV (ρ k) fun k => mapEntryA ng tab σ t m k κ
  | .entryStore _ m s x => headV (ρ m) fun m => headV (ρ s) fun s => headV (ρ x) fun x => entryStoreA ng σ m s x fun σ' => κ (.tup []) σ'
  | .range t x => headV (ρ x) fun x => rangeA tab σ t x κ
  | .next it true => headV (ρ it) fun it => nextA ng σ it κ
  | .call c =>
    match c.callee with
    | .builtin .append =>
      match c.argTypes.toList, c.args.toList with
      | [t, tx], [s, x] => headV (ρ s) fun s => headV (ρ x) fun x => appendA ng tab σ t tx s x κ
      | _, _ => false
    | .builtin .len =>
      match c.argTypes.toList, c.args.toList with
      | [t], [x] =>
        match tab.ty t, ρ x with
        | some ti, .mapv b =>
          match ti.desc, σ.at b with
          | .map _ _, .map es _ => forceN (llen es) fun n => κ (natA n) σ
          | _, _ => false
        | _, _ => false
      | _, _ => false
    | .builtin .unsafeString =>
      match c.argTypes.toList, c.args.toList with
      | [t, _], [x, y] => headV (ρ x) fun x => headV (ρ y) fun y => ustrA ng tab σ t x y κ
      | _, _ => false
    | .builtin .copy =>
      match c.argTypes.toList, c.args.toList with
      | [t, _], [x, y] =>
        match tab.ty t, ρ x, ρ y with
        | some ti, .slice _ _ _ _ _, .nils =>
          match ti.desc with
          | .slice el => match tab.ty el with | some _ => κ (natA 0) σ | none => false
          | _ => false
        | some _, .slice b o es l _, .slice b2 o2 es2 l2 _ => copyA ng tab σ t b o es l b2 o2 es2 l2 κ
        | _, _, _ => false
      | _, _ => false
    | _ => false
  | .convert s d x =>
    match ρ x with
    | .ptr b o => match turnPtrA tab σ s d b o with | some v => κ v σ | none => false
    | .str l => strRowA tab σ s d l κ
    | _ => false
  | _ => false

theorem memK_goes {tab : Tab P} {ρ : Operand → V} {o : Oper} {σ : St} (hwf : AWf σ) {κ : V → St → Bool} (h : memK ng tab ρ o.op σ κ = true) : ∃ v σ', κ v σ' = true ∧ OpDoes P ng ρ o σ v σ' := by
  have val : ∀ {s : Sem Value} {z : Value} {w w' : World}, s.run P w = .ok z w' → (do pure (.value (← s)) : Sem Next).run P w = .ok (.value z) w' := by
    intro s z w w' hs
    rw [Sem.run_bind, hs]
    rfl
  have uni : ∀ {s : Sem Unit} {w w' : World}, s.run P w = .ok () w' → (do s; pure .skip : Sem Next).run P w = .ok .skip w' := by
    intro s w w' hs
    rw [Sem.run_bind, hs]
    rfl
  obtain ⟨dst, op, ty, pos, after, guard⟩ := o
  simp only at h
  unfold memK at h
  split at h
  · rename_i t x
    split at h
    · rename_i v hv
      rw [headV_eq] at h
      refine ⟨v, σ, h, hwf, .refl σ, fun base e w R hb hr hρ => ?_⟩
      obtain ⟨z, h1, h2⟩ := loadO_sound hv hr (hρ x)
      exact ⟨e, w, _, z, val h2, .inl rfl, h1, hr, .refl ..⟩
    · cases h
  · rename_i t x k ok
    split at h
    · rename_i v hv
      rw [headV_eq] at h
      refine ⟨v, σ, h, hwf, .refl σ, fun base e w R hb hr hρ => ?_⟩
      obtain ⟨z, h1, h2⟩ := lookupA_sound hv hr (hρ x) (hρ k)
      exact ⟨e, w, _, z, val h2, .inl rfl, h1, hr, .refl ..⟩
    · cases h
  · rename_i t x v
    rw [headV_eq, headV_eq] at h
    obtain ⟨σ', h1, h2, h3, h4⟩ := storeA_goes (P := P) hwf h
    refine ⟨_, σ', h1, h2, h3, fun base e w R hb hr hρ => ?_⟩
    obtain ⟨w', g1, g2, g3⟩ := h4 base e w _ _ hr (hρ x) (hρ v)
    exact ⟨e, w', _, undef, uni g1, .inr ⟨rfl, rfl⟩, by simp only [VR]; exact ⟨_, rfl, VRs.nil⟩, g2, g3⟩
  · rename_i elem
    obtain ⟨u, σ', h1, h2, h3, h4⟩ := allocA_goes (ng := ng) hwf h
    refine ⟨u, σ', h1, h2, h3, fun base e w R hb hr hρ => ?_⟩
    obtain ⟨e', w', z, g1, g2, g3, g4⟩ := h4 base e w hb hr
    exact ⟨e', w', _, z, val g1, .inl rfl, g2, g3, g4⟩
  · rename_i elem x
    rw [headV_eq] at h
    obtain ⟨u, σ', h1, h2, h3, h4⟩ := boxA_goes (P := P) (ng := ng) hwf h
    refine ⟨u, σ', h1, h2, h3, fun base e w R hb hr hρ => ?_⟩
    obtain ⟨e', w', z, g1, g2, g3, g4⟩ := h4 base e w _ hb hr (hρ x)
    exact ⟨e', w', _, z, val g1, .inl rfl, g2, g3, g4⟩
  · rename_i t len parts
    rw [partsK_eq] at h
    obtain ⟨u, σ', h1, h2, h3, h4⟩ := buildSliceA_goes (ng := ng) hwf h
    refine ⟨u, σ', h1, h2, h3, fun base e w R hb hr hρ => ?_⟩
    obtain ⟨e', w', z, g1, g2, g3, g4⟩ := h4 base e w (parts.map fun (i, x) => (i, R x)) hb hr (by rw [Array.toList_map]; exact PRs.map hρ _)
    exact ⟨e', w', _, z, val g1, .inl rfl, g2, g3, g4⟩
  · rename_i t
    obtain ⟨u, σ', h1, h2, h3, h4⟩ := makeMapA_goes (P := P) (ng := ng) hwf h
    refine ⟨u, σ', h1, h2, h3, fun base e w R hb hr hρ => ?_⟩
    obtain ⟨e', w', z, g1, g2, g3, g4⟩ := h4 base e w t hb hr
    exact ⟨e', w', _, z, val g1, .inl rfl, g2, g3, g4⟩
  · rename_i t l c
    rw [headV_eq, headV_eq] at h
    obtain ⟨u, σ', h1, h2, h3, h4⟩ := makeSliceA_goes (ng := ng) hwf h
    refine ⟨u, σ', h1, h2, h3, fun base e w R hb hr hρ => ?_⟩
    obtain ⟨e', w', z, g1, g2, g3, g4⟩ := h4 base e w _ _ hb hr (hρ l) (hρ c)
    exact ⟨e', w', _, z, val g1, .inl rfl, g2, g3, g4⟩
  · rename_i t m k x
    rw [headV_eq, headV_eq, headV_eq] at h
    obtain ⟨σ', h1, h2, h3, h4⟩ := mapUpdateA_goes (P := P) hwf h
    refine ⟨_, σ', h1, h2, h3, fun base e w R hb hr hρ => ?_⟩
    obtain ⟨w', g1, g2, g3⟩ := h4 base e w _ _ _ hr (hρ m) (hρ k) (hρ x)
    exact ⟨e, w', _, undef, uni g1, .inr ⟨rfl, rfl⟩, by simp only [VR]; exact ⟨_, rfl, VRs.nil⟩, g2, g3⟩
  · rename_i t m k x
    rw [headV_eq, headV_eq, headV_eq] at h
    obtain ⟨σ', h1, h2, h3, h4⟩ := mapUpdateA_goes (P := P) hwf h
    refine ⟨_, σ', h1, h2, h3, fun base e w R hb hr hρ => ?_⟩
    obtain ⟨w', g1, g2, g3⟩ := h4 base e w _ _ _ hr (hρ m) (hρ k) (hρ x)
    exact ⟨e, w', _, undef, uni g1, .inr ⟨rfl, rfl⟩, by simp only [VR]; exact ⟨_, rfl, VRs.nil⟩, g2, g3⟩
  · rename_i t m k
    rw [headV_eq, headV_eq] at h
    obtain ⟨u, σ', h1, h2, h3, h4⟩ := mapEntryA_goes (P := P) hwf h
    refine ⟨u, σ', h1, h2, h3, fun base e w R hb hr hρ => ?_⟩
    obtain ⟨w', z, g1, g2, g3, g4⟩ := h4 base e w _ _ hr (hρ m) (hρ k)
    exact ⟨e, w', _, z, val g1, .inl rfl, VR.mono g4.le _ _ g2, g3, g4⟩
  · rename_i t m s x
    rw [headV_eq, headV_eq, headV_eq] at h
    obtain ⟨σ', h1, h2, h3, h4⟩ := entryStoreA_goes (P := P) hwf h
    refine ⟨_, σ', h1, h2, h3, fun base e w R hb hr hρ => ?_⟩
    obtain ⟨w', g1, g2, g3⟩ := h4 base e w t _ _ _ hr (hρ m) (hρ s) (hρ x)
    exact ⟨e, w', _, undef, uni g1, .inr ⟨rfl, rfl⟩, by simp only [VR]; exact ⟨_, rfl, VRs.nil⟩, g2, g3⟩
  · rename_i t x
    rw [headV_eq] at h
    obtain ⟨u, σ', h1, h2, h3, h4⟩ := rangeA_goes (ng := ng) hwf h
    refine ⟨u, σ', h1, h2, h3, fun base e w R hb hr hρ => ?_⟩
    obtain ⟨e', w', z, g1, g2, g3, g4⟩ := h4 base e w _ hb hr (hρ x)
    exact ⟨e', w', _, z, val g1, .inl rfl, g2, g3, g4⟩
  · rename_i it
    rw [headV_eq] at h
    obtain ⟨u, σ', h1, h2, h3, h4⟩ := nextA_goes (P := P) hwf h
    refine ⟨u, σ', h1, h2, h3, fun base e w R hb hr hρ => ?_⟩
    obtain ⟨w', z, g1, g2, g3, g4⟩ := h4 base e w _ ty hr (hρ it)
    exact ⟨e, w', _, z, val g1, .inl rfl, g2, g3, g4⟩
  · rename_i c
    obtain ⟨callee, args, argTypes⟩ := c
    simp only at h
    split at h
    · split at h
      · rename_i t tx s x ht hx
        have hta : argTypes = #[t, tx] := by apply Array.ext'; simpa using ht
        have hxa : args = #[s, x] := by apply Array.ext'; simpa using hx
        subst hta
        subst hxa
        rw [headV_eq, headV_eq] at h
        obtain ⟨u, σ', h1, h2, h3, h4⟩ := appendA_goes (P := P) hwf h
        refine ⟨u, σ', h1, h2, h3, fun base e w R hb hr hρ => ?_⟩
        obtain ⟨e', w', z, g1, g2, g3, g4⟩ := h4 base e w _ _ ty hb hr (hρ s) (hρ x)
        refine ⟨e', w', .value z, z, ?_, .inl rfl, g2, g3, g4⟩
        have hm : Array.map R #[s, x] = #[R s, R x] := by simp
        simp only [execOp, resolve, Sem.run_bind, Sem.run_pure, Result.andThen_ok, invoke, builtin, hm, g1]
      · cases h
    · split at h
      · rename_i t x ht hx
        have hta : argTypes = #[t] := by apply Array.ext'; simpa using ht
        have hxa : args = #[x] := by apply Array.ext'; simpa using hx
        subst hta
        subst hxa
        split at h
        · rename_i ti b hti hρx
          have ok := tab.tyOk _ _ hti
          split at h
          · rename_i kt et es clock hd hat
            have hu := ok.under
            rw [hd] at hu
            rw [forceN_eq, llen_eq] at h
            refine ⟨_, σ, h, hwf, .refl σ, fun base e w R hb hr hρ => ?_⟩
            have hx := hρ x
            rw [hρx] at hx
            simp only [VR] at hx
            obtain ⟨hm, hX⟩ := hx
            obtain ⟨o, g1, ⟨xs, rfl, g2⟩, g4⟩ := ob_sound hr hm hat rfl
            have hlen : xs.size = es.length := by
              have : ∀ (l : List (V × V × Nat)) (m : List MapEntry), MRs e l m → l.length = m.length := by
                intro l
                induction l with
                | nil => intro m hm; cases m with | nil => rfl | cons _ _ => exact hm.elim
                | cons p l ih => intro m hm; cases m with
                  | nil => obtain ⟨_, _, _⟩ := p; simp only [MRs] at hm
                  | cons q m => obtain ⟨_, _, _⟩ := p; simp [ih m hm.2]
              rw [this es xs.toList g2]; simp
            refine ⟨e, w, .value (.int .i64 (.ofNat es.length)), .int .i64 (.ofNat es.length), ?_, .inl rfl, by simp only [natA, VR], hr, .refl ..⟩
            have hm' : Array.map R #[x] = #[R x] := by simp
            have hl : (Builtin.len_ #[t] ty #[.map (some (e.blk b))]).run P w = .ok (.int .i64 (.ofNat es.length)) w := by
              have hgo := getOb (P := P) g1 g4
              simp [Builtin.len_, Go.run_underlying hu, hgo, goInt, hlen]
            simp only [execOp, resolve, Sem.run_bind, Sem.run_pure, Result.andThen_ok, invoke, builtin, hm', hX, hl]
          · cases h
        · cases h
      · cases h
    · split at h
      · rename_i t it x y ht hx
        have hta : argTypes = #[t, it] := by apply Array.ext'; simpa using ht
        have hxa : args = #[x, y] := by apply Array.ext'; simpa using hx
        subst hta
        subst hxa
        rw [headV_eq, headV_eq] at h
        obtain ⟨u, σ', h1, h2, h3, h4⟩ := ustrA_goes (P := P) hwf h
        refine ⟨u, σ', h1, h2, h3, fun base e w R hb hr hρ => ?_⟩
        obtain ⟨w', z, g1, g2, g3, g4⟩ := h4 base e w _ _ it ty hr (hρ x) (hρ y)
        refine ⟨e, w', .value z, z, ?_, .inl rfl, g2, g3, g4⟩
        have hm : Array.map R #[x, y] = #[R x, R y] := by simp
        simp only [execOp, resolve, Sem.run_bind, Sem.run_pure, Result.andThen_ok, invoke, builtin, hm, g1]
      · cases h
    · split at h
      · rename_i t it x y ht hx
        have hta : argTypes = #[t, it] := by apply Array.ext'; simpa using ht
        have hxa : args = #[x, y] := by apply Array.ext'; simpa using hx
        subst hta
        subst hxa
        split at h
        · rename_i ti b o es len cap hti e1 e2
          have ok := tab.tyOk _ _ hti
          have hu := ok.under
          split at h
          · rename_i el hd
            rw [hd] at hu
            split at h
            · rename_i eti heti
              have oke := tab.tyOk _ _ heti
              refine ⟨_, σ, h, hwf, .refl σ, fun base e w R hb hr hρ => ?_⟩
              have h1 := hρ x
              have h2 := hρ y
              rw [e1] at h1
              rw [e2] at h2
              simp only [VR] at h1 h2
              obtain ⟨_, c, hX, _⟩ := h1
              refine ⟨e, w, .value (.int .i64 0), .int .i64 0, ?_, .inl rfl, by simp only [natA, VR]; rfl, hr, .refl ..⟩
              have hm : Array.map R #[x, y] = #[R x, R y] := by simp
              have hl : (Builtin.copy_ #[t, it] ty #[R x, R y]).run P w = .ok (.int .i64 0) w := by
                have hf := run_firstCells_none (P := P) w eti.size 0 0 0
                simp [Builtin.copy_, hX, h2, Go.run_underlying hu, oke.run_sizeOf, Builtin.lenOf, hf, storeCells, goInt]
              simp only [execOp, resolve, Sem.run_bind, Sem.run_pure, Result.andThen_ok, invoke, builtin, hm, hl]
            · cases h
          · cases h
        · rename_i ti b o es l c1 b2 o2 es2 l2 c2 hti e1 e2
          obtain ⟨u, σ', h1, h2, h3, h4⟩ := copyA_goes (P := P) (ng := ng) (cap := c1) (cap2 := c2) hwf h
          refine ⟨u, σ', h1, h2, h3, fun base e w R hb hr hρ => ?_⟩
          have hx1 := hρ x
          have hy1 := hρ y
          rw [e1] at hx1
          rw [e2] at hy1
          obtain ⟨w', z, g1, g2, g3, g4⟩ := h4 base e w _ _ it ty hb hr hx1 hy1
          refine ⟨e, w', .value z, z, ?_, .inl rfl, g2, g3, g4⟩
          have hm : Array.map R #[x, y] = #[R x, R y] := by simp
          simp only [execOp, resolve, Sem.run_bind, Sem.run_pure, Result.andThen_ok, invoke, builtin, hm, g1]
        · cases h
      · cases h
    · cases h
  · rename_i s d x
    split at h
    · rename_i b o hx
      split at h
      · rename_i v hv
        refine ⟨v, σ, h, hwf, .refl σ, fun base e w R hb hr hρ => ?_⟩
        have hX := hρ x
        rw [hx] at hX
        simp only [VR] at hX
        obtain ⟨hm, hX⟩ := hX
        obtain ⟨z, g1, g2⟩ := turnPtrA_sound hv hr hm
        exact ⟨e, w, _, z, by simp only [execOp]; rw [hX]; exact val g2, .inl rfl, g1, hr, .refl ..⟩
      · cases h
    · rename_i l hx
      obtain ⟨v, σ', h1, h2, h3, h4⟩ := strRowA_goes (P := P) (ng := ng) hwf h
      refine ⟨v, σ', h1, h2, h3, fun base e w R hb hr hρ => ?_⟩
      have hX := hρ x
      rw [hx] at hX
      obtain ⟨e', w', z, g1, g2, g3, g4⟩ := h4 base e w _ hb hr hX
      exact ⟨e', w', _, z, by simp only [execOp]; exact val g1, .inl rfl, g2, g3, g4⟩
    · cases h
  · cases h

theorem pureK_goes {tab : Tab P} {ρ : Operand → V} {o : Oper} {σ : St} (hwf : AWf σ) {κ : V → St → Bool} (h : pureK tab ρ o.op (fun v => κ v σ) = true) : ∃ v, κ v σ = true ∧ pureA tab ρ o.op = some v ∧ OpDoes P ng ρ o σ v σ := by
  obtain ⟨v, h1, h2⟩ := pureK_pureA h
  refine ⟨v, h2, h1, hwf, .refl σ, fun base e w R hb hr hρ => ?_⟩
  obtain ⟨z, g1, g2⟩ := pureA_sound (P := P) (o := o) h1 hρ
  exact ⟨e, w, _, z, g2 w, .inl rfl, g1, hr, .refl ..⟩
end
end Go.Proofs.YtdolijagffcfgaaGreatDoor.Ev

/-
  The evaluator's frames, and how they stand for the machine's; the machine's steps at an operation.
-/
namespace Go.Proofs.YtdolijagffcfgaaGreatDoor.Ev

/-! ### the state of a frame's caller, which a deferred call may turn -/
inductive U where
  | none
  | returning
  | pan (chain : List (V × Bool))

def CHR (e : Env) : List (V × Bool) → List PanicEntry → Prop
  | [], [] => True
  | (v, r) :: l, x :: m => (VR e v x.v ∧ x.recovered = r ∧ x.goexit = false) ∧ CHR e l m
  | _, _ => False

theorem CHR.mono {e e' : Env} (h : e.le e') : ∀ {l : List (V × Bool)} {m : List PanicEntry}, CHR e l m → CHR e' l m
  | [], [], _ => trivial
  | (_, _) :: _, _ :: _, r => ⟨⟨VR.mono h _ _ r.1.1, r.1.2⟩, CHR.mono h r.2⟩
  | [], _ :: _, r => r.elim
  | _ :: _, [], r => by simp only [CHR] at r

theorem CHR.app {e : Env} : ∀ {l l' : List (V × Bool)} {m m' : List PanicEntry}, CHR e l m → CHR e l' m' → CHR e (l ++ l') (m ++ m')
  | [], _, [], _, _, h => h
  | (_, _) :: _, _, _ :: _, _, r, h => ⟨r.1, CHR.app r.2 h⟩
  | [], _, _ :: _, _, r, _ => r.elim
  | _ :: _, _, [], _, r, _ => by simp only [CHR] at r

def UR (e : Env) (u : U) (m : FrameMode) : Prop :=
  match u with
  | .none => True
  | .returning => m = .returning
  | .pan ch => ∃ C, m = .panicking C ∧ CHR e ch C

theorem UR.mono {e e' : Env} (h : e.le e') {u : U} {m : FrameMode} (r : UR e u m) : UR e' u m := by
  cases u with
  | none => trivial
  | returning => exact r
  | pan ch => obtain ⟨C, h1, h2⟩ := r; exact ⟨C, h1, h2.mono h⟩

/-- what of a frame does not change -/
structure Fr where
  fn : FuncId
  nt : Nat
  dfd : Bool
  rd : Option Nat

def BR (e : Env) (fr : Fr) (b : Frame) : Prop :=
  b.fn = fr.fn ∧ b.kind = (if fr.dfd then .deferred else .normal) ∧ match fr.rd with
    | none => b.roundOf = none
    | some l => e.M l ∧ b.roundOf = some (e.blk l)

theorem BR.mono {e e' : Env} (h : e.le e') {fr : Fr} {b : Frame} (r : BR e fr b) : BR e' fr b := by
  obtain ⟨r1, r2, r3⟩ := r
  refine ⟨r1, r2, ?_⟩
  cases hr : fr.rd with
  | none => rw [hr] at r3; exact r3
  | some l =>
    rw [hr] at r3
    obtain ⟨m, hb, _⟩ := h.mono l r3.1
    exact ⟨m, by rw [hb]; exact r3.2⟩

def KR (e : Env) (fr : Fr) (u : U) (cs : List Frame) : Prop := fr.dfd = true → ∃ c r, cs = c :: r ∧ UR e u c.mode

def KS (e : Env) (fr : Fr) (u : U) (cs cs' : List Frame) : Prop :=
  (fr.dfd = false → cs' = cs) ∧ (fr.dfd = true → ∃ c r m, cs = c :: r ∧ cs' = { c with mode := m } :: r ∧ UR e u m)

theorem KS.refl {e : Env} {fr : Fr} {u : U} {cs : List Frame} (h : KR e fr u cs) : KS e fr u cs cs :=
  ⟨fun _ => rfl, fun hd => let ⟨c, r, h1, h2⟩ := h hd; ⟨c, r, c.mode, h1, by rw [h1], h2⟩⟩
theorem KS.trans {e e' : Env} {fr : Fr} {u u' : U} {a b c : List Frame} (h : KS e fr u a b) (k : KS e' fr u' b c) : KS e' fr u' a c := by
  refine ⟨fun hd => (k.1 hd).trans (h.1 hd), fun hd => ?_⟩
  obtain ⟨c1, r1, m1, h1, h2, _⟩ := h.2 hd
  obtain ⟨c2, r2, m2, k1, k2, k3⟩ := k.2 hd
  rw [h2] at k1
  simp only [List.cons.injEq] at k1
  obtain ⟨rfl, rfl⟩ := k1
  exact ⟨c1, r1, m2, h1, k2, k3⟩
theorem KS.kr {e : Env} {fr : Fr} {u : U} {cs cs' : List Frame} (h : KS e fr u cs cs') : KR e fr u cs' := by
  intro hd
  obtain ⟨c, r, m, _, h2, h3⟩ := h.2 hd
  exact ⟨_, r, h2, h3⟩
theorem KR.mono {e e' : Env} (h : e.le e') {fr : Fr} {u : U} {cs : List Frame} (r : KR e fr u cs) : KR e' fr u cs :=
  fun hd => let ⟨c, x, h1, h2⟩ := r hd; ⟨c, x, h1, h2.mono h⟩

/-- the program's own variables lie where they lie -/
def GE (ng : Nat) (e : Env) : Prop := ∀ g, g < ng → e.M g ∧ e.blk g = g
theorem GE.mono {ng : Nat} {e e' : Env} (h : e.le e') (r : GE ng e) : GE ng e' := fun g hg => by
  obtain ⟨r1, r2⟩ := r g hg
  obtain ⟨m, hb, _⟩ := h.mono g r1
  exact ⟨m, hb.trans r2⟩

/-! ### temporaries -/
noncomputable def tget (tm : T V) (t : Nat) : V := T.get (.tup []) dt tm t

structure TR (e : Env) (nt : Nat) (tm : T V) (tmps : Array Value) : Prop where
  size : tmps.size = nt
  rel : ∀ t, t < 2 ^ dt → VR e (tget tm t) (tmps.getD t undef)

theorem TR.mono {e e' : Env} (h : e.le e') {nt : Nat} {tm : T V} {tmps : Array Value} (r : TR e nt tm tmps) : TR e' nt tm tmps :=
  ⟨r.size, fun t ht => VR.mono h _ _ (r.rel t ht)⟩

noncomputable def evalA (ng : Nat) (tm : T V) (x : Operand) : V :=
  match x with
  | .tmp t => bif Nat.blt t 512 then tget tm t else .junk
  | .const v => ofV 8 v
  | .global g => bif Nat.blt g ng then .ptr g 0 else .junk
  | .func f => .func (.func f) [] []

theorem evalA_sound {ng : Nat} {e : Env} {nt : Nat} {tm : T V} {a : Act} (hg : GE ng e) (ht : TR e nt tm a.tmps) (x : Operand) : VR e (evalA ng tm x) (a.eval x) := by
  cases x with
  | tmp t =>
    simp only [evalA, cond_eq_ite]
    split
    · rename_i h
      exact ht.rel t (blt_lt h)
    · simp only [VR]
  | const v => exact ofV_sound e 8 v
  | global g =>
    simp only [evalA, cond_eq_ite]
    split
    · rename_i h
      obtain ⟨h1, h2⟩ := hg g (blt_lt h)
      simp only [VR]
      exact ⟨h1, by rw [h2]; rfl⟩
    · simp only [VR]
  | func f =>
    simp only [evalA, VR]
    exact ⟨by simp, #[], #[], rfl, VRs.nil, VRs.nil⟩

noncomputable def putT (nt : Nat) (dst : Option Tmp) (v : V) (tm : T V) (κ : T V → Bool) : Bool :=
  match dst with
  | none => κ tm
  | some d => bif Nat.blt d nt && Nat.blt d 512 then T.setK (.tup []) v dt d tm κ else false

/-- the same, plainly -/
noncomputable def putP (dst : Option Tmp) (v : V) (tm : T V) : T V :=
  match dst with
  | none => tm
  | some d => T.set (.tup []) v dt d tm

theorem putT_eq {nt : Nat} {dst : Option Tmp} {v : V} {tm : T V} {κ : T V → Bool} (h : putT nt dst v tm κ = true) : κ (putP dst v tm) = true ∧ ∀ d, dst = some d → d < nt ∧ d < 2 ^ dt := by
  unfold putT at h
  split at h
  · exact ⟨h, by simp⟩
  · rw [cond_eq_ite] at h
    split at h
    · rename_i hc0
      have hc := Bool.and_eq_true_iff.1 hc0
      rw [T.setK_eq] at h
      refine ⟨h, fun d' hd => ?_⟩
      simp only [Option.some.injEq] at hd
      subst hd
      exact ⟨blt_lt hc.1, blt_lt hc.2⟩
    · cases h

theorem TR.put {e : Env} {nt : Nat} {tm : T V} {a : Act} (ht : TR e nt tm a.tmps) {dst : Option Tmp} (hd : ∀ d, dst = some d → d < nt ∧ d < 2 ^ dt) {v : V} {z : Value} (hv : VR e v z) : TR e nt (putP dst v tm) (a.put dst z).tmps := by
  cases dst with
  | none => exact ht
  | some d =>
    obtain ⟨h1, h2⟩ := hd d rfl
    refine ⟨by simp [Act.put, ht.size], fun t h3 => ?_⟩
    simp only [putP, tget, Act.put]
    rw [T.get_set _ _ _ _ _ _ h2 h3]
    by_cases he : t = d
    · subst he
      rw [if_pos rfl]
      have : (a.tmps.setIfInBounds t z).getD t undef = z := by
        have hlt : t < a.tmps.size := by rw [ht.size]; exact h1
        simp [Array.getD, hlt]
      rw [this]
      exact hv
    · rw [if_neg he]
      have : (a.tmps.setIfInBounds d z).getD t undef = a.tmps.getD t undef := by
        simp only [Array.getD_eq_getD_getElem?, Array.getElem?_setIfInBounds_ne (Ne.symm he)]
      rw [this]
      exact ht.rel t h3

theorem DRs.app {e : Env} : ∀ {l l' : List ADef} {m m' : List Deferred}, DRs e l m → DRs e l' m' → DRs e (l ++ l') (m ++ m')
  | [], _, [], _, _, h => h
  | _ :: _, _, _ :: _, _, r, h => ⟨r.1, DRs.app r.2 h⟩
  | [], _, _ :: _, _, r, _ => r.elim
  | _ :: _, _, [], _, r, _ => r.elim

/-! ### a frame's state -/
structure SR (ng base : Nat) (fr : Fr) (e : Env) (tm : T V) (ds : List ADef) (u : U) (σ : St) (b : Frame) (a : Act) (cs : List Frame) (w : World) : Prop where
  room : base ≤ w.heap.size
  rel : Rel ng base e σ w
  glob : GE ng e
  bf : BR e fr b
  tm : TR e fr.nt tm a.tmps
  ds : DRs e ds a.defers
  kr : KR e fr u cs

section
variable {P : Program} {ng base : Nat} {fr : Fr} {b : Frame}

/-- the machine comes to a state in which the frame goes on at 'todo' -/
def To (P : Program) (ng base : Nat) (fr : Fr) (b : Frame) (e : Env) (σ : St) (w : World) (cs : List Frame) (m : Machine) (todo : List Item) (tm' : T V) (ds' : List ADef) (u' : U) (σ' : St) : Prop :=
  ∃ e' a' cs' w', Steps P m (lone (b.atR a' todo) cs' w') ∧ SR ng base fr e' tm' ds' u' σ' b a' cs' w' ∧ Ext ng e σ w e' σ' w' ∧ KS e' fr u' cs cs'

/-- .. in which the frame panics -/
def Pan (P : Program) (ng base : Nat) (fr : Fr) (b : Frame) (e : Env) (σ : St) (w : World) (cs : List Frame) (m : Machine) (ch : List (V × Bool)) (tm' : T V) (ds' : List ADef) (u' : U) (σ' : St) : Prop :=
  ∃ e' a' cs' w' todo C, Steps P m (lone { b.atR a' todo with mode := .panicking C } cs' w') ∧ CHR e' ch C ∧ SR ng base fr e' tm' ds' u' σ' b a' cs' w' ∧ Ext ng e σ w e' σ' w' ∧ KS e' fr u' cs cs'

theorem To.trans {e : Env} {σ : St} {w : World} {cs : List Frame} {m : Machine} {todo : List Item} {tm' : T V} {ds' : List ADef} {u' : U} {σ' : St} (h : To P ng base fr b e σ w cs m todo tm' ds' u' σ')
    {todo2 : List Item} {tm2 : T V} {ds2 : List ADef} {u2 : U} {σ2 : St} (k : ∀ e a cs w, SR ng base fr e tm' ds' u' σ' b a cs w → To P ng base fr b e σ' w cs (lone (b.atR a todo) cs w) todo2 tm2 ds2 u2 σ2) : To P ng base fr b e σ w cs m todo2 tm2 ds2 u2 σ2 := by
  obtain ⟨e1, a1, cs1, w1, h1, h2, h3, h4⟩ := h
  obtain ⟨e2, a2, cs2, w2, k1, k2, k3, k4⟩ := k e1 a1 cs1 w1 h2
  exact ⟨e2, a2, cs2, w2, Steps.trans h1 k1, k2, h3.trans k3, h4.trans k4⟩

theorem To.pan {e : Env} {σ : St} {w : World} {cs : List Frame} {m : Machine} {todo : List Item} {tm' : T V} {ds' : List ADef} {u' : U} {σ' : St} (h : To P ng base fr b e σ w cs m todo tm' ds' u' σ')
    {ch : List (V × Bool)} {tm2 : T V} {ds2 : List ADef} {u2 : U} {σ2 : St} (k : ∀ e a cs w, SR ng base fr e tm' ds' u' σ' b a cs w → Pan P ng base fr b e σ' w cs (lone (b.atR a todo) cs w) ch tm2 ds2 u2 σ2) : Pan P ng base fr b e σ w cs m ch tm2 ds2 u2 σ2 := by
  obtain ⟨e1, a1, cs1, w1, h1, h2, h3, h4⟩ := h
  obtain ⟨e2, a2, cs2, w2, td, C, k1, k2, k3, k4, k5⟩ := k e1 a1 cs1 w1 h2
  exact ⟨e2, a2, cs2, w2, td, C, Steps.trans h1 k1, k2, k3, h3.trans k4, h4.trans k5⟩

theorem To.one {e : Env} {tm : T V} {ds : List ADef} {u : U} {σ : St} {w : World} {a : Act} {cs : List Frame} {todo todo' : List Item} (h : SR ng base fr e tm ds u σ b a cs w)
    (hs : step P (lone (b.atR a todo) cs w) = .next (lone (b.atR a todo') cs w)) : To P ng base fr b e σ w cs (lone (b.atR a todo) cs w) todo' tm ds u σ :=
  ⟨e, a, cs, w, .one hs, h, .refl .., .refl h.kr⟩

/-! ### the machine's steps at an operation -/
section ops
variable {a : Act} {k : List Item} {cs : List Frame} {w w' : World} {ops : Array Oper} {i : Nat} {rest : List Nat} {o : Oper}

theorem stepR_value (ho : ops[i]? = some o) (hw : Region.wanted o (yielded ops a.tmps) = true) (hd : ∀ c, o.op ≠ .defer c) {nx : Next} {z : Value} (hx : Nx nx z) (h : (execOp a.eval o).run P w = .ok nx w') :
    step P (lone (b.atR a (.inRegion ops (i :: rest) :: k)) cs w) = .next (lone (b.atR (a.put o.dst z) (.inRegion ops rest :: k)) cs w') := by
  have hfin : ∀ v, (b.atR a (.inRegion ops (i :: rest) :: k)).finish v = b.atR (a.put o.dst v) (.inRegion ops rest :: k) := by
    intro v; rw [Frame.finish_atR, ho]; rfl
  refine step_lone_go ?_
  rw [stepGR_op ho hw, Oper.semAt_eq _ _ _ hd, ← hfin]
  rcases hx with rfl | ⟨rfl, rfl⟩ <;> simp [stepG.apply, h]

theorem stepR_panic (ho : ops[i]? = some o) (hw : Region.wanted o (yielded ops a.tmps) = true) (hd : ∀ c, o.op ≠ .defer c) {z : Value} (h : (execOp a.eval o).run P w = .halt (.panic z) w') :
    step P (lone (b.atR a (.inRegion ops (i :: rest) :: k)) cs w) = .next (lone { b.atR a (.inRegion ops (i :: rest) :: k) with mode := .panicking [{ v := z, recovered := false }] } cs w') := by
  refine step_lone_go ?_
  rw [stepGR_op ho hw, Oper.semAt_eq _ _ _ hd, ← Frame.raise_atR]
  simp [stepG.apply, h]

theorem stepR_enter (ho : ops[i]? = some o) (hw : Region.wanted o (yielded ops a.tmps) = true) (hd : ∀ c, o.op ≠ .defer c) {f : FuncId} {args : Array Value} (h : (execOp a.eval o).run P w = .ok (.enter f args) w') :
    step P (lone (b.atR a (.inRegion ops (i :: rest) :: k)) cs w) = .next (lone (Frame.enter P f args .normal) (b.atR a (.inRegion ops (i :: rest) :: k) :: cs) w') := by
  refine step_lone_go ?_
  rw [stepGR_op ho hw, Oper.semAt_eq _ _ _ hd]
  simp [stepG.apply, h, Frame.atR]

theorem stepR_round (ho : ops[i]? = some o) (hw : Region.wanted o (yielded ops a.tmps) = true) (hd : ∀ c, o.op ≠ .defer c) {l : Nat} {f : FuncId} {tmps : Array Value} {assign body : Code} (h : (execOp a.eval o).run P w = .ok (.round l f tmps assign body) w') :
    step P (lone (b.atR a (.inRegion ops (i :: rest) :: k)) cs w) = .next (lone (Frame.round l f tmps assign body .normal) (b.atR a (.inRegion ops (i :: rest) :: k) :: cs) w') := by
  refine step_lone_go ?_
  rw [stepGR_op ho hw, Oper.semAt_eq _ _ _ hd]
  simp [stepG.apply, h]

theorem stepR_defer (ho : ops[i]? = some o) (hw : Region.wanted o (yielded ops a.tmps) = true) {c : Call} (hc : o.op = .defer c) (hro : b.roundOf = none) {d : Deferred} (h : (resolve a.eval c o.type).run P w = .ok d w') :
    step P (lone (b.atR a (.inRegion ops (i :: rest) :: k)) cs w) = .next (lone (b.atR ({ a with defers := d :: a.defers }.put o.dst undef) (.inRegion ops rest :: k)) cs w') := by
  have hfin : ({ b.atR a (.inRegion ops (i :: rest) :: k) with defers := d :: a.defers } : Frame).finish undef = b.atR ({ a with defers := d :: a.defers }.put o.dst undef) (.inRegion ops rest :: k) := by
    have := Frame.finish_atR b { a with defers := d :: a.defers } ops i rest k undef
    rw [ho] at this; exact this
  have hex : (execOp a.eval o).run P w = .ok (.defer d) w' := by
    obtain ⟨dst, op, ty, pos, after, guard⟩ := o
    simp only at hc
    subst hc
    simp only [execOp, Sem.run_bind, h, Result.andThen_ok, Sem.run_pure]
  refine step_lone_go ?_
  rw [stepGR_op ho hw, hro, Oper.semAt_none]
  simp only [stepG.apply, Sem.runT_eq, hex, if_true, GStep.bare_after]
  exact congrArg (fun fr => GStep.go { frame := fr, callers := cs, status := .running, dying := none } w') hfin

theorem stepR_recover_none (ho : ops[i]? = some o) (hw : Region.wanted o (yielded ops a.tmps) = true) (hd : ∀ c, o.op ≠ .defer c) (hro : b.roundOf = none) (h : (execOp a.eval o).run P w = .ok .recover w') (hk : b.kind = .normal ∨ (b.kind = .deferred ∧ recoverD cs = none)) :
    step P (lone (b.atR a (.inRegion ops (i :: rest) :: k)) cs w) = .next (lone (b.atR (a.put o.dst .nilIface) (.inRegion ops rest :: k)) cs w') := by
  have hfin : ∀ v, (b.atR a (.inRegion ops (i :: rest) :: k)).finish v = b.atR (a.put o.dst v) (.inRegion ops rest :: k) := by
    intro v; rw [Frame.finish_atR, ho]; rfl
  have htr : tryRecover (b.atR a (.inRegion ops (i :: rest) :: k)) cs = none := by
    rcases hk with hk | ⟨hk, hr⟩
    · have hk' : (b.atR a (.inRegion ops (i :: rest) :: k)).kind = .normal := hk
      cases cs <;> simp [tryRecover, hk']
    · rw [tryRecover_deferred (by exact hk), hr]
  have hro' : (b.atR a (.inRegion ops (i :: rest) :: k)).roundOf = none := hro
  refine step_lone_go ?_
  rw [stepGR_op ho hw, Oper.semAt_eq _ _ _ hd, ← hfin]
  simp only [stepG.apply, Sem.runT_eq, h, if_true, GStep.bare_after, hro', htr]
  rfl

theorem stepR_recover_some (ho : ops[i]? = some o) (hw : Region.wanted o (yielded ops a.tmps) = true) (hd : ∀ c, o.op ≠ .defer c) (hro : b.roundOf = none) (h : (execOp a.eval o).run P w = .ok .recover w') (hk : b.kind = .deferred) {v : Value} {cs' : List Frame} (hr : recoverD cs = some (v, cs')) :
    step P (lone (b.atR a (.inRegion ops (i :: rest) :: k)) cs w) = .next (lone (b.atR (a.put o.dst v) (.inRegion ops rest :: k)) cs' w') := by
  have hfin : ∀ v, (b.atR a (.inRegion ops (i :: rest) :: k)).finish v = b.atR (a.put o.dst v) (.inRegion ops rest :: k) := by
    intro v; rw [Frame.finish_atR, ho]; rfl
  have htr : tryRecover (b.atR a (.inRegion ops (i :: rest) :: k)) cs = some (v, cs') := by
    rw [tryRecover_deferred (by exact hk), hr]
  have hro' : (b.atR a (.inRegion ops (i :: rest) :: k)).roundOf = none := hro
  refine step_lone_go ?_
  rw [stepGR_op ho hw, Oper.semAt_eq _ _ _ hd, ← hfin]
  simp only [stepG.apply, Sem.runT_eq, h, if_true, GStep.bare_after, hro', htr]
  rfl
end ops
end
end Go.Proofs.YtdolijagffcfgaaGreatDoor.Ev

/-
  The evaluator's operations of every kind, calls among them, with what the machine does.
-/
namespace Go.Proofs.YtdolijagffcfgaaGreatDoor.Ev

inductive COut where
  | ret (v : V)
  | pan (ch : List (V × Bool))

inductive Ent where
  | fn (f : FuncId) (args : List V) (dfd : Bool)
  | rd (l : Nat) (args : List V)

abbrev CallT := Ent → U → St → (COut → U → St → Bool) → Bool

def ER (e : Env) (out : COut) (E : Ending) : Prop :=
  match out, E with
  | .ret v, .returned z => VR e v z
  | .pan ch, .panicked C => CHR e ch C
  | _, _ => False

def EntDoes (P : Program) (ng : Nat) (ent : Ent) (u : U) (σ : St) (out : COut) (u' : U) (σ' : St) : Prop :=
  match ent with
  | .fn f args false => ∀ base e w (ARGS : Array Value), base ≤ w.heap.size → ng ≤ base → Rel ng base e σ w → GE ng e → VRs e args ARGS.toList → ∀ cs, ∃ e' w' fr E,
      Steps P (lone (Frame.enter P f ARGS .normal) cs w) (lone fr cs w') ∧ fr.fn = f ∧ fr.leaving P w' E ∧ ER e' out E ∧ Rel ng base e' σ' w' ∧ Ext ng e σ w e' σ' w'
  | .fn f args true => ∀ base e w (ARGS : Array Value), base ≤ w.heap.size → ng ≤ base → Rel ng base e σ w → GE ng e → VRs e args ARGS.toList → ∀ c cs, UR e u c.mode → ∃ e' w' fr E m,
      Steps P (lone (Frame.enter P f ARGS .deferred) (c :: cs) w) (lone fr ({ c with mode := m } :: cs) w') ∧ fr.kind = .deferred ∧ fr.going P w' E ∧ ER e' out E ∧ UR e' u' m ∧ Rel ng base e' σ' w' ∧ Ext ng e σ w e' σ' w'
  | .rd l args => ∀ base e w (ARGS : Array Value), base ≤ w.heap.size → ng ≤ base → Rel ng base e σ w → GE ng e → e.M l → VRs e args ARGS.toList → ∃ f tmps assign body,
      (Instr.yield (e.blk l) ARGS).run P w = .ok (.round (e.blk l) f tmps assign body) w ∧ ∀ c cs, ∃ e' w',
        (match out with
          | .ret v => ∃ z, Steps P (lone (Frame.round (e.blk l) f tmps assign body .normal) (c :: cs) w) (lone (c.finish z) cs w') ∧ VR e' v z
          | .pan ch => ∃ C, Steps P (lone (Frame.round (e.blk l) f tmps assign body .normal) (c :: cs) w) (lone (c.raise C) cs w') ∧ CHR e' ch C) ∧ Rel ng base e' σ' w' ∧ Ext ng e σ w e' σ' w'

def CallOk (P : Program) (ng : Nat) (C : CallT) : Prop :=
  ∀ ent u σ κ, AWf σ → C ent u σ κ = true → ∃ out u' σ', κ out u' σ' = true ∧ AWf σ' ∧ AExt σ σ' ∧ EntDoes P ng ent u σ out u' σ'

section
variable {P : Program} {ng : Nat} {C : CallT}

noncomputable def valueK (C : CallT) (tab : Tab P) (f : V) (args : List V) (σ : St) (κ : V → St → Bool) (κp : List (V × Bool) → St → Bool) : Bool :=
  match f with
  | .func (.func g) first captured =>
    match tab.ext g with
    | some F =>
      match first, captured with
      | [], [] => match F args with | some v => forceV v fun v => κ v σ | none => false
      | _, _ => false
    | none =>
      match tab.mkr g with
      | some el =>
        match first, captured, args with
        | [], [], [.int .i64 (.ofNat n)] => bif Nat.ble n 140737488355328 then σ.newK (.cells el [] true false) fun b σ' => κ (.slice b 0 1 n none) σ' else false
        | _, _, _ => false
      | none =>
        match tab.fn g with
        | some _ => lappK args captured fun r => lappK first r fun all => C (.fn g all false) .none σ fun out _ σ' =>
          match out with
          | .ret v => κ v σ'
          | .pan ch => κp ch σ'
        | none => false
  | .yieldf l => C (.rd l args) .none σ fun out _ σ' =>
      match out with
      | .ret v => κ v σ'
      | .pan ch => κp ch σ'
  | _ => false

/-- a method of an interface's value -/
noncomputable def invokeK (C : CallT) (tab : Tab P) (r : V) (name : String) (args : List V) (σ : St) (κ : V → St → Bool) (κp : List (V × Bool) → St → Bool) : Bool :=
  match r with
  | .iface t v =>
    match tab.mth t name with
    | some g =>
      match tab.fn g with
      | some _ => C (.fn g (v :: args) false) .none σ fun out _ σ' =>
        match out with
        | .ret v => κ v σ'
        | .pan ch => κp ch σ'
      | none => false
    | none => false
  | _ => false

/-- an operation -/
noncomputable def opK (C : CallT) (ng : Nat) (tab : Tab P) (fr : Fr) (ρ : Operand → V) (op : Op) (ds : List ADef) (u : U) (σ : St) (κ : V → List ADef → U → St → Bool) (κp : List (V × Bool) → U → St → Bool) : Bool :=
  match op with
  | .call c =>
    match c.callee with
    | .value f => headV (ρ f) fun f => mapVK ρ c.args.toList fun args => valueK C tab f args σ (fun v σ' => κ v ds u σ') (fun ch σ' => κp ch u σ')
    | .builtin .recover =>
      match fr.rd with
      | none =>
        bif fr.dfd then
          match u with
          | .pan ((v, false) :: older) => κ v ds (.pan ((v, true) :: older)) σ
          | .pan ((v, true) :: older) => κ .nili ds (.pan ((v, true) :: older)) σ
          | .returning => κ .nili ds .returning σ
          | _ => false
        else κ .nili ds u σ
      | some _ => false
    | .builtin .append => memK ng tab ρ (.call c) σ fun v σ' => κ v ds u σ'
    | .builtin .unsafeString => memK ng tab ρ (.call c) σ fun v σ' => κ v ds u σ'
    | .builtin .copy => memK ng tab ρ (.call c) σ fun v σ' => κ v ds u σ'
    | .builtin .len =>
      match pureA tab ρ (.call c) with
      | some v => forceV v fun v => κ v ds u σ
      | none => memK ng tab ρ (.call c) σ fun v σ' => κ v ds u σ'
    | .invoke r name => headV (ρ r) fun r => mapVK ρ c.args.toList fun args => invokeK C tab r name args σ (fun v σ' => κ v ds u σ') (fun ch σ' => κp ch u σ')
    | _ => pureK tab ρ (.call c) fun v => κ v ds u σ
  | .defer c =>
    match fr.rd, c.callee with
    | none, .value f =>
      match ρ f with
      | .func (.func g) first captured => mapVK ρ c.args.toList fun args => lappK first args fun all => κ (.tup []) ({ fn := .func g, captured := captured, args := all } :: ds) u σ
      | _ => false
    | _, _ => false
  | .panic x =>
    match ρ x with
    | .iface t v => κp [(.iface t v, false)] u σ
    | _ => false
  | .load t x => memK ng tab ρ (.load t x) σ fun v σ' => κ v ds u σ'
  | .lookup t x k ok => memK ng tab ρ (.lookup t x k ok) σ fun v σ' => κ v ds u σ'
  | .store t x v => memK ng tab ρ (.store t x v) σ fun v σ' => κ v ds u σ'
  | .alloc t => memK ng tab ρ (.alloc t) σ fun v σ' => κ v ds u σ'
  | .box t x => memK ng tab ρ (.box t x) σ fun v σ' => κ v ds u σ'
  | .buildSlice t n ps => memK ng tab ρ (.buildSlice t n ps) σ fun v σ' => κ v ds u σ'
  | .makeMap t r => memK ng tab ρ (.makeMap t r) σ fun v σ' => κ v ds u σ'
  | .makeSlice t l c => memK ng tab ρ (.makeSlice t l c) σ fun v σ' => κ v ds u σ'
  | .mapUpdate t m k x => memK ng tab ρ (.mapUpdate t m k x) σ fun v σ' => κ v ds u σ'
  | .insert t m k x => memK ng tab ρ (.insert t m k x) σ fun v σ' => κ v ds u σ'
  | .mapEntry t m k => memK ng tab ρ (.mapEntry t m k) σ fun v σ' => κ v ds u σ'
  | .entryStore t m s x => memK ng tab ρ (.entryStore t m s x) σ fun v σ' => κ v ds u σ'
  | .range t x => memK ng tab ρ (.range t x) σ fun v σ' => κ v ds u σ'
  | .next x s => memK ng tab ρ (.next x s) σ fun v σ' => κ v ds u σ'
  | .convert s d x =>
    match ρ x with
    | .ptr _ _ => memK ng tab ρ (.convert s d x) σ fun v σ' => κ v ds u σ'
    | .str _ => bif isRowT tab d then memK ng tab ρ (.convert s d x) σ fun v σ' => κ v ds u σ' else pureK tab ρ (.convert s d x) fun v => κ v ds u σ
    | _ => pureK tab ρ (.convert s d x) fun v => κ v ds u σ
  | op => pureK tab ρ op fun v => κ v ds u σ

/-- what the machine does at an operation that ends with a value -/
def OpOk (P : Program) (ng : Nat) (fr : Fr) (ρ : Operand → V) (o : Oper) (ds : List ADef) (u : U) (σ : St) (v : V) (ds' : List ADef) (u' : U) (σ' : St) : Prop :=
  ∀ base e (b : Frame) a cs w ops i rest k, base ≤ w.heap.size → ng ≤ base → Rel ng base e σ w → GE ng e → BR e fr b → (∀ x, VR e (ρ x) (a.eval x)) → DRs e ds a.defers → KR e fr u cs → ops[i]? = some o → Region.wanted o (yielded ops a.tmps) = true →
    ∃ e' dl cs' w' z, Steps P (lone (b.atR a (.inRegion ops (i :: rest) :: k)) cs w) (lone (b.atR ({ a with defers := dl }.put o.dst z) (.inRegion ops rest :: k)) cs' w') ∧ VR e' v z ∧ DRs e' ds' dl ∧ Rel ng base e' σ' w' ∧ Ext ng e σ w e' σ' w' ∧ KS e' fr u' cs cs'

/-- .. with a panic -/
def OpPan (P : Program) (ng : Nat) (fr : Fr) (ρ : Operand → V) (o : Oper) (u : U) (σ : St) (ch : List (V × Bool)) (u' : U) (σ' : St) : Prop :=
  ∀ base e (b : Frame) a cs w ops i rest k, base ≤ w.heap.size → ng ≤ base → Rel ng base e σ w → GE ng e → BR e fr b → (∀ x, VR e (ρ x) (a.eval x)) → KR e fr u cs → ops[i]? = some o → Region.wanted o (yielded ops a.tmps) = true →
    ∃ e' cs' w' C, Steps P (lone (b.atR a (.inRegion ops (i :: rest) :: k)) cs w) (lone { b.atR a (.inRegion ops (i :: rest) :: k) with mode := .panicking C } cs' w') ∧ CHR e' ch C ∧ Rel ng base e' σ' w' ∧ Ext ng e σ w e' σ' w' ∧ KS e' fr u' cs cs'

theorem OpDoes.ok {fr : Fr} {ρ : Operand → V} {o : Oper} {ds : List ADef} {u : U} {σ : St} {v : V} {σ' : St} (h : OpDoes P ng ρ o σ v σ') (hd : ∀ c, o.op ≠ .defer c) : OpOk P ng fr ρ o ds u σ v ds u σ' := by
  intro base e b a cs w ops i rest k hb _ hr _ _ hρ hds hk ho hw
  obtain ⟨e', w', nx, z, h1, h2, h3, h4, h5⟩ := h.2.2 base e w a.eval hb hr hρ
  exact ⟨e', a.defers, cs, w', z, .one (stepR_value ho hw hd h2 h1), h3, hds.mono h5.le, h4, h5, (KS.refl (hk.mono h5.le))⟩

theorem run_callFunc {tab : Tab P} {g : FuncId} {fn : Func} (h : tab.fn g = some fn) (args : Array Value) (w : World) : (callFunc g args).run P w = .ok (.enter g args) w := by
  obtain ⟨h1, h2, h3⟩ := tab.fnOk g fn h
  have h5 : ¬ fn.name = "runtime.NumGoroutine" := by simpa using h2
  cases hb : fn.body with
  | none => rw [hb] at h3; cases h3
  | some c => simp [callFunc, h1, h5, hb]

theorem resolve_value (ρ : Operand → Value) (f : Operand) (args : Array Operand) (ts : Array TypeId) (ty : TypeId) {fn : Fn} {first captured : Array Value} (h : ρ f = .func fn first captured) (w : World) :
    (resolve ρ { callee := .value f, args := args, argTypes := ts } ty).run P w = .ok { target := .fn fn captured, args := first ++ args.map ρ } w := by
  simp only [resolve, h, Deferred.ofValue, Sem.run_pure]

theorem opK_sound {tab : Tab P} (hC : CallOk P ng C) {fr : Fr} {ρ : Operand → V} {o : Oper} {ds : List ADef} {u : U} {σ : St} (hwf : AWf σ) {κ : V → List ADef → U → St → Bool} {κp : List (V × Bool) → U → St → Bool}
    (h : opK C ng tab fr ρ o.op ds u σ κ κp = true) :
    (∃ v ds' u' σ', κ v ds' u' σ' = true ∧ AWf σ' ∧ AExt σ σ' ∧ OpOk P ng fr ρ o ds u σ v ds' u' σ') ∨
    (∃ ch u' σ', κp ch u' σ' = true ∧ AWf σ' ∧ AExt σ σ' ∧ OpPan P ng fr ρ o u σ ch u' σ') := by
  have pur : (∀ c, o.op ≠ .defer c) → pureK tab ρ o.op (fun v => κ v ds u σ) = true → ∃ v ds' u' σ', κ v ds' u' σ' = true ∧ AWf σ' ∧ AExt σ σ' ∧ OpOk P ng fr ρ o ds u σ v ds' u' σ' := by
    intro hd hp
    obtain ⟨v, h1, _, h2⟩ := pureK_goes (ng := ng) (κ := fun v σ => κ v ds u σ) hwf hp
    exact ⟨v, ds, u, σ, h1, hwf, .refl σ, h2.ok hd⟩
  have mem : (∀ c, o.op ≠ .defer c) → memK ng tab ρ o.op σ (fun v σ' => κ v ds u σ') = true → ∃ v ds' u' σ', κ v ds' u' σ' = true ∧ AWf σ' ∧ AExt σ σ' ∧ OpOk P ng fr ρ o ds u σ v ds' u' σ' := by
    intro hd hp
    obtain ⟨v, σ', h1, h2⟩ := memK_goes hwf hp
    exact ⟨v, ds, u, σ', h1, h2.1, h2.2.1, h2.ok hd⟩
  obtain ⟨dst, op, ty, pos, after, guard⟩ := o
  simp only at h pur mem
  unfold opK at h
  split at h
  · rename_i c
    have hd : ∀ c', Op.call c ≠ .defer c' := by intro c'; simp
    split at h
    · -- a function's value
      rename_i f hcal
      rw [headV_eq, mapVK_eq] at h
      obtain ⟨callee, args, ts⟩ := c
      simp only at hcal h
      subst hcal
      unfold valueK at h
      split at h
      · rename_i g first captured hf
        have noCells : ∀ {e : Env} {b : Act}, VR e (.func (.func g) [] []) (b.eval f) → b.eval f = .func (.func g) #[] #[] := by
          intro e b hfv
          simp only [VR] at hfv
          obtain ⟨_, fa, ca, hfe, hfa, hca⟩ := hfv
          have hfa' : fa = #[] := by
            have := hfa.length; simp at this
            exact Array.eq_empty_of_size_eq_zero (by simpa using this.symm)
          have hca' : ca = #[] := by
            have := hca.length; simp at this
            exact Array.eq_empty_of_size_eq_zero (by simpa using this.symm)
          subst hfa'
          subst hca'
          exact hfe
        split at h
        · rename_i F hF
          split at h <;> first | (cases h; done) | skip
          split at h
          · rename_i v hv
            rw [forceV_eq] at h
            left
            refine ⟨_, ds, u, σ, h, hwf, .refl σ, ?_⟩
            intro base e b a cs w ops i rest k hb hnb hr hg hbr hρ hds hk ho hw
            have hfv := hρ f
            rw [hf] at hfv
            have hfe := noCells hfv
            have hargsL : VRs e (args.toList.map ρ) (args.map a.eval).toList := by
              rw [Array.toList_map]; exact VRs.map hρ _
            obtain ⟨z, hz1, hz2⟩ := tab.extOk g F hF _ _ hv e _ hargsL
            have hrun : (execOp a.eval ⟨dst, .call ⟨.value f, args, ts⟩, ty, pos, after, guard⟩).run P w = .ok (.value z) w := by
              simp only [execOp, Sem.run_bind, resolve_value a.eval f args ts ty hfe, Result.andThen_ok, invoke]
              simpa using hz2 w
            exact ⟨e, a.defers, cs, w, z, .one (stepR_value ho hw hd (.inl rfl) hrun), hz1, hds, hr, .refl .., .refl hk⟩
          · cases h
        · split at h
          · rename_i el hmk
            split at h <;> first | (cases h; done) | skip
            rename_i n hargs
            rw [cond_eq_ite] at h
            split at h
            · rename_i hle0
              have hle := Nat.le_of_ble_eq_true hle0
              obtain ⟨h1, h2, h3, h4⟩ := newK_goes (P := P) (ng := ng) hwf h
              left
              refine ⟨_, ds, u, _, h1, h2, h3, ?_⟩
              intro base e b a cs w ops i rest k hb hnb hr hg hbr hρ hds hk ho hw
              have hfv := hρ f
              rw [hf] at hfv
              have hfe := noCells hfv
              have hargsL : VRs e [.int .i64 (.ofNat n)] (args.map a.eval).toList := by
                rw [Array.toList_map, ← hargs]; exact VRs.map hρ _
              have hz : args.map a.eval = #[.int .i64 n] := by
                have hl := hargsL.length
                simp at hl
                obtain ⟨z, hz⟩ : ∃ z, args.map a.eval = #[z] := Array.size_eq_one_iff.1 (by simpa using hl.symm)
                rw [hz] at hargsL
                simp only [VRs, VR, and_true] at hargsL
                rw [hz, hargsL]
                rfl
              obtain ⟨cs0, w1, m1, m2, m3, m4, m5, m6⟩ := tab.mkOk g el hmk n hle w
              have hrun : (execOp a.eval ⟨dst, .call ⟨.value f, args, ts⟩, ty, pos, after, guard⟩).run P w = .ok (.value (.slice (some ⟨w.heap.size, 0, none⟩) n cs0.size)) { w1 with heap := w1.heap.push (.cells cs0 el) } := by
                simp only [execOp, Sem.run_bind, resolve_value a.eval f args ts ty hfe, Result.andThen_ok, invoke, hz]
                simpa using m6
              have hr1 : Rel ng base e σ w1 := hr.gc m2
              obtain ⟨w', g1, g2, g3⟩ := h4 base e w1 (.cells cs0 el) cs0.size (by rw [m2]; exact hb) hr1 ⟨cs0, (0, 0), [], cs0.toList, rfl, by simp, VRs.nil, by simp [Env.more], by simp, fun _ => rfl⟩
              have hw' : w' = { w1 with heap := w1.heap.push (.cells cs0 el) } := by
                have : (newObj (.cells cs0 el)).run P w1 = .ok w1.heap.size { w1 with heap := w1.heap.push (.cells cs0 el) } := rfl
                rw [this] at g1
                simp only [Result.ok.injEq] at g1
                exact g1.2.symm
              rw [← hw'] at hrun
              have hx : Ext ng e σ w (e.more σ.next w1.heap.size cs0.size) (σ.more (.cells el [] true false)) w' :=
                ⟨g3.le, g3.next, by rw [← m2]; exact g3.size, g3.newer, by rw [← m2]; exact g3.kept, by rw [← m2]; exact g3.orig, g3.logs, g3.looks, g3.os.trans m3, g3.output.trans m4, g3.tape.trans m5⟩
              refine ⟨_, a.defers, cs, w', _, .one (stepR_value ho hw hd (.inl rfl) hrun), ?_, hds.mono hx.le, g2, hx, .refl (hk.mono hx.le)⟩
              simp only [VR]
              refine ⟨.inr rfl, cs0.size, ?_, m1, ?_, by simp, ?_⟩
              · simp [Env.more, m2]
              · simp [Env.more]
              · intro _; simp [Env.more]
            · cases h
          · split at h
            · rename_i fn hfn
              rw [lappK_eq, lappK_eq] at h
              obtain ⟨out, u1, σ', h1, h2, h3, h4⟩ := hC _ _ _ _ hwf h
              have run : ∀ base e (b : Frame) (a : Act) cs w (ops : Array Oper) i rest (k : List Item), base ≤ w.heap.size → ng ≤ base → Rel ng base e σ w → GE ng e → (∀ x, VR e (ρ x) (a.eval x)) → ops[i]? = some ⟨dst, .call ⟨.value f, args, ts⟩, ty, pos, after, guard⟩ → Region.wanted ⟨dst, .call ⟨.value f, args, ts⟩, ty, pos, after, guard⟩ (yielded ops a.tmps) = true →
                  ∃ e' w' fr' E, Steps P (lone (b.atR a (.inRegion ops (i :: rest) :: k)) cs w) (lone fr' (b.atR a (.inRegion ops (i :: rest) :: k) :: cs) w') ∧ fr'.leaving P w' E ∧ ER e' out E ∧ Rel ng base e' σ' w' ∧ Ext ng e σ w e' σ' w' := by
                intro base e b a cs w ops i rest k hb hnb hr hg hρ ho hw
                have hfv := hρ f
                rw [hf] at hfv
                simp only [VR] at hfv
                obtain ⟨_, fa, ca, hfe, hfa, hca⟩ := hfv
                have hrun : (execOp a.eval ⟨dst, .call ⟨.value f, args, ts⟩, ty, pos, after, guard⟩).run P w = .ok (.enter g (fa ++ args.map a.eval ++ ca)) w := by
                  simp only [execOp, Sem.run_bind, resolve_value a.eval f args ts ty hfe, Result.andThen_ok, invoke, run_callFunc hfn]
                have hall : VRs e (first ++ (args.toList.map ρ ++ captured)) (fa ++ args.map a.eval ++ ca).toList := by
                  have : (fa ++ args.map a.eval ++ ca).toList = fa.toList ++ ((args.toList.map a.eval) ++ ca.toList) := by simp
                  rw [this]
                  exact hfa.app ((VRs.map hρ _).app hca)
                obtain ⟨e', w', fr', E, g1, _, g3, g4, g5, g6⟩ := h4 base e w _ hb hnb hr hg hall (b.atR a (.inRegion ops (i :: rest) :: k) :: cs)
                exact ⟨e', w', fr', E, .head (stepR_enter ho hw hd hrun) g1, g3, g4, g5, g6⟩
              cases out with
              | ret v =>
                left
                refine ⟨v, ds, u, σ', h1, h2, h3, ?_⟩
                intro base e b a cs w ops i rest k hb hnb hr hg hbr hρ hds hk ho hw
                obtain ⟨e', w', fr', E, g1, g2, g3, g4, g5⟩ := run base e b a cs w ops i rest k hb hnb hr hg hρ ho hw
                cases E with
                | returned z =>
                  have hst := step_leave_returned (c := b.atR a (.inRegion ops (i :: rest) :: k)) (cs := cs) g2
                  have hfin : (b.atR a (.inRegion ops (i :: rest) :: k)).finish z = b.atR (a.put dst z) (.inRegion ops rest :: k) := by
                    rw [Frame.finish_atR, ho]; rfl
                  rw [hfin] at hst
                  exact ⟨e', a.defers, cs, w', z, Steps.trans g1 (.one hst), g3, hds.mono g5.le, g4, g5, .refl (hk.mono g5.le)⟩
                | panicked C' => exact g3.elim
                | outgrown => exact g3.elim
              | pan ch =>
                right
                refine ⟨ch, u, σ', h1, h2, h3, ?_⟩
                intro base e b a cs w ops i rest k hb hnb hr hg hbr hρ hk ho hw
                obtain ⟨e', w', fr', E, g1, g2, g3, g4, g5⟩ := run base e b a cs w ops i rest k hb hnb hr hg hρ ho hw
                cases E with
                | returned z => exact g3.elim
                | panicked C' =>
                  have hst := step_leave_panicked (c := b.atR a (.inRegion ops (i :: rest) :: k)) (cs := cs) g2
                  rw [Frame.raise_atR] at hst
                  exact ⟨e', cs, w', C', Steps.trans g1 (.one hst), g3, g4, g5, .refl (hk.mono g5.le)⟩
                | outgrown => exact g3.elim
            · cases h
      · rename_i l hf
        obtain ⟨out, u1, σ', h1, h2, h3, h4⟩ := hC _ _ _ _ hwf h
        have run : ∀ base e (b : Frame) (a : Act) cs w (ops : Array Oper) i rest (k : List Item), base ≤ w.heap.size → ng ≤ base → Rel ng base e σ w → GE ng e → (∀ x, VR e (ρ x) (a.eval x)) → ops[i]? = some ⟨dst, .call ⟨.value f, args, ts⟩, ty, pos, after, guard⟩ → Region.wanted ⟨dst, .call ⟨.value f, args, ts⟩, ty, pos, after, guard⟩ (yielded ops a.tmps) = true →
            ∃ e' w', (match out with
              | .ret v => ∃ z, Steps P (lone (b.atR a (.inRegion ops (i :: rest) :: k)) cs w) (lone ((b.atR a (.inRegion ops (i :: rest) :: k)).finish z) cs w') ∧ VR e' v z
              | .pan ch => ∃ C, Steps P (lone (b.atR a (.inRegion ops (i :: rest) :: k)) cs w) (lone ((b.atR a (.inRegion ops (i :: rest) :: k)).raise C) cs w') ∧ CHR e' ch C) ∧ Rel ng base e' σ' w' ∧ Ext ng e σ w e' σ' w' := by
          intro base e b a cs w ops i rest k hb hnb hr hg hρ ho hw
          have hfv := hρ f
          rw [hf] at hfv
          simp only [VR] at hfv
          obtain ⟨hm, hfe⟩ := hfv
          have hargs : VRs e (args.toList.map ρ) (#[] ++ args.map a.eval).toList := by
            rw [Array.empty_append, Array.toList_map]; exact VRs.map hρ _
          obtain ⟨g, tmps, assign, body, y1, y2⟩ := h4 base e w _ hb hnb hr hg hm hargs
          have hrun : (execOp a.eval ⟨dst, .call ⟨.value f, args, ts⟩, ty, pos, after, guard⟩).run P w = .ok (.round (e.blk l) g tmps assign body) w := by
            simp only [execOp, Sem.run_bind, resolve_value a.eval f args ts ty hfe, Result.andThen_ok, invoke]
            exact y1
          obtain ⟨e', w', y3, y4, y5⟩ := y2 (b.atR a (.inRegion ops (i :: rest) :: k)) cs
          have hst := stepR_round (b := b) (k := k) (cs := cs) (rest := rest) ho hw hd hrun
          refine ⟨e', w', ?_, y4, y5⟩
          cases out with
          | ret v => obtain ⟨z, y6, y7⟩ := y3; exact ⟨z, .head hst y6, y7⟩
          | pan ch => obtain ⟨C', y6, y7⟩ := y3; exact ⟨C', .head hst y6, y7⟩
        cases out with
        | ret v =>
          left
          refine ⟨v, ds, u, σ', h1, h2, h3, ?_⟩
          intro base e b a cs w ops i rest k hb hnb hr hg hbr hρ hds hk ho hw
          obtain ⟨e', w', ⟨z, g1, g3⟩, g4, g5⟩ := run base e b a cs w ops i rest k hb hnb hr hg hρ ho hw
          have hfin : (b.atR a (.inRegion ops (i :: rest) :: k)).finish z = b.atR (a.put dst z) (.inRegion ops rest :: k) := by
            rw [Frame.finish_atR, ho]; rfl
          rw [hfin] at g1
          exact ⟨e', a.defers, cs, w', z, g1, g3, hds.mono g5.le, g4, g5, .refl (hk.mono g5.le)⟩
        | pan ch =>
          right
          refine ⟨ch, u, σ', h1, h2, h3, ?_⟩
          intro base e b a cs w ops i rest k hb hnb hr hg hbr hρ hk ho hw
          obtain ⟨e', w', ⟨C', g1, g3⟩, g4, g5⟩ := run base e b a cs w ops i rest k hb hnb hr hg hρ ho hw
          rw [Frame.raise_atR] at g1
          exact ⟨e', cs, w', C', g1, g3, g4, g5, .refl (hk.mono g5.le)⟩
      · cases h
    · -- recover
      rename_i hcal
      left
      obtain ⟨callee, args, ts⟩ := c
      simp only at hcal
      subst hcal
      have hrun : ∀ (a : Act) w, (execOp a.eval ⟨dst, .call ⟨.builtin .recover, args, ts⟩, ty, pos, after, guard⟩).run P w = .ok .recover w := by
        intro a w
        simp only [execOp, resolve, Sem.run_bind, Sem.run_pure, Result.andThen_ok, invoke, builtin]
      split at h
      · rename_i hrd
        have hro : ∀ {e : Env} {b : Frame}, BR e fr b → b.roundOf = none := by
          intro e b hbr
          have := hbr.2.2
          rw [hrd] at this
          exact this
        rw [cond_eq_ite] at h
        split at h
        · rename_i hdf
          split at h
          · rename_i v older
            refine ⟨_, _, _, σ, h, hwf, .refl σ, ?_⟩
            intro base e b a cs w ops i rest k hb hnb hr hg hbr hρ hds hk ho hw
            obtain ⟨c, r, hcs, hu⟩ := hk hdf
            obtain ⟨CH, hm, hch⟩ := hu
            cases CH with
            | nil => exact hch.elim
            | cons x CH =>
              obtain ⟨⟨q1, q2, q3⟩, q4⟩ := hch
              have hrec : recoverD cs = some (x.v, { c with mode := .panicking ({ v := x.v, recovered := true } :: CH) } :: r) := by
                obtain ⟨xv, xr, xg⟩ := x
                simp only at q2 q3
                subst q2
                subst q3
                simp only [hcs, recoverD, hm]
              have hst := stepR_recover_some (k := k) (rest := rest) ho hw hd (hro hbr) (hrun a w) (by rw [hbr.2.1, if_pos hdf]) hrec
              have hks : KS e fr (.pan ((v, true) :: older)) cs ({ c with mode := .panicking ({ v := x.v, recovered := true } :: CH) } :: r) :=
                ⟨fun hf => absurd (hdf.symm.trans hf) (by simp), fun _ => ⟨c, r, .panicking ({ v := x.v, recovered := true } :: CH), hcs, rfl, ⟨_, rfl, ⟨⟨q1, rfl, rfl⟩, q4⟩⟩⟩⟩
              exact ⟨e, a.defers, _, w, x.v, .one hst, q1, hds, hr, .refl .., hks⟩
          · rename_i v older
            refine ⟨_, _, _, σ, h, hwf, .refl σ, ?_⟩
            intro base e b a cs w ops i rest k hb hnb hr hg hbr hρ hds hk ho hw
            obtain ⟨c, r, hcs, hu⟩ := hk hdf
            obtain ⟨CH, hm, hch⟩ := hu
            cases CH with
            | nil => exact hch.elim
            | cons x CH =>
              obtain ⟨⟨q1, q2, q3⟩, q4⟩ := hch
              have hrec : recoverD cs = none := by
                obtain ⟨xv, xr, xg⟩ := x
                simp only at q2 q3
                subst q2
                subst q3
                simp only [hcs, recoverD, hm]
              have hst := stepR_recover_none (k := k) (rest := rest) ho hw hd (hro hbr) (hrun a w) (.inr ⟨by rw [hbr.2.1, if_pos hdf], hrec⟩)
              exact ⟨e, a.defers, cs, w, .nilIface, .one hst, by simp only [VR], hds, hr, .refl .., .refl hk⟩
          · refine ⟨_, _, _, σ, h, hwf, .refl σ, ?_⟩
            intro base e b a cs w ops i rest k hb hnb hr hg hbr hρ hds hk ho hw
            obtain ⟨c, r, hcs, hu⟩ := hk hdf
            have hu' : c.mode = .returning := hu
            have hrec : recoverD cs = none := by simp only [hcs, recoverD, hu']
            have hst := stepR_recover_none (k := k) (rest := rest) ho hw hd (hro hbr) (hrun a w) (.inr ⟨by rw [hbr.2.1, if_pos hdf], hrec⟩)
            exact ⟨e, a.defers, cs, w, .nilIface, .one hst, by simp only [VR], hds, hr, .refl .., .refl hk⟩
          · cases h
        · rename_i hdf
          have hdf' : fr.dfd = false := by simpa using hdf
          refine ⟨_, _, _, σ, h, hwf, .refl σ, ?_⟩
          intro base e b a cs w ops i rest k hb hnb hr hg hbr hρ hds hk ho hw
          have hst := stepR_recover_none (k := k) (rest := rest) (cs := cs) ho hw hd (hro hbr) (hrun a w) (.inl (by rw [hbr.2.1, if_neg hdf]))
          exact ⟨e, a.defers, cs, w, .nilIface, .one hst, by simp only [VR], hds, hr, .refl .., .refl hk⟩
      · cases h
    · exact .inl (mem hd h)
    · exact .inl (mem hd h)
    · exact .inl (mem hd h)
    · split at h
      · rename_i v hv
        rw [forceV_eq] at h
        left
        refine ⟨v, ds, u, σ, h, hwf, .refl σ, ?_⟩
        have hdo : OpDoes P ng ρ ⟨dst, .call c, ty, pos, after, guard⟩ σ v σ := by
          refine ⟨hwf, .refl σ, fun base e w R hb hr hρ => ?_⟩
          obtain ⟨z, g1, g2⟩ := pureA_sound (P := P) (o := ⟨dst, .call c, ty, pos, after, guard⟩) hv hρ
          exact ⟨e, w, _, z, g2 w, .inl rfl, g1, hr, .refl ..⟩
        exact hdo.ok hd
      · exact .inl (mem hd h)
    · -- a method
      rename_i rv name hcal
      rw [headV_eq, mapVK_eq] at h
      obtain ⟨callee, args, ts⟩ := c
      simp only at hcal h
      subst hcal
      unfold invokeK at h
      split at h
      · rename_i t x hf
        split at h
        · rename_i g hmt
          split at h
          · rename_i fn hfn
            obtain ⟨out, u1, σ', h1, h2, h3, h4⟩ := hC _ _ _ _ hwf h
            have run : ∀ base e (b : Frame) (a : Act) cs w (ops : Array Oper) i rest (k : List Item), base ≤ w.heap.size → ng ≤ base → Rel ng base e σ w → GE ng e → (∀ x, VR e (ρ x) (a.eval x)) → ops[i]? = some ⟨dst, .call ⟨.invoke rv name, args, ts⟩, ty, pos, after, guard⟩ → Region.wanted ⟨dst, .call ⟨.invoke rv name, args, ts⟩, ty, pos, after, guard⟩ (yielded ops a.tmps) = true →
                ∃ e' w' fr' E, Steps P (lone (b.atR a (.inRegion ops (i :: rest) :: k)) cs w) (lone fr' (b.atR a (.inRegion ops (i :: rest) :: k) :: cs) w') ∧ fr'.leaving P w' E ∧ ER e' out E ∧ Rel ng base e' σ' w' ∧ Ext ng e σ w e' σ' w' := by
              intro base e b a cs w ops i rest k hb hnb hr hg hρ ho hw
              have hfv := hρ rv
              rw [hf] at hfv
              simp only [VR] at hfv
              obtain ⟨X, hX, hxv⟩ := hfv
              have hrun : (execOp a.eval ⟨dst, .call ⟨.invoke rv name, args, ts⟩, ty, pos, after, guard⟩).run P w = .ok (.enter g (#[X] ++ args.map a.eval)) w := by
                have h0 : (#[a.eval rv] ++ args.map a.eval)[0]? = some (a.eval rv) := by
                  rw [Array.getElem?_append_left (Nat.zero_lt_one)]
                  rfl
                have h1 : (#[a.eval rv] ++ args.map a.eval).extract 1 (#[a.eval rv] ++ args.map a.eval).size = args.map a.eval := by
                  apply Array.ext'
                  rw [Array.toList_extract, Array.toList_append]
                  simp [List.extract]
                  exact List.take_of_length_le (by simp)
                have hme := tab.mthOk t name g hmt X w
                simp only [execOp, resolve, Sem.run_bind, Sem.run_pure, Result.andThen_ok, invoke, h0, h1]
                simp only [hX, callMethod, Sem.run_bind, Result.andThen_ok, run_program, hme, run_callFunc hfn]
              have hall : VRs e (x :: args.toList.map ρ) (#[X] ++ args.map a.eval).toList := by
                have : (#[X] ++ args.map a.eval).toList = X :: args.toList.map a.eval := by simp
                rw [this]
                exact VRs.cons hxv (VRs.map hρ _)
              obtain ⟨e', w', fr', E, g1, _, g3, g4, g5, g6⟩ := h4 base e w _ hb hnb hr hg hall (b.atR a (.inRegion ops (i :: rest) :: k) :: cs)
              exact ⟨e', w', fr', E, .head (stepR_enter ho hw hd hrun) g1, g3, g4, g5, g6⟩
            cases out with
            | ret v =>
              left
              refine ⟨v, ds, u, σ', h1, h2, h3, ?_⟩
              intro base e b a cs w ops i rest k hb hnb hr hg hbr hρ hds hk ho hw
              obtain ⟨e', w', fr', E, g1, g2, g3, g4, g5⟩ := run base e b a cs w ops i rest k hb hnb hr hg hρ ho hw
              cases E with
              | returned z =>
                have hst := step_leave_returned (c := b.atR a (.inRegion ops (i :: rest) :: k)) (cs := cs) g2
                have hfin : (b.atR a (.inRegion ops (i :: rest) :: k)).finish z = b.atR (a.put dst z) (.inRegion ops rest :: k) := by
                  rw [Frame.finish_atR, ho]; rfl
                rw [hfin] at hst
                exact ⟨e', a.defers, cs, w', z, Steps.trans g1 (.one hst), g3, hds.mono g5.le, g4, g5, .refl (hk.mono g5.le)⟩
              | panicked C' => exact g3.elim
              | outgrown => exact g3.elim
            | pan ch =>
              right
              refine ⟨ch, u, σ', h1, h2, h3, ?_⟩
              intro base e b a cs w ops i rest k hb hnb hr hg hbr hρ hk ho hw
              obtain ⟨e', w', fr', E, g1, g2, g3, g4, g5⟩ := run base e b a cs w ops i rest k hb hnb hr hg hρ ho hw
              cases E with
              | returned z => exact g3.elim
              | panicked C' =>
                have hst := step_leave_panicked (c := b.atR a (.inRegion ops (i :: rest) :: k)) (cs := cs) g2
                rw [Frame.raise_atR] at hst
                exact ⟨e', cs, w', C', Steps.trans g1 (.one hst), g3, g4, g5, .refl (hk.mono g5.le)⟩
              | outgrown => exact g3.elim
          · cases h
        · cases h
      · cases h
    · exact .inl (pur hd h)
  · -- defer
    rename_i c
    left
    obtain ⟨callee, args, ts⟩ := c
    simp only at h
    split at h
    · rename_i f hrd
      split at h
      · rename_i g first captured hf
        rw [mapVK_eq, lappK_eq] at h
        refine ⟨_, _, u, σ, h, hwf, .refl σ, ?_⟩
        intro base e b a cs w ops i rest k hb hnb hr hg hbr hρ hds hk ho hw
        have hro : b.roundOf = none := by
          have := hbr.2.2
          rw [hrd] at this
          exact this
        have hfv := hρ f
        rw [hf] at hfv
        simp only [VR] at hfv
        obtain ⟨_, fa, ca, hfe, hfa, hca⟩ := hfv
        have hst := stepR_defer (P := P) (k := k) (cs := cs) (rest := rest) ho hw rfl hro (resolve_value a.eval f args ts ty hfe w)
        refine ⟨e, { target := .fn (.func g) ca, args := fa ++ args.map a.eval } :: a.defers, cs, w, undef, .one hst, ?_, ⟨?_, hds⟩, hr, .refl .., .refl hk⟩
        · simp only [VR]; exact ⟨_, rfl, VRs.nil⟩
        · refine ⟨by simp, ca, fa ++ args.map a.eval, rfl, hca, ?_⟩
          rw [Array.toList_append, Array.toList_map]
          exact hfa.app (VRs.map hρ _)
      · cases h
    · cases h
  · -- panic
    rename_i x
    right
    split at h
    · rename_i t v hx
      refine ⟨_, u, σ, h, hwf, .refl σ, ?_⟩
      intro base e b a cs w ops i rest k hb hnb hr hg hbr hρ hk ho hw
      have hxv := hρ x
      rw [hx] at hxv
      have hxv0 := hxv
      simp only [VR] at hxv
      obtain ⟨y, hye, hyv⟩ := hxv
      have hrun : (execOp a.eval ⟨dst, .panic x, ty, pos, after, guard⟩).run P w = .halt (.panic (.iface t y)) w := by
        simp only [execOp, hye, Instr.panic, Sem.run_bind]
        rfl
      have hst := stepR_panic (b := b) (k := k) (cs := cs) (rest := rest) ho hw (by intro c; simp) hrun
      rw [hye] at hxv0
      exact ⟨e, cs, w, _, .one hst, ⟨⟨hxv0, rfl, rfl⟩, trivial⟩, hr, .refl .., .refl hk⟩
    · cases h
  all_goals first
    | exact .inl (mem (by intro c; simp) h)
    | (split at h <;> first | exact .inl (mem (by intro c; simp) h) | exact .inl (pur (by intro c; simp) h) | (rw [cond_eq_ite] at h; split at h <;> first | exact .inl (mem (by intro c; simp) h) | exact .inl (pur (by intro c; simp) h)))
    | skip
  · rename_i hdf _ _ _ _ _ _ _ _ _ _ _ _ _ _ _ _
    exact .inl (pur (by intro c; first | exact hdf c | skip) h)
end
end Go.Proofs.YtdolijagffcfgaaGreatDoor.Ev

