/-
  The row of MeanAlike: the call returns true whatever the heaps and the values, and leaves what lay there as it was.
-/
import Derived.Test.YtdolijagffcfgaaGreatDoorLA
import Derived.Test.YtdolijagffcfgaaGreatDoorChk
import Derived.Test.YtdolijagffcfgaaGreatDoorOpen
import Derived.Test.YtdolijagffcfgaaGreatDoorDoorA
import Derived.Test.YtdolijagffcfgaaGreatDoorDoorB
import Derived.ProofKit
import Derived.LaidMore
import Derived.OpenShut
import Derived.Stop.Joined
import Derived.MakeChecks
namespace Go.Proofs.YtdolijagffcfgaaGreatDoor.meanAlike
open Go Go.ChangeShapes Go.WideShapes Go.ChangeAt Go.RowKit
set_option linter.unusedVariables false

set_option maxRecDepth 100000 in
theorem lifted (os : Os) (started : os.Started) (H : Type) (enc : TypeId × Value → H) :
    ReturnsInHanded {} Tryz.checked os 3 .any (fun w args => (Rows.meanAlikeSpec.pre enc Tryz.prog Tryz.f3 [] false w args ∧ laidMetH Tryz.prog laidL w) ∧ sizedMet enc Tryz.prog Tryz.f3 (OpenSpec.ofChange Rows.meanAlikeSpec) false w args)
      (Rows.meanAlikeSpec.post enc Tryz.prog Tryz.f3 false true false false) := by
  refine returnsInHanded_of_calls (C := Tryz.checked) own started (by kernel_rfl)
    (ChangeSpec.witness_shaped (enc := enc) (C := Tryz.checked) (os := os) (X := fun w _ => laidMetH Tryz.prog laidL w) false (World.doorLaid Tryz.prog 400 os) #[.slice none 0 0, .slice none 0 0, .slice none 0 0, .slice none 0 0] 8 rfl
      (World.shaped_of_RefB (door_vars os) (door_rest os)) (door_ok os) (door_pre enc os) (door_sized enc os) (door_met os _)) ?_
  intro w tape i _ hsh _ hok hpre _
  obtain ⟨_, _, _, fn', hfn', _, _, _, _, hval0⟩ := hok
  obtain rfl : fn' = Tryz.f3 := Option.some.inj (hfn'.symm.trans Tryz.func3)
  obtain ⟨⟨⟨ds, gs, before, hw, hc⟩, hx⟩, _⟩ := hpre
  have hW := DataW.Whole.of_heap (w' := w.forCall tape i) (by rfl) hw
  have hl : laidMetH Tryz.prog laidL (w.forCall tape i) := hx.of_heap (by rfl)
  rw [MakeChecks.laidMetH_plain _ _ _ own_t10] at hl
  have hspaced : Spaced (w.forCall tape i) := Spaced.of hsh hl
  generalize w.forCall tape i = W at hW hspaced hval0
  obtain ⟨_, args, _⟩ := i
  suffices h : Calls Tryz.prog 3 args W fun e W' => ∃ v, e = .returned v ∧ Rows.meanAlikeSpec.post enc Tryz.prog Tryz.f3 false true false false W args v W' by
    refine h.mono fun e W' ⟨v, he, hp⟩ => ?_
    subst he
    exact ChangeSpec.post_blind hp
  have hval : ∀ (j : Nat) t v, Tryz.f3.params[j]? = some t → args[j]? = some v → Value.okWide Tryz.prog W .any _ t v := hval0
  have hW' := hW
  obtain ⟨p, q, hA0, hV, rfl, hfz, hnd⟩ := hW
  have hA : DataW.TrodAll enc Tryz.prog W 0 (fun _ => true) true Tryz.f3.params.toList args.toList ds p := hA0
  rw [Tryz.params3] at hA hval
  obtain ⟨v0, vs0, d0, ds0, p0, q0, hargs, rfl, rfl, h0, r0⟩ := trodAll_cons hA
  obtain ⟨v1, vs1, d1, ds1, p1, q1, rfl, rfl, rfl, h1, r1⟩ := trodAll_cons r0
  obtain ⟨v2, vs2, d2, ds2, p2, q2, rfl, rfl, rfl, h2, r2⟩ := trodAll_cons r1
  obtain ⟨v3, vs3, d3, ds3, p3, q3, rfl, rfl, rfl, h3, r3⟩ := trodAll_cons r2
  obtain ⟨rfl, rfl, rfl⟩ := trodAll_nil r3
  obtain rfl : args = #[v0, v1, v2, v3] := by cases args; simp_all
  obtain ⟨rfl, rfl⟩ := trodVars_none hV
  have hlt0 : ∀ p ∈ p0 ++ (p1 ++ (p2 ++ (p3 ++ []))), p.block < W.heap.size := fun p hp => hW'.lt p (by simpa using hp)
  obtain ⟨a0, o0⟩ := Trod.heap (hval 0 22 v0 rfl rfl) h0
  obtain ⟨a1, o1⟩ := Trod.vals (hval 1 23 v1 rfl rfl) h1
  obtain ⟨a2, o2⟩ := Trod.heap (hval 2 22 v2 rfl rfl) h2
  obtain ⟨a3, o3⟩ := Trod.vals (hval 3 23 v3 rfl rfl) h3
  refine (law3 v0 v1 v2 v3 a0 a2 a1 a3 W ⟨o0, o1⟩ ⟨o2, o3⟩ (alive_at hspaced)).mono fun e W' ⟨he, hk⟩ => ?_
  subst he
  refine ⟨_, rfl, _, _, _, [], p0 ++ (p1 ++ (p2 ++ (p3 ++ []))), [], hW', ?_, ?_, ?_, hk.frame _, fun h => by cases h⟩
  · exact trodAll_cons_mk (shut_bool Tryz.underlying4 _) trodAll_mk0
  · refine TrodAll.carry hk ?_ hlt0
    rw [Tryz.params3]
    exact DataW.TrodAll.respare kids full lts hA fun p hp => decide_eq_true (hlt0 p hp)
  · rfl
end Go.Proofs.YtdolijagffcfgaaGreatDoor.meanAlike
