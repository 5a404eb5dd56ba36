/-
  How the heap of objects and the lists of values lie in memory.
-/
import Derived.WalkKit
import Derived.RangeFuncWrites
import Derived.Test.YtdolijagffcfgaaGreatDoorPlain
namespace Go.Proofs.YtdolijagffcfgaaGreatDoor
open Go Go.RowKit Go.Mn

/-- a list of values in a slice; all of it below block B -/
def ValsAt (B : Nat) (w : World) (s : Value) (vs : List Vl) : Prop :=
  ∃ p cap, s = .slice p vs.length cap ∧ vs.length ≤ cap ∧ cap ≤ maxLen ∧ ∀ i v, vs[i]? = some v → ∃ b o, p = some ⟨b, o, none⟩ ∧ b < B ∧ w.cell? ⟨b, o + i * 2, none⟩ = some (.int .u8 v.1) ∧ w.cell? ⟨b, o + i * 2 + 1, none⟩ = some (.int .i64 v.2)

def HeapAt (B : Nat) (w : World) (s : Value) (os : Hp) : Prop :=
  ∃ p cap, s = .slice p os.length cap ∧ os.length ≤ cap ∧ cap ≤ maxLen ∧ ∀ i x, os[i]? = some x → ∃ b o sv, p = some ⟨b, o, none⟩ ∧ b < B ∧ w.cell? ⟨b, o + i * 3, none⟩ = some (.int .u8 x.1) ∧ w.cell? ⟨b, o + i * 3 + 1, none⟩ = some (.int .i64 x.2.1) ∧ w.cell? ⟨b, o + i * 3 + 2, none⟩ = some sv ∧ ValsAt B w sv x.2.2

theorem ValsAt.below {B : Nat} {w w' : World} {s : Value} {vs : List Vl} (h : ValsAt B w s vs) (hb : Below B w w') : ValsAt B w' s vs := by
  obtain ⟨p, cap, h1, h2, h3, h4⟩ := h
  refine ⟨p, cap, h1, h2, h3, fun i v hv => ?_⟩
  obtain ⟨b, o, g1, g2, g3, g4⟩ := h4 i v hv
  exact ⟨b, o, g1, g2, (hb.cell (p := ⟨b, o + i * 2, none⟩) g2).trans g3, (hb.cell (p := ⟨b, o + i * 2 + 1, none⟩) g2).trans g4⟩
theorem ValsAt.mono {B B' : Nat} {w : World} {s : Value} {vs : List Vl} (h : ValsAt B w s vs) (hB : B ≤ B') : ValsAt B' w s vs := by
  obtain ⟨p, cap, h1, h2, h3, h4⟩ := h
  refine ⟨p, cap, h1, h2, h3, fun i v hv => ?_⟩
  obtain ⟨b, o, g1, g2, g3, g4⟩ := h4 i v hv
  exact ⟨b, o, g1, by omega, g3, g4⟩
theorem HeapAt.below {B : Nat} {w w' : World} {s : Value} {os : Hp} (h : HeapAt B w s os) (hb : Below B w w') : HeapAt B w' s os := by
  obtain ⟨p, cap, h1, h2, h3, h4⟩ := h
  refine ⟨p, cap, h1, h2, h3, fun i x hx => ?_⟩
  obtain ⟨b, o, sv, g1, g2, g3, g4, g5, g6⟩ := h4 i x hx
  exact ⟨b, o, sv, g1, g2, (hb.cell (p := ⟨b, o + i * 3, none⟩) g2).trans g3, (hb.cell (p := ⟨b, o + i * 3 + 1, none⟩) g2).trans g4, (hb.cell (p := ⟨b, o + i * 3 + 2, none⟩) g2).trans g5, g6.below hb⟩
theorem HeapAt.mono {B B' : Nat} {w : World} {s : Value} {os : Hp} (h : HeapAt B w s os) (hB : B ≤ B') : HeapAt B' w s os := by
  obtain ⟨p, cap, h1, h2, h3, h4⟩ := h
  refine ⟨p, cap, h1, h2, h3, fun i x hx => ?_⟩
  obtain ⟨b, o, sv, g1, g2, g3, g4, g5, g6⟩ := h4 i x hx
  exact ⟨b, o, sv, g1, by omega, g3, g4, g5, g6.mono hB⟩
theorem cell_new1 (w : World) (v : Value) (t : TypeId) : (w.alloc (.cells #[v] t)).cell? ⟨w.heap.size, 0, none⟩ = some v := by
  have h := World.alloc_heap_new w (.cells #[v] t)
  unfold World.cell?
  rw [h]
  rfl
/-- the empty list -/
theorem ValsAt.nil (B : Nat) (w : World) : ValsAt B w (.slice none 0 0) [] := ⟨none, 0, rfl, Nat.le_refl _, by unfold maxLen; omega, fun i v hv => by simp at hv⟩
theorem HeapAt.nil (B : Nat) (w : World) : HeapAt B w (.slice none 0 0) [] := ⟨none, 0, rfl, Nat.le_refl _, by unfold maxLen; omega, fun i v hv => by simp at hv⟩
end Go.Proofs.YtdolijagffcfgaaGreatDoor
