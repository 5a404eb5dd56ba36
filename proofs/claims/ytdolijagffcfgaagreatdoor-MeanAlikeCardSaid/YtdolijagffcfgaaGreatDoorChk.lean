/-
  The law's own test of its readings, at the row's first memory: it answers true and leaves the old blocks as they were.
-/
import Derived.Test.YtdolijagffcfgaaGreatDoorE5
import Derived.Test.YtdolijagffcfgaaGreatDoorM10
import Derived.Test.YtdolijagffcfgaaGreatDoorRows
import Derived.Lib.LaidTab
import Derived.MakeChecks
import Derived.Test.YtdolijagffcfgaaGreatDoorLaw4
namespace Go.Proofs.YtdolijagffcfgaaGreatDoor
open Go Go.Proofs.YtdolijagffcfgaaGreatDoor.Ev Go.RowKit
set_option maxRecDepth 20000

def spaces : List Int := [0, 0, 0, 0, 0, 0, 0, 0, 0, 1, 1, 1, 1, 1, 0, 0, 0, 0, 0, 0, 0, 0, 0, 0, 0, 0, 0, 0, 0, 0, 0, 0, 1, 0, 0, 0, 0, 0, 0, 0, 0, 0, 0, 0, 0, 0, 0, 0, 0, 0, 0, 0, 0, 0, 0, 0, 0, 0, 0, 0, 0, 0, 0, 0, 0, 0, 0, 0, 0, 0, 0, 0, 0, 0, 0, 0, 0, 0, 0, 0, 0, 0, 0, 0, 0, 0, 0, 0, 0, 0, 0, 0, 0, 0, 0, 0, 0, 0, 0, 0, 0, 0, 0, 0, 0, 0, 0, 0, 0, 0, 0, 0, 0, 0, 0, 0, 0, 0, 0, 0, 0, 0, 0, 0, 0, 0, 0, 0, 0, 0, 0, 0, 0, 0, 0, 0, 0, 0, 0, 0, 0, 0, 0, 0, 0, 0, 0, 0, 0, 0, 0, 0, 0, 0, 0, 0, 0, 0, 0, 0, 0, 0, 0, 0, 0, 0, 0, 0, 0, 0, 0, 0, 0, 0, 0, 0, 0, 0, 0, 0, 0, 0, 0, 0, 0, 0, 0, 0, 0, 0, 0, 0, 0, 0, 0, 0, 0, 0, 0, 0, 0, 0, 0, 0, 0, 0, 0, 0, 0, 0, 0, 0, 0, 0, 0, 0, 0, 0, 0, 0, 0, 0, 0, 0, 0, 0, 0, 0, 0, 0, 0, 0, 0, 0, 0, 0, 0, 0, 0, 0, 0, 0, 0, 0, 0, 0, 0, 0, 0, 0, 0, 0, 0, 0, 0, 0]

theorem spaces_laid {H : Type} : (Rows.laid_strings_asciiSpace : DataW H) = Lib.tabData .u8 spaces := rfl
theorem spaces_ob : xsp = .cells 489 (spaces.map (V.int .u8)) false false := by kernel_rfl
theorem ints_refl (e : Env) (k : IntKind) : ∀ zs : List Int, VRs e (zs.map (V.int k)) (zs.map (Value.int k))
  | [] => VRs.nil
  | _ :: l => VRs.cons (by simp only [VR]) (ints_refl e k l)

theorem row0 : (((begin Tryz.prog (fun _ _ => 0) default).world.heap[1]?).bind Obj.row?).map (·.2) = some 489 := by kernel_rfl
theorem row8 : (((begin Tryz.prog (fun _ _ => 0) default).world.heap[8]?).bind Obj.row?).isSome = true := by kernel_rfl
theorem globals9 : Tryz.prog.globals.size = 9 := by kernel_rfl
theorem gSpace : Tryz.prog.globalNamed "strings.asciiSpace" = some 1 := by kernel_rfl
theorem tSpace : (Tryz.prog.globals[1]?).map (·.type) = some 489 := by kernel_rfl
theorem uSpace : Tryz.prog.underlying 489 = some (.array 256 5) := by kernel_rfl
theorem uByte : Tryz.prog.underlying 5 = some (.int .u8) := by kernel_rfl

/-- what the test asks of the memory -/
structure Spaced (w : World) : Prop where
  size : 9 ≤ w.heap.size
  tab : ∃ c, w.heap[1]? = some (.cells c 489 (0, 0)) ∧ c.toList = spaces.map (Value.int .u8)

theorem Spaced.of {w : World} {rest : List (String × DataW Unit)} (hsh : w.ShapedOpen Tryz.prog) (hl : laidMet Tryz.prog (("strings.asciiSpace", Rows.laid_strings_asciiSpace) :: rest) w) : Spaced w := by
  rw [spaces_laid] at hl
  have ht : Lib.TabIs Tryz.prog w "strings.asciiSpace" .u8 spaces := Lib.tabIs_of_head gSpace tSpace uSpace uByte (by kernel_rfl) (by kernel_rfl) hl
  obtain ⟨h1, _⟩ := hsh
  constructor
  · obtain ⟨⟨z, t⟩, hz⟩ := Option.isSome_iff_exists.1 row8
    obtain ⟨cs, hc, _⟩ := h1 8 z t (by rw [globals9]; decide) hz
    have := (Array.getElem?_eq_some_iff.1 hc).1
    omega
  · obtain ⟨⟨z, t⟩, hz, rfl⟩ := Option.map_eq_some_iff.1 row0
    obtain ⟨cs, hc, _⟩ := h1 1 z _ (by rw [globals9]; decide) hz
    refine ⟨cs, hc, ?_⟩
    unfold Lib.TabIs World.var? at ht
    rw [gSpace] at ht
    simp only [Option.bind_some, hc, Option.some.injEq] at ht
    rw [ht]

theorem Spaced.below {w w' : World} (h : Spaced w) (hb : Below w.heap.size w w') : Spaced w' := by
  have h9 := h.size
  obtain ⟨c, h1, h2⟩ := h.tab
  exact ⟨Nat.le_trans h9 hb.size, c, (hb.block 1 (by omega)).trans h1, h2⟩

theorem alive_ok {w : World} (h : Spaced w) : Calls Tryz.prog 6 #[] w fun E w' => E = .returned (.bool true) ∧ Below w.heap.size w w' := by
  refine (MemoOk.calls xm61_ok rfl rfl h.size ?_).mono ?_
  · intro b ob hm
    rw [show xm61.pre = [(1, xsp)] from rfl, List.mem_singleton] at hm
    obtain ⟨rfl, rfl⟩ := Prod.mk.inj hm
    obtain ⟨c, h1, h2⟩ := h.tab
    refine ⟨489, _, c, spaces_ob, h1, ?_⟩
    rw [h2]
    exact ints_refl _ _ _
  · rintro E w' ⟨⟨e', he⟩, h1, h2, h3, h4, h5⟩
    refine ⟨?_, ?_⟩
    · cases E with
      | returned z =>
        have hz : VR e' (.bool true) z := he
        simp only [VR] at hz
        rw [hz]
      | panicked _ => exact he.elim
      | outgrown => exact he.elim
    · exact ⟨h1, h3, h2, h4, h5⟩

theorem alive_at {w : World} (h : Spaced w) : AliveAt w := fun _ hb => alive_ok (h.below hb)
end Go.Proofs.YtdolijagffcfgaaGreatDoor
