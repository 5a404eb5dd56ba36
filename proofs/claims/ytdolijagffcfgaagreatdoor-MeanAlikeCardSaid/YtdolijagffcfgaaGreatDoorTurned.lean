/-
  The walk of the closure of Reached that turns references.
-/
import Derived.Maps.AppendAt
import Derived.Lib.Hide
import Derived.OwnWalk
import Derived.Laws.EntriesVeiled
import Derived.Test.YtdolijagffcfgaaGreatDoorOwn
import Derived.Test.YtdolijagffcfgaaGreatDoorIt
namespace Go.Proofs.YtdolijagffcfgaaGreatDoor
open Go Go.RowKit Go.Mn
set_option maxHeartbeats 2000000
set_option maxRecDepth 100000

theorem info49 : (Tryz.prog.info? 49).map (fun i => (i.zero, i.size, i.bytes)) = some (some (.agg #[.int .u8 0, .int .i64 0]), 2, 16) := by kernel_rfl
theorem zero3 (w : World) : (zeroValue 3).run Tryz.prog w = .ok (.int .i64 0) w := Tryz.zeroValue3 w

theorem cells_new (w : World) (c : List Value) (t : TypeId) : ∀ (j : Nat) (u : Value), c[j]? = some u → (w.alloc (.cells c.toArray t)).cell? ((⟨w.heap.size, 0, none⟩ : Addr).add j) = some u := by
  intro j u hu
  have h := World.alloc_heap_new w (.cells c.toArray t)
  have ha : ((⟨w.heap.size, 0, none⟩ : Addr).add j) = ⟨w.heap.size, j, none⟩ := by unfold Addr.add; split <;> simp_all
  rw [ha]
  unfold World.cell?
  simp only [h]
  simpa using hu

theorem turned_any (n₁ b7 ba : Nat) (s : Value) (vs : List Vl) (F : List Nat) (w : World) (hn : n₁ ≤ w.heap.size) (hvs : ValsAt n₁ w s vs) (hlen : vs.length ≤ 5000)
    (hb : w.heap[b7]? = some (.cells #[.map (some ba)] 62)) (hm : MapAt w ba (atD F)) (hmem : ∀ u ∈ vs, u.1 = 4 → 0 ≤ u.2 ∧ u.2.toNat ∈ F) :
    Calls Tryz.prog 24 #[s, .pointer (some ⟨b7, 0, none⟩)] w fun e w' => ∃ v', e = .returned v' ∧ w'.ownsRow w.heap.size 49 2 v' vs.length (flat (vs.map (tr F))) ∧ Below w.heap.size w w' := by
  obtain ⟨q, cc, rfl, l1, l2, l3⟩ := hvs
  unfold maxLen at l2
  obtain ⟨i0, hi, hz0, hz1, hz2⟩ := info_parts info49
  have lb := (Array.getElem?_eq_some_iff.1 hb).1
  go_enter Tryz.func24, Tryz.ntmps24
  go_wp2
  go_loopw [4, 6, 9] (fun out _ i wr => ∃ k : Nat, k ≤ vs.length ∧ i = .int .i64 k ∧ wr.ownsRow w.heap.size 49 2 out k (flat ((vs.take k).map (tr F))) ∧ Below w.heap.size w wr) (fun _ _ i _ => vs.length - (intOf i).toNat)
  case atStart => exact ⟨0, Nat.zero_le _, rfl, World.ownsRow_nil _ _ _ _, Below.refl _ _⟩
  case round =>
    obtain ⟨k, hk, rfl, hrow, hW⟩ := hrel
    by_cases hlt : k < vs.length
    · have hv : vs[k]? = some vs[k] := List.getElem?_eq_getElem hlt
      obtain ⟨b, o, rfl, g1, c1, c2⟩ := l3 k _ hv
      have hsz := hW.size
      have d1 := (hW.cell (p := ⟨b, o + k * 2, none⟩) (by show b < _; omega)).trans c1
      have d2 := (hW.cell (p := ⟨b, o + k * 2 + 1, none⟩) (by show b < _; omega)).trans c2
      have db := (hW.cell (p := ⟨b7, 0, none⟩) lb).trans (cell_of_heap hb)
      have hm' : MapAt wr ba (atD F) := hm.kept (hW.block _ hm.lt)
      have hlb : b7 < wr.heap.size := by omega
      have hx4 := hmem _ (List.mem_of_getElem? hv)
      have htk : flat ((vs.take (k + 1)).map (tr F)) = flat ((vs.take k).map (tr F)) ++ [.int .u8 (tr F vs[k]).1, .int .i64 (tr F vs[k]).2] := by
        rw [List.take_add_one, hv, List.map_append, ← flat_snoc]
        rfl
      generalize vs[k] = x at *
      have Htk := Lib.hid htk
      clear hmem l3 hv htk c1 c2 hm hb
      obtain ⟨kind, num⟩ := x
      dsimp only at *
      by_cases h4 : kind = 4
      · subst h4
        obtain ⟨m, rfl⟩ := Int.eq_ofNat_of_zero_le (hx4 rfl).1
        have hin : m ∈ F := by have := (hx4 rfl).2; rwa [Int.toNat_natCast] at this
        have hlk := map_lookup (t := 62) (e := 3) Tryz.underlying62 (hm'.kept (Below.heap_alloc wr (.cells #[.int .u8 4, .int .i64 (m : Int)] 49) ba hm'.lt)) (m : Int) (zero3 _) (v := .int .i64 (F.idxOf m : Int)) (by rw [look_at F m hin]; rfl)
        have htr : tr F (4, (m : Int)) = (4, (F.idxOf m : Int)) := by rw [tr_ref rfl]; simp
        rw [htr] at Htk
        clear hx4 htr hm' hin
        generalize F.idxOf m = idx at *
        have hnew := cells_new (wr.alloc (.cells #[.int .u8 4, .int .i64 (idx : Int)] 49)) [.int .u8 4, .int .i64 (idx : Int)] 49
        simp only [World.size_alloc] at hnew
        have Hnew := Lib.hid hnew
        clear hnew
        go_wp2_with (at_builtin; refine wpList_append_own _ rfl _ _ 23 rfl w.heap.size 49 i0 (.agg #[.int .u8 0, .int .i64 0]) 2 16 Tryz.underlying23 hi hz0 hz1 hz2 rfl (by decide) _ _ _ rfl ((hrow.alloc _).alloc _) ⟨wr.heap.size + 1, 0, none⟩ 1 1 [.int .u8 4, .int .i64 (idx : Int)] rfl rfl Hnew.out (by simp [Value.oneCell']) (by unfold maxLen; omega) (by omega) (by simp; omega) ?_; intro v' w1 hown' hgrow _)
        go_roundw
        case rel => exact ⟨k + 1, by omega, by go_num, by rw [Htk.out]; exact hown', hW.trans ((((Below.refl _ wr).alloc hsz _).alloc (by simp; omega) _).grown hgrow (by simp; omega) (row_ge hrow))⟩
        case measure => simp [intOf]; omega
      · have hb4 : (kind == 4) = false := by simpa using h4
        have htr : tr F (kind, num) = (kind, num) := tr_other h4
        rw [htr] at Htk
        clear hx4 htr hm' h4
        have hnew := cells_new (wr.alloc (.cells #[.int .u8 kind, .int .i64 num] 49)) [.int .u8 kind, .int .i64 num] 49
        simp only [World.size_alloc] at hnew
        have Hnew := Lib.hid hnew
        clear hnew
        go_wp2_with (at_builtin; refine wpList_append_own _ rfl _ _ 23 rfl w.heap.size 49 i0 (.agg #[.int .u8 0, .int .i64 0]) 2 16 Tryz.underlying23 hi hz0 hz1 hz2 rfl (by decide) _ _ _ rfl ((hrow.alloc _).alloc _) ⟨wr.heap.size + 1, 0, none⟩ 1 1 [.int .u8 kind, .int .i64 num] rfl rfl Hnew.out (by simp [Value.oneCell']) (by unfold maxLen; omega) (by omega) (by simp; omega) ?_; intro v' w1 hown' hgrow _)
        go_roundw
        case rel => exact ⟨k + 1, by omega, by go_num, by rw [Htk.out]; exact hown', hW.trans ((((Below.refl _ wr).alloc hsz _).alloc (by simp; omega) _).grown hgrow (by simp; omega) (row_ge hrow))⟩
        case measure => simp [intOf]; omega
    · obtain rfl : k = vs.length := by omega
      rw [List.take_length] at hrow
      clear l3 hmem hm hb
      go_wp2
      go_ret
      exact ⟨_, rfl, hrow, hW⟩
end Go.Proofs.YtdolijagffcfgaaGreatDoor
