/-
  The walk of the reference Alike, and of the law MeanAlike where its own test answers true.
-/
import Derived.Test.YtdolijagffcfgaaGreatDoorRA
import Derived.Test.YtdolijagffcfgaaGreatDoorRB
import Derived.Test.YtdolijagffcfgaaGreatDoorPlain
import Derived.Test.YtdolijagffcfgaaGreatDoorLaw4
import Derived.Test.YtdolijagffcfgaaGreatDoorVB
namespace Go.Proofs.YtdolijagffcfgaaGreatDoor
open Go Go.RowKit Go.Mn
set_option maxHeartbeats 4000000
set_option maxRecDepth 20000

theorem alike6_all {B bm bt bf : Nat} {hs gs : Value} {h g : Hp} (hcl : Cl h) (gcl : Cl g) (hkl : ∀ x ∈ h, x.2.2.length ≤ 5000) : ∀ f, Says6 B bm bt bf hs gs h g f := by
  intro f
  induction f with
  | zero =>
    intro o p v w W s _ _ _ hf
    have := nodup_le _ _ s.on s.ol
    omega
  | succ f ih =>
    intro o p v w W s hB hv hw hf
    obtain ⟨k, n⟩ := v
    obtain ⟨k', n'⟩ := w
    dsimp only at hv hw
    by_cases hk : k = k'
    · subst hk
      by_cases h4 : k = 4
      · subst h4
        obtain ⟨i, rfl⟩ := Int.eq_ofNat_of_zero_le (hv rfl).1
        obtain ⟨j, rfl⟩ := Int.eq_ofNat_of_zero_le (hw rfl).1
        have hi : i < h.length := by simpa using (hv rfl).2
        have hj : j < g.length := by simpa using (hw rfl).2
        by_cases hmet : i ∈ o ∨ j ∈ p
        · refine (alike6_met s i j hi hj hmet).mono ?_
          rintro e W' ⟨rfl, hb⟩
          refine ⟨Only.of hb, ?_⟩
          by_cases hd : i ∈ o ∧ j ∈ p ∧ o.idxOf i = p.idxOf j
          · rw [decide_eq_true hd]
            exact .inl ⟨(o, p), by unfold match1; simp [hd], rfl, s.below hb hB, Nat.le_refl _⟩
          · rw [decide_eq_false hd]
            refine .inr ⟨?_, rfl⟩
            unfold match1
            simp only [if_pos, Int.toNat_natCast]
            rw [if_pos hmet, if_neg hd]
        · have hio : i ∉ o := fun hx => hmet (.inl hx)
          have hjp : j ∉ p := fun hx => hmet (.inr hx)
          cases hl : headEq (at' h i) (at' g j) with
          | true => exact alike6_like ih s i j hi hj hB hio hjp (hcl i) (gcl j) (by omega) hkl hl
          | false => exact alike6_unlike s i j hi hj hB hio hjp hkl hl
      · refine (alike6_flat bm k n n' W h4).mono ?_
        rintro e W' ⟨rfl, hb⟩
        refine ⟨Only.of hb, ?_⟩
        by_cases hd : n = n'
        · rw [decide_eq_true hd]
          exact .inl ⟨(o, p), by unfold match1; simp [h4, hd], rfl, s.below hb hB, Nat.le_refl _⟩
        · rw [decide_eq_false hd]
          exact .inr ⟨by unfold match1; simp [h4, hd], rfl⟩
    · refine (alike6_kind bm k n k' n' W hk).mono ?_
      rintro e W' ⟨rfl, hb⟩
      exact ⟨Only.of hb, .inr ⟨by unfold match1; simp [hk], rfl⟩⟩

theorem asked6 {w : World} {B : Nat} {s t : Value} {h : Hp} {v : List Vl} {r : Bool} (hr : asked h v = r) (hB : B ≤ w.heap.size) (hs : HeapAt B w s h) (ht : ValsAt B w t v) (w1 : World) (hb : Below w.heap.size w w1) :
    Calls Tryz.prog 19 #[s, t] w1 fun e w' => e = .returned (.bool r) ∧ Below w.heap.size w w' := by
  refine (values6_any B s t h v w1 (Nat.le_trans hB hb.size) (hs.below (hb.mono hB)) (ht.below (hb.mono hB))).mono ?_
  rintro e w' ⟨rfl, h2⟩
  exact ⟨by rw [hr], hb.trans (h2.mono hb.size)⟩

theorem alike8_no1 (B : Nat) (s t s' t' : Value) (h g : Hp) (v u : List Vl) (w : World) (hB : B ≤ w.heap.size) (hs : HeapAt B w s h) (ht : ValsAt B w t v) (hs' : HeapAt B w s' g) (ht' : ValsAt B w t' u) (h1 : asked h v = false) :
    Calls Tryz.prog 8 #[s, t, s', t'] w fun e w' => e = .returned (.tuple #[.bool false, .int .i64 1]) ∧ Below w.heap.size w w' := by
  have c1 := asked6 h1 hB hs ht w (Below.refl _ _)
  obtain ⟨p1, n1, rfl, q1⟩ := hs
  obtain ⟨p2, n2, rfl, q2⟩ := ht
  obtain ⟨p3, n3, rfl, q3⟩ := hs'
  obtain ⟨p4, n4, rfl, q4⟩ := ht'
  clear q1 q2 q3 q4 h1
  go_enter Tryz.func8, Tryz.ntmps8
  go_wp2_with fail
  refine c1.mono ?_
  clear c1
  rintro e w1 ⟨rfl, hb1⟩
  go_wp2
  go_ret2
  exact ⟨rfl, hb1⟩

theorem alike8_no2 (B : Nat) (s t s' t' : Value) (h g : Hp) (v u : List Vl) (w : World) (hB : B ≤ w.heap.size) (hs : HeapAt B w s h) (ht : ValsAt B w t v) (hs' : HeapAt B w s' g) (ht' : ValsAt B w t' u) (h1 : asked h v = true) (h2 : asked g u = false) :
    Calls Tryz.prog 8 #[s, t, s', t'] w fun e w' => e = .returned (.tuple #[.bool false, .int .i64 1]) ∧ Below w.heap.size w w' := by
  have c1 := asked6 h1 hB hs ht w (Below.refl _ _)
  have c2 := asked6 h2 hB hs' ht'
  obtain ⟨p1, n1, rfl, q1⟩ := hs
  obtain ⟨p2, n2, rfl, q2⟩ := ht
  obtain ⟨p3, n3, rfl, q3⟩ := hs'
  obtain ⟨p4, n4, rfl, q4⟩ := ht'
  clear q1 q2 q3 q4 h1 h2
  go_enter Tryz.func8, Tryz.ntmps8
  go_wp2_with fail
  refine c1.mono ?_
  clear c1
  rintro e w1 ⟨rfl, hb1⟩
  go_wp2_with fail
  refine (c2 w1 hb1).mono ?_
  clear c2
  rintro e w2 ⟨rfl, hb2⟩
  go_wp2
  go_ret2
  exact ⟨rfl, hb2⟩

theorem alike8_len (B : Nat) (s t s' t' : Value) (h g : Hp) (v u : List Vl) (w : World) (hB : B ≤ w.heap.size) (hs : HeapAt B w s h) (ht : ValsAt B w t v) (hs' : HeapAt B w s' g) (ht' : ValsAt B w t' u) (h1 : asked h v = true) (h2 : asked g u = true) (hl : v.length ≠ u.length) :
    Calls Tryz.prog 8 #[s, t, s', t'] w fun e w' => e = .returned (.tuple #[.bool false, .int .i64 0]) ∧ Below w.heap.size w w' := by
  have c1 := asked6 h1 hB hs ht w (Below.refl _ _)
  have c2 := asked6 h2 hB hs' ht'
  obtain ⟨p1, n1, rfl, q1⟩ := hs
  obtain ⟨p2, n2, rfl, q2⟩ := ht
  obtain ⟨p3, n3, rfl, q3⟩ := hs'
  obtain ⟨p4, n4, rfl, q4⟩ := ht'
  have hq : ((v.length : Int) != (u.length : Int)) = true := by simp; omega
  clear q1 q2 q3 q4 h1 h2 hl
  go_enter Tryz.func8, Tryz.ntmps8
  go_wp2_with fail
  refine c1.mono ?_
  clear c1
  rintro e w1 ⟨rfl, hb1⟩
  go_wp2_with fail
  refine (c2 w1 hb1).mono ?_
  clear c2
  rintro e w2 ⟨rfl, hb2⟩
  go_wp2
  go_ret2
  exact ⟨rfl, hb2⟩

theorem alike8_yes (B : Nat) (s t s' t' : Value) (h g : Hp) (v u : List Vl) (w : World) (hB : B ≤ w.heap.size) (hs : HeapAt B w s h) (ht : ValsAt B w t v) (hs' : HeapAt B w s' g) (ht' : ValsAt B w t' u) (h1 : asked h v = true) (h2 : asked g u = true) (hl : v.length = u.length) :
    Calls Tryz.prog 8 #[s, t, s', t'] w fun e w' => e = .returned (.tuple #[.bool (along (match1 h g (h.length + 1)) ([], []) v u).isSome, .int .i64 0]) ∧ Below w.heap.size w w' := by
  have c1 := asked6 h1 hB hs ht w (Below.refl _ _)
  have c2 := asked6 h2 hB hs' ht'
  have Hs := Lib.hid hs
  have Hs' := Lib.hid hs'
  have hcls := (asked_iff.1 h1).1
  have gcls := (asked_iff.1 h2).1
  have hh := (closedH_iff.1 hcls).1
  have hg := (closedH_iff.1 gcls).1
  have hall := fun (bm bt bf : Nat) => alike6_all (B := w.heap.size) (bm := bm) (bt := bt) (bf := bf) (hs := s) (gs := s') (closed_cl hcls) (closed_cl gcls) (fun x hx => okO_len ((closedH_iff.1 hcls).2 x hx).1) (h.length + 1)
  have Hall := Lib.hid hall
  have Hr := Lib.hid (asked_refs h1)
  have Hr' := Lib.hid (asked_refs h2)
  obtain ⟨p1, n1, rfl, l1, m1, q1⟩ := hs
  obtain ⟨p2, n2, rfl, l2, m2, vc⟩ := ht
  obtain ⟨p3, n3, rfl, l3, m3, q3⟩ := hs'
  obtain ⟨p4, n4, rfl, l4, m4, vc'⟩ := ht'
  have Vc := Lib.hid vc
  have Vc' := Lib.hid vc'
  have hne : ((v.length : Int) != (u.length : Int)) = false := by rw [hl]; simp
  have Hl := Lib.hid hl
  clear q1 q3 h1 h2 hl vc vc' hcls gcls hall
  unfold maxLen at m1 m2 m3 m4
  go_enter Tryz.func8, Tryz.ntmps8
  go_wp2_with fail
  refine c1.mono ?_
  clear c1
  rintro e w1 ⟨rfl, hb1⟩
  go_wp2_with fail
  refine (c2 w1 hb1).mono ?_
  clear c2
  rintro e w2 ⟨rfl, hb2⟩
  go_wp2_with fail
  refine (none_any h.length hh w2).mono ?_
  rintro e w3 ⟨rfl, hrow3, hb3⟩
  go_wp2_with fail
  refine (none_any g.length hg w3).mono ?_
  rintro e w4 ⟨rfl, hrow4, hb4⟩
  have z2 := hb2.size
  have z3 := hrow3.lt
  have z4 := hrow4.lt
  have z5 := hb3.size
  have z6 := hb4.size
  have Hrow3 := Lib.hid hrow3
  have Hrow4 := Lib.hid hrow4
  have Hb3 := Lib.hid hb3
  have Hb4 := Lib.hid hb4
  have Hb2 := Lib.hid hb2
  clear hrow3 hrow4 hb2 hb3 hb4 hb1
  as_aux_lemma =>
    have hbox := World.alloc_heap_new w4 (.cells #[.slice p1 h.length n1, .slice p3 g.length n3, .slice (some ⟨w2.heap.size, 0, none⟩) h.length h.length, .slice (some ⟨w3.heap.size, 0, none⟩) g.length g.length] 60)
    have Hbox := Lib.hid hbox
    clear hbox
    go_wp2_with fail
    generalize hW5 : World.alloc w4 _ = W5
    have z7 : w4.heap.size + 1 ≤ W5.heap.size := by rw [← hW5]; simp
    have b5 : Below w4.heap.size w4 W5 := by rw [← hW5]; exact (Below.refl _ w4).alloc (Nat.le_refl _) _
    have hb5 : Below w.heap.size w W5 := Hb2.out.trans ((Hb3.out.mono z2).trans ((Hb4.out.mono (by omega)).trans (b5.mono (by omega))))
    have S5 : MSt W5 w.heap.size w4.heap.size w2.heap.size w3.heap.size (.slice p1 h.length n1) (.slice p3 g.length n3) h g [] [] := by
      refine ⟨(Hs.out.mono hB).below hb5, (Hs'.out.mono hB).below hb5, ⟨60, ?_⟩, ?_, ?_, rfl, List.nodup_nil, List.nodup_nil, by simp, by simp, by omega, by omega, by omega, by omega, by omega, by omega⟩
      · rw [← hW5]; exact Hbox.out
      · rw [toRow_nil]
        exact (Hrow3.out.kept (Hb4.out.block _ z3)).kept (b5.block _ (by omega))
      · rw [toRow_nil]
        exact Hrow4.out.kept (b5.block _ z4)
    have HS5 := Lib.hid S5
    have Hb5 := Lib.hid hb5
    clear S5 hb5 hW5
    go_loopw [11, 12] (fun s11 _ wr => ∃ (k : Nat) (o' p' : List Nat), k ≤ v.length ∧ s11 = .int .i64 k ∧ Only w2.heap.size w3.heap.size W5 wr ∧ MSt wr w.heap.size w4.heap.size w2.heap.size w3.heap.size (.slice p1 h.length n1) (.slice p3 g.length n3) h g o' p' ∧ along (match1 h g (h.length + 1)) ([], []) v u = along (match1 h g (h.length + 1)) (o', p') (v.drop k) (u.drop k)) (fun s11 _ _ => v.length - (intOf s11).toNat)
    case atStart => exact ⟨0, [], [], Nat.zero_le _, rfl, Only.of (Below.refl _ _), HS5.out, rfl⟩
    case round =>
      as_aux_lemma =>
        obtain ⟨k, o', p', hk, rfl, hO, hS, hal⟩ := hrel
        have hszO := hO.size
        have hOb : Below w.heap.size w wr := Hb5.out.trans (hO.below z2 (by omega) (by omega))
        by_cases hlt : k < v.length
        · have hlt' : k < u.length := by rw [← Hl.out]; exact hlt
          have hx : v[k]? = some v[k] := List.getElem?_eq_getElem hlt
          have hy : u[k]? = some u[k] := List.getElem?_eq_getElem hlt'
          obtain ⟨e1, q1, rfl, g1, c3, c4⟩ := Vc.out k _ hx
          obtain ⟨e2, q2, rfl, g2, c5, c6⟩ := Vc'.out k _ hy
          have d1 := (hOb.cell (p := ⟨e1, q1 + k * 2, none⟩) (by show e1 < _; omega)).trans c3
          have d2 := (hOb.cell (p := ⟨e1, q1 + k * 2 + 1, none⟩) (by show e1 < _; omega)).trans c4
          have d3 := (hOb.cell (p := ⟨e2, q2 + k * 2, none⟩) (by show e2 < _; omega)).trans c5
          have d6 := (hOb.cell (p := ⟨e2, q2 + k * 2 + 1, none⟩) (by show e2 < _; omega)).trans c6
          have hal2 : along (match1 h g (h.length + 1)) (o', p') (v.drop k) (u.drop k) = (match1 h g (h.length + 1) (o', p') v[k] u[k]).bind fun s => along (match1 h g (h.length + 1)) s (v.drop (k + 1)) (u.drop (k + 1)) := by
            rw [List.drop_eq_getElem_cons hlt, List.drop_eq_getElem_cons hlt']
            rfl
          rw [hal2] at hal
          have hcall := fun (w1 : World) (hw1 : Below wr.heap.size wr w1) => Hall.out w4.heap.size w2.heap.size w3.heap.size o' p' v[k] u[k] w1 (hS.below hw1 (by omega)) (by have := hw1.size; omega) (Hr.out _ (List.mem_of_getElem? hx)) (Hr'.out _ (List.mem_of_getElem? hy)) (by omega)
          have Hal := Lib.hid hal
          have HO := Lib.hid hO
          have HOb := Lib.hid hOb
          clear hal hal2 hx hy c3 c4 c5 c6 hS hO hOb
          generalize v[k] = xe at *
          generalize u[k] = ye at *
          cases hm : match1 h g (h.length + 1) (o', p') xe ye with
          | none =>
            as_aux_lemma =>
              have hcall' : ∀ wx, Below wr.heap.size wr wx → Calls Tryz.prog 21 #[.pointer (some ⟨w4.heap.size, 0, none⟩), .agg #[.int .u8 xe.1, .int .i64 xe.2], .agg #[.int .u8 ye.1, .int .i64 ye.2]] wx fun e wy => e = .returned (.bool false) ∧ Only w2.heap.size w3.heap.size wr wy := fun wx hwx => (hcall wx hwx).mono fun e wy hp => by
                rcases hp with ⟨r1, ⟨s', hs', _⟩ | ⟨_, r2⟩⟩
                · rw [hm] at hs'; cases hs'
                · exact ⟨r2, (Only.of hwx).trans r1⟩
              have hnone : (along (match1 h g (h.length + 1)) ([], []) v u).isSome = false := by rw [Hal.out, hm]; rfl
              have Hnone := Lib.hid hnone
              clear hcall hm hnone
              go_wp2
              go_still_tail 9, (by kernel_rfl)
              change wpList _ _ _ _ _ wr.drew
              go_wp2_with fail
              refine (hcall' _ ((Below.refl _ _).drew)).mono ?_
              clear hcall'
              rintro e wy ⟨rfl, hO2⟩
              go_wp2
              go_ret2
              exact ⟨by rw [Hnone.out]; rfl, HOb.out.trans (hO2.below z2 (by omega) (by omega))⟩
          | some s' =>
            as_aux_lemma =>
              have hcall' : ∀ wx, Below wr.heap.size wr wx → Calls Tryz.prog 21 #[.pointer (some ⟨w4.heap.size, 0, none⟩), .agg #[.int .u8 xe.1, .int .i64 xe.2], .agg #[.int .u8 ye.1, .int .i64 ye.2]] wx fun e wy => e = .returned (.bool true) ∧ Only w2.heap.size w3.heap.size wr wy ∧ MSt wy w.heap.size w4.heap.size w2.heap.size w3.heap.size (.slice p1 h.length n1) (.slice p3 g.length n3) h g s'.1 s'.2 := fun wx hwx => (hcall wx hwx).mono fun e wy hp => by
                rcases hp with ⟨r1, ⟨s2, hs', r2, r3, _⟩ | ⟨hn, _⟩⟩
                · rw [hm] at hs'; cases hs'; exact ⟨r2, (Only.of hwx).trans r1, r3⟩
                · rw [hm] at hn; cases hn
              have hsome : along (match1 h g (h.length + 1)) ([], []) v u = along (match1 h g (h.length + 1)) (s'.1, s'.2) (v.drop (k + 1)) (u.drop (k + 1)) := by
                have := Hal.out
                rw [hm] at this
                exact this
              have Hsome := Lib.hid hsome
              clear hcall hm hsome
              go_wp2
              go_still_tail 9, (by kernel_rfl)
              change wpList _ _ _ _ _ wr.drew
              go_wp2_with fail
              refine (hcall' _ ((Below.refl _ _).drew)).mono ?_
              clear hcall'
              rintro e wy ⟨rfl, hO2, hS2⟩
              have HS2 := Lib.hid hS2
              clear hS2
              go_wp2
              go_roundw
              case rel => exact ⟨k + 1, s'.1, s'.2, by omega, by go_num, HO.out.trans hO2, HS2.out, Hsome.out⟩
              case measure => simp [intOf]; omega
        · obtain rfl : k = v.length := by omega
          have hend : (along (match1 h g (h.length + 1)) ([], []) v u).isSome = true := by
            rw [hal, List.drop_eq_nil_of_le (Nat.le_refl _)]
            rfl
          have Hend := Lib.hid hend
          clear hend hal hS
          go_wp2
          go_ret2
          exact ⟨by rw [Hend.out]; rfl, hOb⟩
end Go.Proofs.YtdolijagffcfgaaGreatDoor

namespace Go.Proofs.YtdolijagffcfgaaGreatDoor
open Go Go.RowKit Go.Mn
set_option maxHeartbeats 4000000
set_option maxRecDepth 100000

def errI : Bool → Int
  | true => 0
  | false => 1
/-- what is reached, or nothing -/
def rH (h : Hp) (v : List Vl) : Hp := if asked h v = true then rHeap h v else []
def rV (h : Hp) (v : List Vl) : List Vl := if asked h v = true then rVals h v else []
/-- what Alike answers -/
def both (h : Hp) (v : List Vl) (g : Hp) (u : List Vl) : Bool := asked h v && asked g u
def ansA (h : Hp) (v : List Vl) (g : Hp) (u : List Vl) : Bool := both h v g u && alikeB h v g u

theorem Args.none (w : World) : Args w (.slice none 0 0) (.slice none 0 0) [] [] := ⟨HeapAt.nil _ _, ValsAt.nil _ _⟩

/-- what both of Reached answer -/
def PostR (h : Hp) (v : List Vl) (w : World) (e : Ending) (w' : World) : Prop :=
  ∃ p n c q m d, e = .returned (.tuple #[.slice p n c, .slice q m d, .int .i64 (errI (asked h v))]) ∧ Args w' (.slice p n c) (.slice q m d) (rH h v) (rV h v) ∧ Below w.heap.size w w'

theorem reached9 {w : World} {s t : Value} {h : Hp} {v : List Vl} (a : Args w s t h v) (hv : v.length ≤ 5000) : Calls Tryz.prog 9 #[s, t] w (PostR h v w) := by
  unfold PostR rH rV
  cases ha : asked h v with
  | true => exact reached4 a hv ha
  | false =>
    refine (reached4no a ha).mono ?_
    rintro e w' ⟨rfl, hb⟩
    exact ⟨none, 0, 0, none, 0, 0, rfl, Args.none _, hb⟩
theorem reached10 {w : World} {s t : Value} {h : Hp} {v : List Vl} (a : Args w s t h v) (hv : v.length ≤ 5000) : Calls Tryz.prog 10 #[s, t] w (PostR h v w) := by
  unfold PostR rH rV
  cases ha : asked h v with
  | true =>
    refine (reached6_yes _ s t h v w (Nat.le_refl _) a.h a.v hv ha).mono ?_
    rintro e w' ⟨x, y, rfl, hx, hy, hb⟩
    obtain ⟨p, c, rfl, hh⟩ := hx
    obtain ⟨q, d, rfl, hk⟩ := hy
    exact ⟨p, _, c, q, _, d, rfl, ⟨⟨p, c, rfl, hh⟩, ⟨q, d, rfl, hk⟩⟩, hb⟩
  | false =>
    refine (reached6_no _ s t h v w (Nat.le_refl _) a.h a.v ha).mono ?_
    rintro e w' ⟨rfl, hb⟩
    exact ⟨none, 0, 0, none, 0, 0, rfl, Args.none _, hb⟩

/-- what both of Alike answer -/
def PostA (h : Hp) (v : List Vl) (g : Hp) (u : List Vl) (w : World) (e : Ending) (w' : World) : Prop :=
  e = .returned (.tuple #[.bool (ansA h v g u), .int .i64 (errI (both h v g u))]) ∧ Below w.heap.size w w'

theorem alike7_no {w : World} {s t s' t' : Value} {h g : Hp} {v u : List Vl} (a : Args w s t h v) (b : Args w s' t' g u) (hv : v.length ≤ 5000) (hu : u.length ≤ 5000) {r1 r2 : Bool} (h1 : asked h v = r1) (h2 : asked g u = r2) (hr : (r1 && r2) = false) :
    Calls Tryz.prog 7 #[s, t, s', t'] w fun e w' => e = .returned (.tuple #[.bool false, .int .i64 1]) ∧ Below w.heap.size w w' := by
  have c1 : Calls Tryz.prog 9 #[s, t] w fun e w' => ∃ p n c q m d, e = .returned (.tuple #[.slice p n c, .slice q m d, .int .i64 (errI r1)]) ∧ Below w.heap.size w w' := by
    refine (reached9 a hv).mono ?_
    rintro e w' ⟨p, n, c, q, m, d, rfl, _, hb⟩
    exact ⟨p, n, c, q, m, d, by rw [h1], hb⟩
  have c2 : ∀ w1, Below w.heap.size w w1 → Calls Tryz.prog 9 #[s', t'] w1 fun e w' => ∃ p n c q m d, e = .returned (.tuple #[.slice p n c, .slice q m d, .int .i64 (errI r2)]) ∧ Below w.heap.size w w' := fun w1 hb1 => by
    refine (reached9 (b.next hb1) hu).mono ?_
    rintro e w' ⟨p, n, c, q, m, d, rfl, _, hb⟩
    exact ⟨p, n, c, q, m, d, by rw [h2], hb1.trans (hb.mono hb1.size)⟩
  obtain ⟨⟨p1, n1, rfl, _⟩, ⟨p2, n2, rfl, _⟩⟩ := a
  obtain ⟨⟨p3, n3, rfl, _⟩, ⟨p4, n4, rfl, _⟩⟩ := b
  clear h1 h2
  cases r1 <;> cases r2 <;> dsimp only [errI] at c1 c2 <;> try (cases hr)
  all_goals
    go_enter Tryz.func7, Tryz.ntmps7
    go_wp2_with fail
    refine c1.mono ?_
    clear c1
    rintro e w1 ⟨q1, m1, d1, q2, m2, d2, rfl, hb1⟩
    go_wp2_with fail
    refine (c2 w1 hb1).mono ?_
    clear c2
    rintro e w2 ⟨q3, m3, d3, q4, m4, d4, rfl, hb2⟩
    go_wp2
    go_ret2
    exact ⟨rfl, hb2⟩

theorem alike7 {w : World} {s t s' t' : Value} {h g : Hp} {v u : List Vl} (a : Args w s t h v) (b : Args w s' t' g u) (hv : v.length ≤ 5000) (hu : u.length ≤ 5000) : Calls Tryz.prog 7 #[s, t, s', t'] w (PostA h v g u w) := by
  unfold PostA
  cases hb : both h v g u with
  | true =>
    have h1 : asked h v = true := by unfold both at hb; rw [Bool.and_eq_true] at hb; exact hb.1
    have h2 : asked g u = true := by unfold both at hb; rw [Bool.and_eq_true] at hb; exact hb.2
    exact alike4 a b hv hu h1 h2 (by unfold ansA; rw [hb, Bool.true_and])
  | false =>
    have : ansA h v g u = false := by unfold ansA; rw [hb, Bool.false_and]
    rw [this]
    exact alike7_no a b hv hu rfl rfl hb

theorem alike8 {w : World} {s t s' t' : Value} {h g : Hp} {v u : List Vl} (a : Args w s t h v) (b : Args w s' t' g u) : Calls Tryz.prog 8 #[s, t, s', t'] w (PostA h v g u w) := by
  unfold PostA
  cases h1 : asked h v with
  | false =>
    have hb : both h v g u = false := by unfold both; rw [h1, Bool.false_and]
    have : ansA h v g u = false := by unfold ansA; rw [hb, Bool.false_and]
    rw [this, hb]
    exact alike8_no1 _ s t s' t' h g v u w (Nat.le_refl _) a.h a.v b.h b.v h1
  | true =>
    cases h2 : asked g u with
    | false =>
      have hb : both h v g u = false := by unfold both; rw [h2, Bool.and_false]
      have : ansA h v g u = false := by unfold ansA; rw [hb, Bool.false_and]
      rw [this, hb]
      exact alike8_no2 _ s t s' t' h g v u w (Nat.le_refl _) a.h a.v b.h b.v h1 h2
    | true =>
      have hb : both h v g u = true := by unfold both; rw [h1, h2]; rfl
      have hans : ansA h v g u = alikeB h v g u := by unfold ansA; rw [hb, Bool.true_and]
      rw [hans, hb]
      by_cases hl : v.length = u.length
      · have : alikeB h v g u = (along (match1 h g (h.length + 1)) ([], []) v u).isSome := by
          unfold alikeB
          have hiff := alike_iff h1 h2 hl
          cases hs : (along (match1 h g (h.length + 1)) ([], []) v u).isSome with
          | true => exact decide_eq_true (hiff.1 hs)
          | false => exact decide_eq_false fun hh => by rw [hiff.2 hh] at hs; cases hs
        rw [this]
        exact alike8_yes _ s t s' t' h g v u w (Nat.le_refl _) a.h a.v b.h b.v h1 h2 hl
      · have : alikeB h v g u = false := by
          unfold alikeB
          exact decide_eq_false fun hh => hl (rVals_len hh.2)
        rw [this]
        exact alike8_len _ s t s' t' h g v u w (Nat.le_refl _) a.h a.v b.h b.v h1 h2 hl

theorem law3 (s t s' t' : Value) (h g : Hp) (v u : List Vl) (w : World) (a : Args w s t h v) (b : Args w s' t' g u) (hal : AliveAt w) :
    Calls Tryz.prog 3 #[s, t, s', t'] w fun e w' => e = .returned (.bool true) ∧ Below w.heap.size w w' := by
  have a0 := a
  have b0 := b
  obtain ⟨⟨p1, n1, rfl, x1⟩, ⟨p2, n2, rfl, x2⟩⟩ := a
  obtain ⟨⟨p3, n3, rfl, x3⟩, ⟨p4, n4, rfl, x4⟩⟩ := b
  clear x1 x2 x3 x4
  cases hs1 : smallB h v with
  | false =>
    have c1 := small4 a0 hs1
    have c6 := hal w (Below.refl _ _)
    go_enter Tryz.func3, Tryz.ntmps3
    go_wp2_with fail
    refine c1.mono ?_
    rintro e w1 ⟨rfl, rfl⟩
    go_wp2_with fail
    refine c6.mono ?_
    rintro e w1 ⟨rfl, hb⟩
    go_wp2
    go_ret
    exact ⟨rfl, hb⟩
  | true =>
    have c1 := small4 a0 hs1
    obtain ⟨_, hv10⟩ := small_lens hs1
    cases hs2 : smallB g u with
    | false =>
      have c2 := small4 b0 hs2
      have c6 := hal w (Below.refl _ _)
      go_enter Tryz.func3, Tryz.ntmps3
      go_wp2_with fail
      refine c1.mono ?_
      rintro e w1 ⟨rfl, rfl⟩
      go_wp2_with fail
      refine c2.mono ?_
      rintro e w1 ⟨rfl, rfl⟩
      go_wp2_with fail
      refine c6.mono ?_
      rintro e w1 ⟨rfl, hb⟩
      go_wp2
      go_ret
      exact ⟨rfl, hb⟩
    | true =>
      have c2 := small4 b0 hs2
      obtain ⟨_, hu10⟩ := small_lens hs2
      have c7 := alike7 a0 b0 (by omega) (by omega)
      have c8 : ∀ w1, Below w.heap.size w w1 → Calls Tryz.prog 8 #[.slice p1 h.length n1, .slice p2 v.length n2, .slice p3 g.length n3, .slice p4 u.length n4] w1 (PostA h v g u w1) := fun w1 hb => alike8 (a0.next hb) (b0.next hb)
      have c9 : ∀ w1, Below w.heap.size w w1 → Calls Tryz.prog 9 #[.slice p1 h.length n1, .slice p2 v.length n2] w1 (PostR h v w1) := fun w1 hb => reached9 (a0.next hb) (by omega)
      have c10 : ∀ w1, Below w.heap.size w w1 → Calls Tryz.prog 10 #[.slice p1 h.length n1, .slice p2 v.length n2] w1 (PostR h v w1) := fun w1 hb => reached10 (a0.next hb) (by omega)
      unfold PostA at c7 c8
      unfold PostR at c9 c10
      generalize ansA h v g u = aa at *
      generalize errI (both h v g u) = ee at *
      generalize errI (asked h v) = ii at *
      generalize rH h v = RH at *
      generalize rV h v = RV at *
      clear a0 b0 hs1 hs2
      go_enter Tryz.func3, Tryz.ntmps3
      go_wp2_with fail
      refine c1.mono ?_
      clear c1
      rintro e w1 ⟨rfl, rfl⟩
      go_wp2_with fail
      refine c2.mono ?_
      clear c2
      rintro e w1 ⟨rfl, rfl⟩
      go_wp2_with fail
      refine c7.mono ?_
      clear c7
      rintro e w1 ⟨rfl, hb1⟩
      go_wp2_with fail
      refine (c8 w1 hb1).mono ?_
      clear c8
      rintro e w2 ⟨rfl, hb2⟩
      have hbb2 : Below w.heap.size w w2 := hb1.trans (hb2.mono hb1.size)
      clear hb1 hb2
      go_wp2_with fail
      refine (c9 w2 hbb2).mono ?_
      clear c9
      rintro e w3 ⟨q1, m1, d1, q2, m2, d2, rfl, a3, hb3⟩
      have hbb3 : Below w.heap.size w w3 := hbb2.trans (hb3.mono hbb2.size)
      clear hb3 hbb2
      go_wp2_with fail
      refine (c10 w3 hbb3).mono ?_
      clear c10
      rintro e w4 ⟨q3, m3, d3, q4, m4, d4, rfl, a4, hb4⟩
      have a34 := a3.next hb4
      have hbb4 : Below w.heap.size w w4 := hbb3.trans (hb4.mono hbb3.size)
      clear hb4 hbb3 a3
      go_wp2_with fail
      refine (hal w4 hbb4).mono ?_
      rintro e w5 ⟨rfl, hb5⟩
      have a5 := a34.next hb5
      have b5 := a4.next hb5
      have hbb5 : Below w.heap.size w w5 := hbb4.trans (hb5.mono hbb4.size)
      clear hb5 hbb4 a4 a34 hal
      have k11 : Calls Tryz.prog 11 #[.slice q1 m1 d1, .slice q3 m3 d3] w5 fun e w' => e = .returned (.bool true) ∧ Below w5.heap.size w5 w' := by
        refine (sameHeap_any w5.heap.size _ _ _ _ w5 (Nat.le_refl _) a5.h b5.h).mono ?_
        rintro e w' ⟨rfl, hb⟩
        exact ⟨by simp, hb⟩
      have k12 : ∀ w9, Below w5.heap.size w5 w9 → Calls Tryz.prog 12 #[.slice q2 m2 d2, .slice q4 m4 d4] w9 fun e w' => e = .returned (.bool true) ∧ Below w9.heap.size w9 w' := fun w9 hb => by
        refine (sameValues_any w9.heap.size _ _ _ _ w9 (Nat.le_refl _) (a5.next hb).v (b5.next hb).v).mono ?_
        rintro e w' ⟨rfl, n, rfl⟩
        exact ⟨by simp, below_drewN (Below.refl _ _) n⟩
      clear a5 b5
      go_wp2_with fail
      refine k11.mono ?_
      clear k11
      rintro e w9 ⟨rfl, hb9⟩
      go_wp2_with fail
      refine (k12 w9 hb9).mono ?_
      clear k12
      rintro e w10 ⟨rfl, hb10⟩
      go_wp2
      go_ret
      exact ⟨rfl, hbb5.trans ((hb9.trans (hb10.mono hb9.size)).mono hbb5.size)⟩
end Go.Proofs.YtdolijagffcfgaaGreatDoor
