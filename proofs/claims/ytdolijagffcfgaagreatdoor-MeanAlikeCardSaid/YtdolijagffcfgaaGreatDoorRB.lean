/-
  The walk of the reference alike where two objects meet that have no partners yet. No condition but how the arguments lie.
-/
import Derived.BigRegion
import Derived.Deep.RegionHeld3
import Derived.StillTailTactics
import Derived.Test.YtdolijagffcfgaaGreatDoorRA
namespace Go.Proofs.YtdolijagffcfgaaGreatDoor
open Go Go.RowKit Go.Mn
set_option maxHeartbeats 4000000
set_option maxRecDepth 20000

/-- only the two rows of partners have turned, of what lay there -/
structure Only (bt bf : Nat) (w w' : World) : Prop where
  os : w'.os = w.os
  tape : w'.tape = w.tape
  output : w'.output = w.output
  size : w.heap.size ≤ w'.heap.size
  block : ∀ k, k < w.heap.size → k ≠ bt → k ≠ bf → w'.heap[k]? = w.heap[k]?

theorem Only.of {bt bf : Nat} {w w' : World} (h : Below w.heap.size w w') : Only bt bf w w' := ⟨h.os, h.tape, h.output, h.size, fun k hk _ _ => h.block k hk⟩
theorem Only.trans {bt bf : Nat} {a b c : World} (h : Only bt bf a b) (k : Only bt bf b c) : Only bt bf a c :=
  ⟨k.os.trans h.os, k.tape.trans h.tape, k.output.trans h.output, Nat.le_trans h.size k.size, fun i hi h1 h2 => (k.block i (Nat.lt_of_lt_of_le hi h.size) h1 h2).trans (h.block i hi h1 h2)⟩
theorem Only.below {bt bf B : Nat} {w w' : World} (h : Only bt bf w w') (h1 : B ≤ bt) (h2 : B ≤ bf) (h3 : B ≤ w.heap.size) : Below B w w' :=
  ⟨h.os, h.tape, h.output, h.size, fun k hk => h.block k (by omega) (by omega) (by omega)⟩
theorem Only.cell {bt bf : Nat} {w w' : World} (h : Only bt bf w w') {q : Addr} (h0 : q.block < w.heap.size) (h1 : q.block ≠ bt) (h2 : q.block ≠ bf) : w'.cell? q = w.cell? q := World.cell?_of_block (w := w) (h.block q.block h0 h1 h2)
theorem Only.set {bt bf : Nat} {a w : World} (h : Only bt bf a w) {q : Addr} (hq : q.block = bt ∨ q.block = bf) (u : Value) : Only bt bf a (w.setCell q u) :=
  ⟨h.os, h.tape, h.output, by rw [World.size_setCell]; exact h.size, fun k hk h1 h2 => (Below.heap_setCell w q u k (by omega)).trans (h.block k hk h1 h2)⟩
theorem Only.drew {bt bf : Nat} {a w : World} (h : Only bt bf a w) : Only bt bf a w.drew := ⟨h.os, h.tape, h.output, h.size, h.block⟩

/-- what alike answers and leaves -/
def Post6 (B bm bt bf : Nat) (hs gs : Value) (h g : Hp) (f : Nat) (o p : List Nat) (v w : Vl) (W : World) (e : Ending) (W' : World) : Prop :=
  Only bt bf W W' ∧ ((∃ s', match1 h g f (o, p) v w = some s' ∧ e = .returned (.bool true) ∧ MSt W' B bm bt bf hs gs h g s'.1 s'.2 ∧ o.length ≤ s'.1.length) ∨ (match1 h g f (o, p) v w = none ∧ e = .returned (.bool false)))

def Says6 (B bm bt bf : Nat) (hs gs : Value) (h g : Hp) (f : Nat) : Prop := ∀ (o p : List Nat) (v w : Vl) (W : World), MSt W B bm bt bf hs gs h g o p → B ≤ W.heap.size → (v.1 = 4 → 0 ≤ v.2 ∧ v.2.toNat < h.length) → (w.1 = 4 → 0 ≤ w.2 ∧ w.2.toNat < g.length) → h.length + 1 ≤ o.length + f →
  Calls Tryz.prog 21 #[.pointer (some ⟨bm, 0, none⟩), .agg #[.int .u8 v.1, .int .i64 v.2], .agg #[.int .u8 w.1, .int .i64 w.2]] W (Post6 B bm bt bf hs gs h g f o p v w W)

theorem IntRow.other {w : World} {b c : Nat} {l : List Int} (h : IntRow w b l) (hne : b ≠ c) (i : Nat) (v : Value) : IntRow (w.setCell ⟨c, i, none⟩ v) b l := h.kept (Below.heap_setCell w ⟨c, i, none⟩ v b hne)

theorem MSt.both {B bm bt bf : Nat} {hs gs : Value} {h g : Hp} {o p : List Nat} {W : World} (s : MSt W B bm bt bf hs gs h g o p) (i j : Nat) (hi : i < h.length) (hj : j < g.length) (hio : i ∉ o) (hjp : j ∉ p) :
    MSt ((((W.setCell ⟨bt, i, none⟩ (.int .i64 (j : Int))).drew).setCell ⟨bf, j, none⟩ (.int .i64 (i : Int))).drew) B bm bt bf hs gs h g (o ++ [i]) (p ++ [j]) := by
  have b1 : Below B W ((((W.setCell ⟨bt, i, none⟩ (.int .i64 (j : Int))).drew).setCell ⟨bf, j, none⟩ (.int .i64 (i : Int))).drew) :=
    (((Below.refl B W).setCell (p := ⟨bt, i, none⟩) s.at' _).drew.setCell (p := ⟨bf, j, none⟩) s.af _).drew
  have t1 : IntRow (W.setCell ⟨bt, i, none⟩ (.int .i64 (j : Int))) bt (toRow h.length (o ++ [i]) (p ++ [j])) := by
    rw [← toRow_set s.len hio]
    exact s.to.set (by rw [toRow_len]; exact hi) _
  have f1 : IntRow (W.setCell ⟨bt, i, none⟩ (.int .i64 (j : Int))).drew bf (toRow g.length p o) := (s.fr.other s.n3.symm i _).kept rfl
  have f2 : IntRow ((W.setCell ⟨bt, i, none⟩ (.int .i64 (j : Int))).drew.setCell ⟨bf, j, none⟩ (.int .i64 (i : Int))) bf (toRow g.length (p ++ [j]) (o ++ [i])) := by
    rw [← toRow_set s.len.symm hjp]
    exact f1.set (by rw [toRow_len]; exact hj) _
  obtain ⟨t, ht⟩ := s.m
  refine ⟨s.hH.below b1, s.hG.below b1, ⟨t, ?_⟩, ?_, f2.kept rfl, by simp [s.len], ?_, ?_, ?_, ?_, s.am, s.at', s.af, s.n1, s.n2, s.n3⟩
  · exact (Below.heap_setCell _ ⟨bf, j, none⟩ _ bm s.n2).trans ((Below.heap_setCell W ⟨bt, i, none⟩ _ bm s.n1).trans ht)
  · exact ((t1.kept (w' := (W.setCell ⟨bt, i, none⟩ (.int .i64 (j : Int))).drew) rfl).other s.n3 j _).kept rfl
  · rw [List.nodup_append]
    exact ⟨s.on, by simp, fun a ha b hb => by simp at hb; subst hb; exact fun e => hio (e ▸ ha)⟩
  · rw [List.nodup_append]
    exact ⟨s.pn, by simp, fun a ha b hb => by simp at hb; subst hb; exact fun e => hjp (e ▸ ha)⟩
  · intro k hk
    rcases List.mem_append.1 hk with hk | hk
    · exact s.ol k hk
    · simp at hk; subst hk; exact hi
  · intro k hk
    rcases List.mem_append.1 hk with hk | hk
    · exact s.pl k hk
    · simp at hk; subst hk; exact hj

theorem alike6_like {B bm bt bf : Nat} {hs gs : Value} {h g : Hp} {f : Nat} (ih : Says6 B bm bt bf hs gs h g f) {o p : List Nat} {W : World} (s : MSt W B bm bt bf hs gs h g o p) (i j : Nat) (hi : i < h.length) (hj : j < g.length) (hB : B ≤ W.heap.size) (hio : i ∉ o) (hjp : j ∉ p)
    (hr : refs h.length (kids h i)) (hr' : refs g.length (kids g j)) (hf : h.length + 1 ≤ o.length + 1 + f) (hkl : ∀ x ∈ h, x.2.2.length ≤ 5000) (hlike : headEq (at' h i) (at' g j) = true) :
    Calls Tryz.prog 21 #[.pointer (some ⟨bm, 0, none⟩), .agg #[.int .u8 4, .int .i64 (i : Int)], .agg #[.int .u8 4, .int .i64 (j : Int)]] W (Post6 B bm bt bf hs gs h g (f + 1) o p (4, (i : Int)) (4, (j : Int)) W) := by
  obtain ⟨x, hx⟩ : ∃ x, (toRow h.length o p)[i]? = some x := ⟨_, toRow_get hi⟩
  obtain ⟨y, hy⟩ : ∃ y, (toRow g.length p o)[j]? = some y := ⟨_, toRow_get hj⟩
  have hx0 := toRow_neg hi hx
  have hy0 := toRow_neg hj hy
  have hxn : ¬ 0 ≤ x := fun h => hio (hx0.1 h)
  have hyn : ¬ 0 ≤ y := fun h => hjp (hy0.1 h)
  have gx : decide (0 ≤ x) = false := decide_eq_false hxn
  have gy : decide (0 ≤ y) = false := decide_eq_false hyn
  have cx := s.to.cell hx
  have cy := s.fr.cell hy
  have fx := s.to.free i
  have fy := s.fr.free j
  obtain ⟨t, hm⟩ := s.m
  have lm := (Array.getElem?_eq_some_iff.1 hm).1
  have lt := s.to.lt
  have lf := s.fr.lt
  have m2 : W.cell? ⟨bm, 2, none⟩ = some (.slice (some ⟨bt, 0, none⟩) h.length h.length) := by unfold World.cell?; simp [hm]
  have m3 : W.cell? ⟨bm, 3, none⟩ = some (.slice (some ⟨bf, 0, none⟩) g.length g.length) := by unfold World.cell?; simp [hm]
  have n1 := s.n1
  have n2 := s.n2
  have n3 := s.n3
  clear hx0 hy0 hm hx hy
  have S := Lib.hid s
  have Hlike := Lib.hid hlike
  clear hlike
  clear s
  go_enter Tryz.func21, Tryz.ntmps21
  go_wp2
  go_quiet (fail)
  go_wp2
  generalize hW2 : World.drewN _ _ = W2
  have hb2 : Below W.heap.size W W2 := by rw [← hW2]; exact below_drewN (((Below.refl _ W).alloc (Nat.le_refl _) _).alloc (by simp) _) _
  have a4 : W2.cell? ⟨W.heap.size, 1, none⟩ = some (.int .i64 (i : Int)) := by rw [← hW2]; simp
  have a5 : W2.cell? ⟨W.heap.size + 1, 1, none⟩ = some (.int .i64 (j : Int)) := by rw [← hW2]; simp
  have sz2 : W.heap.size + 2 ≤ W2.heap.size := by rw [← hW2]; simp
  have m2' := (hb2.cell (p := ⟨bm, 2, none⟩) lm).trans m2
  have m3' := (hb2.cell (p := ⟨bm, 3, none⟩) lm).trans m3
  have cx' := (hb2.cell (p := ⟨bt, i, none⟩) lt).trans cx
  have cy' := (hb2.cell (p := ⟨bf, j, none⟩) lf).trans cy
  have fx' := (hb2.frozen (p := ⟨bt, i, none⟩) lt).trans fx
  have fy' := (hb2.frozen (p := ⟨bf, j, none⟩) lf).trans fy
  have S2 := Lib.hid (S.out.below hb2 hB)
  have Hb2 := Lib.hid hb2
  clear hW2 m2 m3 cx cy fx fy hb2
  go_region
  go_wp2
  generalize hW3 : World.drew _ = W3
  have o3 : ∀ {q : Addr}, q.block ≠ bt → W3.cell? q = W2.cell? q := fun {q} hq => by rw [← hW3]; exact World.cell?_of_block (w := W2) (Below.heap_setCell W2 ⟨bt, i, none⟩ _ q.block hq)
  have z3 : W3.frozen? ⟨bf, j, none⟩ = false := by
    rw [← hW3]
    exact (World.frozen?_of_block (w := W2) (a := ⟨bf, j, none⟩) (Below.heap_setCell W2 ⟨bt, i, none⟩ _ bf n3.symm)).trans fy'
  have sz3 : W3.heap.size = W2.heap.size := by rw [← hW3]; simp
  have e4 := (o3 (q := ⟨W.heap.size, 1, none⟩) (by show W.heap.size ≠ bt; omega)).trans a4
  have e5 := (o3 (q := ⟨W.heap.size + 1, 1, none⟩) (by show W.heap.size + 1 ≠ bt; omega)).trans a5
  have em3 := (o3 (q := ⟨bm, 3, none⟩) n1).trans m3'
  have ey := (o3 (q := ⟨bf, j, none⟩) n3.symm).trans cy'
  have HW3 := Lib.hid hW3
  clear hW3 o3 m2' m3' cx' cy' fx' fy'
  go_region
  go_wp2
  generalize hW4 : World.drew _ = W4
  have o4 : ∀ {q : Addr}, q.block ≠ bf → W4.cell? q = W3.cell? q := fun {q} hq => by rw [← hW4]; exact World.cell?_of_block (w := W3) (Below.heap_setCell W3 ⟨bf, j, none⟩ _ q.block hq)
  have sz4 : W4.heap.size = W3.heap.size := by rw [← hW4]; simp
  have d4 := (o4 (q := ⟨W.heap.size, 1, none⟩) (by show W.heap.size ≠ bf; omega)).trans e4
  have d5 := (o4 (q := ⟨W.heap.size + 1, 1, none⟩) (by show W.heap.size + 1 ≠ bf; omega)).trans e5
  have S4 : MSt W4 B bm bt bf hs gs h g (o ++ [i]) (p ++ [j]) := by rw [← hW4, ← HW3.out]; exact S2.out.both i j hi hj hio hjp
  have hb4 : Only bt bf W W4 := by
    rw [← hW4, ← HW3.out]
    exact ((((Only.of Hb2.out).set (q := ⟨bt, i, none⟩) (.inl rfl) _).drew).set (q := ⟨bf, j, none⟩) (.inr rfl) _).drew
  clear hW4 o4 HW3 a4 a5 e4 e5 em3 ey z3 S2 Hb2
  as_aux_lemma =>
    have hxi : h[i]? = some h[i] := List.getElem?_eq_getElem hi
    have hyj : g[j]? = some g[j] := List.getElem?_eq_getElem hj
    obtain ⟨t4, hm4⟩ := S4.m
    have lm4 := (Array.getElem?_eq_some_iff.1 hm4).1
    have m0 : W4.cell? ⟨bm, 0, none⟩ = some hs := by unfold World.cell?; simp [hm4]
    have m1 : W4.cell? ⟨bm, 1, none⟩ = some gs := by unfold World.cell?; simp [hm4]
    obtain ⟨ph, chh, hph, l1, l2, hc⟩ := S4.hH
    obtain ⟨pg, cgg, hpg, l3, l4, gc⟩ := S4.hG
    obtain ⟨b, oo, sv, rfl, g1, c0, c1, c2, hv⟩ := hc i _ hxi
    obtain ⟨b', o', sv', rfl, g1', c0', c1', c2', hv'⟩ := gc j _ hyj
    rw [hph] at m0
    rw [hpg] at m1
    have Hxi := Lib.hid hxi
    have Hyj := Lib.hid hyj
    obtain ⟨qv, cv, rfl, v1, v2, vc⟩ := hv
    obtain ⟨qv', cv', rfl, v1', v2', vc'⟩ := hv'
    have Vc := Lib.hid vc
    have Vc' := Lib.hid vc'
    have S4' := Lib.hid S4
    have HB4 := Lib.hid hb4
    clear hc gc hxi hyj vc vc' S4 hb4 hm4 hph hpg
    generalize h[i] = xo at *
    generalize g[j] = yo at *
    unfold maxLen at l2 l4 v2 v2'
    have k1 : W.heap.size < W4.heap.size := by omega
    have k2 : W.heap.size + 1 < W4.heap.size := by omega
    have k3 : b < W4.heap.size := by omega
    have k4 : b' < W4.heap.size := by omega
    clear sz2 sz3 sz4
    go_region
    go_wp2
    go_region
    have hm1 : match1 h g (f + 1) (o, p) (4, (i : Int)) (4, (j : Int)) = if headEq xo yo then along (match1 h g f) (o ++ [i], p ++ [j]) xo.2.2 yo.2.2 else none := by
      unfold match1
      have e1 : at' h i = xo := by unfold at'; rw [Hxi.out]; rfl
      have e2 : at' g j = yo := by unfold at'; rw [Hyj.out]; rfl
      have e3 : kids h i = xo.2.2 := by unfold kids; rw [Hxi.out]; rfl
      have e4 : kids g j = yo.2.2 := by unfold kids; rw [Hyj.out]; rfl
      simp [hio, hjp, e1, e2, e3, e4]
    have hrx : refs h.length xo.2.2 := by have e3 : kids h i = xo.2.2 := by { unfold kids; rw [Hxi.out]; rfl }
                                          rw [← e3]; exact hr
    have hry : refs g.length yo.2.2 := by have e4 : kids g j = yo.2.2 := by { unfold kids; rw [Hyj.out]; rfl }
                                          rw [← e4]; exact hr'
    have Hrx := Lib.hid hrx
    have Hry := Lib.hid hry
    clear hrx hry
    have Hm1 := Lib.hid hm1
    clear hm1
    generalize hW6 : World.drew (World.drew _) = W6
    have b46 : Below W4.heap.size W4 W6 := by rw [← hW6]; exact ((((Below.refl _ W4).alloc (Nat.le_refl _) _).alloc (by simp) _).drew).drew
    have x0 : W6.cell? ⟨W4.heap.size, 0, none⟩ = some (.int .u8 xo.1) := by rw [← hW6]; simp
    have x1 : W6.cell? ⟨W4.heap.size, 1, none⟩ = some (.int .i64 xo.2.1) := by rw [← hW6]; simp
    have x6 : W6.cell? ⟨W4.heap.size, 2, none⟩ = some (.slice qv xo.2.2.length cv) := by rw [← hW6]; simp
    have y0 : W6.cell? ⟨W4.heap.size + 1, 0, none⟩ = some (.int .u8 yo.1) := by rw [← hW6]; simp
    have y1 : W6.cell? ⟨W4.heap.size + 1, 1, none⟩ = some (.int .i64 yo.2.1) := by rw [← hW6]; simp
    have y6 : W6.cell? ⟨W4.heap.size + 1, 2, none⟩ = some (.slice qv' yo.2.2.length cv') := by rw [← hW6]; simp
    have z6 : W4.heap.size + 2 ≤ W6.heap.size := by rw [← hW6]; simp
    have S6 : MSt W6 B bm bt bf hs gs h g (o ++ [i]) (p ++ [j]) := S4'.out.below b46 (by omega)
    have b6 : Only bt bf W4 W6 := Only.of b46
    have HS6 := Lib.hid S6
    have Hb6 := Lib.hid b6
    have Hxl := Lib.hid hkl
    clear hW6 b46 S6 b6 hkl d4 d5 m0 m1 c0 c1 c2 c0' c1' c2' k3 k4 g1 g1'
    as_aux_lemma =>
      obtain ⟨xk, xt, xv⟩ := xo
      obtain ⟨yk, yt, yv⟩ := yo
      dsimp only at *
      have hxl : xv.length ≤ 5000 := Hxl.out (xk, xt, xv) (List.mem_of_getElem? Hxi.out)
      have hhd : headEq (xk, xt, xv) (yk, yt, yv) = true := by
        have e1 : at' h i = (xk, xt, xv) := by unfold at'; rw [Hxi.out]; rfl
        have e2 : at' g j = (yk, yt, yv) := by unfold at'; rw [Hyj.out]; rfl
        rw [← e1, ← e2]
        exact Hlike.out
      have Hhd := Lib.hid hhd
      unfold headEq at hhd
      simp only [Bool.and_eq_true, decide_eq_true_eq] at hhd
      obtain ⟨hk1, hk2, hk3⟩ := hhd
      subst hk1
      subst hk2
      have hne : ((xv.length : Int) != (yv.length : Int)) = false := by rw [hk3]; simp
      have Hk3 := Lib.hid hk3
      clear hk3 gx gy hio hjp hr hr'
      go_wp2
      go_loopw [9, 10] (fun q _ w2 => ∃ (k : Nat) (o' p' : List Nat), k ≤ xv.length ∧ q = .int .i64 k ∧ Only bt bf W4 w2 ∧ MSt w2 B bm bt bf hs gs h g o' p' ∧ o.length + 1 ≤ o'.length ∧ w2.cell? ⟨W4.heap.size, 2, none⟩ = some (.slice qv xv.length cv) ∧ w2.cell? ⟨W4.heap.size + 1, 2, none⟩ = some (.slice qv' yv.length cv') ∧ W4.heap.size + 2 ≤ w2.heap.size ∧
        along (match1 h g f) (o ++ [i], p ++ [j]) xv yv = along (match1 h g f) (o', p') (xv.drop k) (yv.drop k)) (fun q _ _ => xv.length - (intOf q).toNat)
      case atStart => exact ⟨0, o ++ [i], p ++ [j], Nat.zero_le _, rfl, Hb6.out, HS6.out, by simp, x6, y6, z6, rfl⟩
      case round =>
        as_aux_lemma =>
          obtain ⟨k, o', p', hk, rfl, hO, hS, hlen, hx2, hy2, hz2, hal⟩ := hrel
          by_cases hlt : k < xv.length
          · have hlt' : k < yv.length := by rw [← Hk3.out]; exact hlt
            have hx : xv[k]? = some xv[k] := List.getElem?_eq_getElem hlt
            have hy : yv[k]? = some yv[k] := List.getElem?_eq_getElem hlt'
            obtain ⟨e1, q1, rfl, u1, c3, c4⟩ := Vc.out k _ hx
            obtain ⟨e2, q2, rfl, u2, c5, c6⟩ := Vc'.out k _ hy
            have at1 := S.out.at'
            have af1 := S.out.af
            have d1 := (hO.cell (q := ⟨e1, q1 + k * 2, none⟩) (by show e1 < _; omega) (by show e1 ≠ bt; omega) (by show e1 ≠ bf; omega)).trans c3
            have d2 := (hO.cell (q := ⟨e1, q1 + k * 2 + 1, none⟩) (by show e1 < _; omega) (by show e1 ≠ bt; omega) (by show e1 ≠ bf; omega)).trans c4
            have d3 := (hO.cell (q := ⟨e2, q2 + k * 2, none⟩) (by show e2 < _; omega) (by show e2 ≠ bt; omega) (by show e2 ≠ bf; omega)).trans c5
            have d6 := (hO.cell (q := ⟨e2, q2 + k * 2 + 1, none⟩) (by show e2 < _; omega) (by show e2 ≠ bt; omega) (by show e2 ≠ bf; omega)).trans c6
            have hal2 : along (match1 h g f) (o', p') (xv.drop k) (yv.drop k) = (match1 h g f (o', p') xv[k] yv[k]).bind fun s => along (match1 h g f) s (xv.drop (k + 1)) (yv.drop (k + 1)) := by
              rw [List.drop_eq_getElem_cons hlt, List.drop_eq_getElem_cons hlt']
              rfl
            rw [hal2] at hal
            have hcall := fun (w1 : World) (h1 : Below wr.heap.size wr w1) => ih o' p' xv[k] yv[k] w1 (hS.below h1 (by omega)) (by have := h1.size; omega) (Hrx.out _ (List.mem_of_getElem? hx)) (Hry.out _ (List.mem_of_getElem? hy)) (by omega)
            have Hal := Lib.hid hal
            have HO := Lib.hid hO
            have hlen2 : o.length ≤ o'.length := by omega
            clear hal hal2 hx hy c3 c4 c5 c6 hS ih hO
            generalize xv[k] = xe at *
            generalize yv[k] = ye at *
            have hend : match1 h g (f + 1) (o, p) (4, (i : Int)) (4, (j : Int)) = (match1 h g f (o', p') xe ye).bind fun s => along (match1 h g f) s (xv.drop (k + 1)) (yv.drop (k + 1)) := by
              rw [Hm1.out, Hhd.out, if_pos rfl]
              exact Hal.out
            have Hend := Lib.hid hend
            clear hend
            cases hm : match1 h g f (o', p') xe ye with
            | none =>
              as_aux_lemma =>
                have hcall' : ∀ w1, Below wr.heap.size wr w1 → Calls Tryz.prog 21 #[.pointer (some ⟨bm, 0, none⟩), .agg #[.int .u8 xe.1, .int .i64 xe.2], .agg #[.int .u8 ye.1, .int .i64 ye.2]] w1 fun e w2 => e = .returned (.bool false) ∧ Only bt bf wr w2 := fun w1 h1 => (hcall w1 h1).mono fun e w2 hp => by
                  rcases hp with ⟨p1, ⟨s', hs', _⟩ | ⟨_, p2⟩⟩
                  · rw [hm] at hs'; cases hs'
                  · exact ⟨p2, (Only.of h1).trans p1⟩
                have hnone : match1 h g (f + 1) (o, p) (4, (i : Int)) (4, (j : Int)) = none := by rw [Hend.out, hm]; rfl
                have Hnone := Lib.hid hnone
                clear hcall hm hnone
                go_wp2
                go_still_tail 11, (by kernel_rfl)
                change wpList _ _ _ _ _ wr.drew
                go_wp2_with fail
                refine (hcall' _ ((Below.refl _ _).drew)).mono ?_
                clear hcall'
                rintro e w2 ⟨rfl, hO2⟩
                go_wp2
                go_ret
                exact ⟨HB4.out.trans (HO.out.trans hO2), .inr ⟨Hnone.out, rfl⟩⟩
            | some s' =>
              as_aux_lemma =>
                have hcall' : ∀ w1, Below wr.heap.size wr w1 → Calls Tryz.prog 21 #[.pointer (some ⟨bm, 0, none⟩), .agg #[.int .u8 xe.1, .int .i64 xe.2], .agg #[.int .u8 ye.1, .int .i64 ye.2]] w1 fun e w2 => e = .returned (.bool true) ∧ Only bt bf wr w2 ∧ MSt w2 B bm bt bf hs gs h g s'.1 s'.2 ∧ o'.length ≤ s'.1.length := fun w1 h1 => (hcall w1 h1).mono fun e w2 hp => by
                  rcases hp with ⟨p1, ⟨s2, hs', p2, p3, p4⟩ | ⟨hn, _⟩⟩
                  · rw [hm] at hs'; cases hs'; exact ⟨p2, (Only.of h1).trans p1, p3, p4⟩
                  · rw [hm] at hn; cases hn
                have hsome : along (match1 h g f) (o ++ [i], p ++ [j]) xv yv = along (match1 h g f) (s'.1, s'.2) (xv.drop (k + 1)) (yv.drop (k + 1)) := by
                  have := Hal.out
                  rw [hm] at this
                  exact this
                have Hsome := Lib.hid hsome
                clear hcall hm hsome
                go_wp2
                go_still_tail 11, (by kernel_rfl)
                change wpList _ _ _ _ _ wr.drew
                go_wp2_with fail
                refine (hcall' _ ((Below.refl _ _).drew)).mono ?_
                clear hcall'
                rintro e w2 ⟨rfl, hO2, hS2, hl2⟩
                have HS2 := Lib.hid hS2
                clear hS2
                go_wp2
                go_roundw
                case rel => exact ⟨k + 1, s'.1, s'.2, by omega, by go_num, HO.out.trans hO2, HS2.out, by omega,
                  (hO2.cell (q := ⟨W4.heap.size, 2, none⟩) (by show W4.heap.size < _; omega) (by show W4.heap.size ≠ bt; omega) (by show W4.heap.size ≠ bf; omega)).trans hx2,
                  (hO2.cell (q := ⟨W4.heap.size + 1, 2, none⟩) (by show W4.heap.size + 1 < _; omega) (by show W4.heap.size + 1 ≠ bt; omega) (by show W4.heap.size + 1 ≠ bf; omega)).trans hy2, Nat.le_trans hz2 hO2.size, Hsome.out⟩
                case measure => simp [intOf]; omega
          · obtain rfl : k = xv.length := by omega
            have hend : match1 h g (f + 1) (o, p) (4, (i : Int)) (4, (j : Int)) = some (o', p') := by
              rw [Hm1.out, Hhd.out, if_pos rfl, hal, List.drop_eq_nil_of_le (Nat.le_refl _)]
              rfl
            have Hend := Lib.hid hend
            have HS := Lib.hid hS
            have Hlen := Lib.hid hlen
            clear hend hal hS hlen ih
            go_wp2
            go_ret
            exact ⟨HB4.out.trans hO, .inl ⟨(o', p'), Hend.out, rfl, HS.out, by have := Hlen.out; show o.length ≤ o'.length; omega⟩⟩
end Go.Proofs.YtdolijagffcfgaaGreatDoor

namespace Go.Proofs.YtdolijagffcfgaaGreatDoor
open Go Go.RowKit Go.Mn
set_option maxHeartbeats 4000000
set_option maxRecDepth 20000

theorem alike6_unlike {B bm bt bf : Nat} {hs gs : Value} {h g : Hp} {f : Nat} {o p : List Nat} {W : World} (s : MSt W B bm bt bf hs gs h g o p) (i j : Nat) (hi : i < h.length) (hj : j < g.length) (hB : B ≤ W.heap.size) (hio : i ∉ o) (hjp : j ∉ p)
    (hkl : ∀ x ∈ h, x.2.2.length ≤ 5000) (hlike : headEq (at' h i) (at' g j) = false) :
    Calls Tryz.prog 21 #[.pointer (some ⟨bm, 0, none⟩), .agg #[.int .u8 4, .int .i64 (i : Int)], .agg #[.int .u8 4, .int .i64 (j : Int)]] W (Post6 B bm bt bf hs gs h g (f + 1) o p (4, (i : Int)) (4, (j : Int)) W) := by
  obtain ⟨x, hx⟩ : ∃ x, (toRow h.length o p)[i]? = some x := ⟨_, toRow_get hi⟩
  obtain ⟨y, hy⟩ : ∃ y, (toRow g.length p o)[j]? = some y := ⟨_, toRow_get hj⟩
  have hx0 := toRow_neg hi hx
  have hy0 := toRow_neg hj hy
  have hxn : ¬ 0 ≤ x := fun h => hio (hx0.1 h)
  have hyn : ¬ 0 ≤ y := fun h => hjp (hy0.1 h)
  have gx : decide (0 ≤ x) = false := decide_eq_false hxn
  have gy : decide (0 ≤ y) = false := decide_eq_false hyn
  have cx := s.to.cell hx
  have cy := s.fr.cell hy
  have fx := s.to.free i
  have fy := s.fr.free j
  obtain ⟨t, hm⟩ := s.m
  have lm := (Array.getElem?_eq_some_iff.1 hm).1
  have lt := s.to.lt
  have lf := s.fr.lt
  have m2 : W.cell? ⟨bm, 2, none⟩ = some (.slice (some ⟨bt, 0, none⟩) h.length h.length) := by unfold World.cell?; simp [hm]
  have m3 : W.cell? ⟨bm, 3, none⟩ = some (.slice (some ⟨bf, 0, none⟩) g.length g.length) := by unfold World.cell?; simp [hm]
  have n1 := s.n1
  have n2 := s.n2
  have n3 := s.n3
  clear hx0 hy0 hm hx hy
  have S := Lib.hid s
  have Hlike := Lib.hid hlike
  clear hlike
  clear s
  go_enter Tryz.func21, Tryz.ntmps21
  go_wp2
  go_quiet (fail)
  go_wp2
  generalize hW2 : World.drewN _ _ = W2
  have hb2 : Below W.heap.size W W2 := by rw [← hW2]; exact below_drewN (((Below.refl _ W).alloc (Nat.le_refl _) _).alloc (by simp) _) _
  have a4 : W2.cell? ⟨W.heap.size, 1, none⟩ = some (.int .i64 (i : Int)) := by rw [← hW2]; simp
  have a5 : W2.cell? ⟨W.heap.size + 1, 1, none⟩ = some (.int .i64 (j : Int)) := by rw [← hW2]; simp
  have sz2 : W.heap.size + 2 ≤ W2.heap.size := by rw [← hW2]; simp
  have m2' := (hb2.cell (p := ⟨bm, 2, none⟩) lm).trans m2
  have m3' := (hb2.cell (p := ⟨bm, 3, none⟩) lm).trans m3
  have cx' := (hb2.cell (p := ⟨bt, i, none⟩) lt).trans cx
  have cy' := (hb2.cell (p := ⟨bf, j, none⟩) lf).trans cy
  have fx' := (hb2.frozen (p := ⟨bt, i, none⟩) lt).trans fx
  have fy' := (hb2.frozen (p := ⟨bf, j, none⟩) lf).trans fy
  have S2 := Lib.hid (S.out.below hb2 hB)
  have Hb2 := Lib.hid hb2
  clear hW2 m2 m3 cx cy fx fy hb2
  go_region
  go_wp2
  generalize hW3 : World.drew _ = W3
  have o3 : ∀ {q : Addr}, q.block ≠ bt → W3.cell? q = W2.cell? q := fun {q} hq => by rw [← hW3]; exact World.cell?_of_block (w := W2) (Below.heap_setCell W2 ⟨bt, i, none⟩ _ q.block hq)
  have z3 : W3.frozen? ⟨bf, j, none⟩ = false := by
    rw [← hW3]
    exact (World.frozen?_of_block (w := W2) (a := ⟨bf, j, none⟩) (Below.heap_setCell W2 ⟨bt, i, none⟩ _ bf n3.symm)).trans fy'
  have sz3 : W3.heap.size = W2.heap.size := by rw [← hW3]; simp
  have e4 := (o3 (q := ⟨W.heap.size, 1, none⟩) (by show W.heap.size ≠ bt; omega)).trans a4
  have e5 := (o3 (q := ⟨W.heap.size + 1, 1, none⟩) (by show W.heap.size + 1 ≠ bt; omega)).trans a5
  have em3 := (o3 (q := ⟨bm, 3, none⟩) n1).trans m3'
  have ey := (o3 (q := ⟨bf, j, none⟩) n3.symm).trans cy'
  have HW3 := Lib.hid hW3
  clear hW3 o3 m2' m3' cx' cy' fx' fy'
  go_region
  go_wp2
  generalize hW4 : World.drew _ = W4
  have o4 : ∀ {q : Addr}, q.block ≠ bf → W4.cell? q = W3.cell? q := fun {q} hq => by rw [← hW4]; exact World.cell?_of_block (w := W3) (Below.heap_setCell W3 ⟨bf, j, none⟩ _ q.block hq)
  have sz4 : W4.heap.size = W3.heap.size := by rw [← hW4]; simp
  have d4 := (o4 (q := ⟨W.heap.size, 1, none⟩) (by show W.heap.size ≠ bf; omega)).trans e4
  have d5 := (o4 (q := ⟨W.heap.size + 1, 1, none⟩) (by show W.heap.size + 1 ≠ bf; omega)).trans e5
  have S4 : MSt W4 B bm bt bf hs gs h g (o ++ [i]) (p ++ [j]) := by rw [← hW4, ← HW3.out]; exact S2.out.both i j hi hj hio hjp
  have hb4 : Only bt bf W W4 := by
    rw [← hW4, ← HW3.out]
    exact ((((Only.of Hb2.out).set (q := ⟨bt, i, none⟩) (.inl rfl) _).drew).set (q := ⟨bf, j, none⟩) (.inr rfl) _).drew
  clear hW4 o4 HW3 a4 a5 e4 e5 em3 ey z3 S2 Hb2
  as_aux_lemma =>
    have hxi : h[i]? = some h[i] := List.getElem?_eq_getElem hi
    have hyj : g[j]? = some g[j] := List.getElem?_eq_getElem hj
    obtain ⟨t4, hm4⟩ := S4.m
    have lm4 := (Array.getElem?_eq_some_iff.1 hm4).1
    have m0 : W4.cell? ⟨bm, 0, none⟩ = some hs := by unfold World.cell?; simp [hm4]
    have m1 : W4.cell? ⟨bm, 1, none⟩ = some gs := by unfold World.cell?; simp [hm4]
    obtain ⟨ph, chh, hph, l1, l2, hc⟩ := S4.hH
    obtain ⟨pg, cgg, hpg, l3, l4, gc⟩ := S4.hG
    obtain ⟨b, oo, sv, rfl, g1, c0, c1, c2, hv⟩ := hc i _ hxi
    obtain ⟨b', o', sv', rfl, g1', c0', c1', c2', hv'⟩ := gc j _ hyj
    rw [hph] at m0
    rw [hpg] at m1
    have Hxi := Lib.hid hxi
    have Hyj := Lib.hid hyj
    obtain ⟨qv, cv, rfl, v1, v2, vc⟩ := hv
    obtain ⟨qv', cv', rfl, v1', v2', vc'⟩ := hv'
    have Vc := Lib.hid vc
    have Vc' := Lib.hid vc'
    have S4' := Lib.hid S4
    have HB4 := Lib.hid hb4
    clear hc gc hxi hyj vc vc' S4 hb4 hm4 hph hpg
    generalize h[i] = xo at *
    generalize g[j] = yo at *
    unfold maxLen at l2 l4 v2 v2'
    have k1 : W.heap.size < W4.heap.size := by omega
    have k2 : W.heap.size + 1 < W4.heap.size := by omega
    have k3 : b < W4.heap.size := by omega
    have k4 : b' < W4.heap.size := by omega
    clear sz2 sz3 sz4
    go_region
    go_wp2
    go_region
    have hm1 : match1 h g (f + 1) (o, p) (4, (i : Int)) (4, (j : Int)) = if headEq xo yo then along (match1 h g f) (o ++ [i], p ++ [j]) xo.2.2 yo.2.2 else none := by
      unfold match1
      have e1 : at' h i = xo := by unfold at'; rw [Hxi.out]; rfl
      have e2 : at' g j = yo := by unfold at'; rw [Hyj.out]; rfl
      have e3 : kids h i = xo.2.2 := by unfold kids; rw [Hxi.out]; rfl
      have e4 : kids g j = yo.2.2 := by unfold kids; rw [Hyj.out]; rfl
      simp [hio, hjp, e1, e2, e3, e4]
    have Hm1 := Lib.hid hm1
    clear hm1
    generalize hW6 : World.drew (World.drew _) = W6
    have b46 : Below W4.heap.size W4 W6 := by rw [← hW6]; exact ((((Below.refl _ W4).alloc (Nat.le_refl _) _).alloc (by simp) _).drew).drew
    have x0 : W6.cell? ⟨W4.heap.size, 0, none⟩ = some (.int .u8 xo.1) := by rw [← hW6]; simp
    have x1 : W6.cell? ⟨W4.heap.size, 1, none⟩ = some (.int .i64 xo.2.1) := by rw [← hW6]; simp
    have x6 : W6.cell? ⟨W4.heap.size, 2, none⟩ = some (.slice qv xo.2.2.length cv) := by rw [← hW6]; simp
    have y0 : W6.cell? ⟨W4.heap.size + 1, 0, none⟩ = some (.int .u8 yo.1) := by rw [← hW6]; simp
    have y1 : W6.cell? ⟨W4.heap.size + 1, 1, none⟩ = some (.int .i64 yo.2.1) := by rw [← hW6]; simp
    have y6 : W6.cell? ⟨W4.heap.size + 1, 2, none⟩ = some (.slice qv' yo.2.2.length cv') := by rw [← hW6]; simp
    have z6 : W4.heap.size + 2 ≤ W6.heap.size := by rw [← hW6]; simp
    have S6 : MSt W6 B bm bt bf hs gs h g (o ++ [i]) (p ++ [j]) := S4'.out.below b46 (by omega)
    have b6 : Only bt bf W4 W6 := Only.of b46
    have HS6 := Lib.hid S6
    have Hb6 := Lib.hid b6
    have Hxl := Lib.hid hkl
    clear hW6 b46 S6 b6 hkl d4 d5 m0 m1 c0 c1 c2 c0' c1' c2' k3 k4 g1 g1'
    as_aux_lemma =>
      obtain ⟨xk, xt, xv⟩ := xo
      obtain ⟨yk, yt, yv⟩ := yo
      dsimp only at *
      have hxl : xv.length ≤ 5000 := Hxl.out (xk, xt, xv) (List.mem_of_getElem? Hxi.out)
      have hhd : headEq (xk, xt, xv) (yk, yt, yv) = false := by
        have e1 : at' h i = (xk, xt, xv) := by unfold at'; rw [Hxi.out]; rfl
        have e2 : at' g j = (yk, yt, yv) := by unfold at'; rw [Hyj.out]; rfl
        rw [← e1, ← e2]
        exact Hlike.out
      have hnone : match1 h g (f + 1) (o, p) (4, (i : Int)) (4, (j : Int)) = none := by rw [Hm1.out, hhd]; rfl
      have Hnone := Lib.hid hnone
      clear hnone gx gy hio hjp
      by_cases hk1 : xk = yk
      case neg =>
        as_aux_lemma =>
          have hq : (xk != yk) = true := by simpa using hk1
          clear hk1 hhd
          go_wp2
          go_ret
          exact ⟨HB4.out.trans Hb6.out, .inr ⟨Hnone.out, rfl⟩⟩
      by_cases hk2 : xt = yt
      case neg =>
        as_aux_lemma =>
          have hq : (xt != yt) = true := by simpa using hk2
          subst hk1
          clear hk2 hhd
          go_wp2
          go_ret
          exact ⟨HB4.out.trans Hb6.out, .inr ⟨Hnone.out, rfl⟩⟩
      by_cases hk3 : xv.length = yv.length
      case neg =>
        as_aux_lemma =>
          have hq : ((xv.length : Int) != (yv.length : Int)) = true := by simp; omega
          subst hk1
          subst hk2
          clear hk3 hhd
          go_wp2
          go_ret
          exact ⟨HB4.out.trans Hb6.out, .inr ⟨Hnone.out, rfl⟩⟩
      exfalso
      unfold headEq at hhd
      simp [hk1, hk2, hk3] at hhd
end Go.Proofs.YtdolijagffcfgaaGreatDoor
