/-
  The walks of the reference moved and Reached. No condition but how the arguments lie.
-/
import Derived.BigRegion
import Derived.Deep.RegionLaw
import Derived.Deep.CutRange
import Derived.Deep.AppendLies
import Derived.Deep.RegionHeld3
import Derived.Test.YtdolijagffcfgaaGreatDoorRA
import Derived.OwnWalk
namespace Go.Proofs.YtdolijagffcfgaaGreatDoor
open Go Go.RowKit Go.Mn
set_option maxHeartbeats 4000000
set_option maxRecDepth 20000

theorem wpList_append_lies {P : Program} {w : World} {ops : Array Oper} {rest : List Oper} {o : Oper} {a : Act} {Q : Exit → Act → World → Prop} (hgd : o.guard = none) (s x : Operand) (t : TypeId)
    (ho : o.op = .call { callee := .builtin .append, args := #[s, x], argTypes := #[t, t] })
    (base : Nat) (e : TypeId) (i : TypeInfo) (z : Value) (size bytes : Nat) (ht : P.underlying t = some (.slice e)) (hi : P.info? e = some i) (hz : i.zero = some z)
    (hsize : i.size = size) (hby : i.bytes = bytes) (hzs : z.cells.size = size) (hsz : 0 < size)
    (v : Value) (n : Nat) (xs : List Value) (hs : a.eval s = v) (hown : w.ownsRow base e size v n xs)
    (ad : Addr) (m c : Nat) (news : List Value) (hx : a.eval x = .slice (some ad) m c) (hl : news.length = m * size) (hnews : ∀ j u, news[j]? = some u → w.cell? (ad.add j) = some u) (h1 : ∀ u ∈ news, u.oneCell' = true)
    (hm : 0 < m) (h63 : n + m ≤ maxLen) (hbytes : (n + m) * bytes ≤ 140737488355328) (hbase : base ≤ w.heap.size) (H : Nat) (hH : w.heap.size = H)
    (h : ∀ g cap w', w'.ownsRow base e size (.slice (some ⟨g, 0, none⟩) (n + m) cap) (n + m) (xs ++ news) → w.grownBy w' v.ownBlock → (v.ownBlock = some g ∨ g = H) → g < w'.heap.size → wpList P ops Q rest (a.put o.dst (.slice (some ⟨g, 0, none⟩) (n + m) cap)) w') : wpList P ops Q (o :: rest) a w :=
  wpList_plain hgd fun _ hK => wp_append_lies w s x t ho base e i z size bytes ht hi hz hsize hby hzs hsz v n xs hs hown ad m c news hx hl hnews h1 hm h63 hbytes hbase H hH fun g cap w' h2 h3 h4 h5 => hK _ _ (h g cap w' h2 h3 h4 h5)

/-- what a call of moved answers and leaves -/
def Post25 (B N bm bt : Nat) (X : Nat → Prop) (hs : Value) (h : Hp) (F : List Nat) (f : Nat) (o : List Nat) (os : Hp) (ov : Value) (v : Vl) (W : World) (e : Ending) (W' : World) : Prop :=
  e = .returned (.agg #[.int .u8 (tr F v).1, .int .i64 (tr F v).2]) ∧ ∃ ov', MvSt W' B N bm bt X hs h (visit h f o v) (os ++ ((visit h f o v).drop o.length).map (obj h F)) ov' ∧ Mq bm bt ov ov' W W'

def Says25 (B N bm bt : Nat) (hs : Value) (h : Hp) (F : List Nat) (f : Nat) : Prop := ∀ (X : Nat → Prop) (o : List Nat) (os : Hp) (ov : Value) (v : Vl) (W : World), MvSt W B N bm bt X hs h o os ov → os.length = o.length → (∀ r, X r → r < W.heap.size) → N ≤ W.heap.size → (v.1 = 4 → 0 ≤ v.2 ∧ v.2.toNat < h.length) → h.length + 1 ≤ o.length + f → visit h f o v <+: F →
  Calls Tryz.prog 25 #[.pointer (some ⟨bm, 0, none⟩), .agg #[.int .u8 v.1, .int .i64 v.2]] W (Post25 B N bm bt X hs h F f o os ov v W)

theorem moved_new {B N bm bt : Nat} {X : Nat → Prop} {hs ov : Value} {h : Hp} {F : List Nat} {f : Nat} (ih : Says25 B N bm bt hs h F f) (hh : h.length ≤ 5000) (hkl : ∀ x ∈ h, x.2.2.length ≤ 5000) {o : List Nat} {os : Hp} {W : World} (s : MvSt W B N bm bt X hs h o os ov) (hlen : os.length = o.length) (hX : ∀ r, X r → r < W.heap.size) (hN : N ≤ W.heap.size) (hBN : B ≤ N)
    (i : Nat) (hi : i < h.length) (hm : i ∉ o) (hr : refs h.length (kids h i)) (hf : h.length + 1 ≤ o.length + 1 + f) (hpre : visits h f (o ++ [i]) (kids h i) <+: F) :
    Calls Tryz.prog 25 #[.pointer (some ⟨bm, 0, none⟩), .agg #[.int .u8 4, .int .i64 (i : Int)]] W (Post25 B N bm bt X hs h F (f + 1) o os ov (4, (i : Int)) W) := by
  have cx := s.to.cell (newRow_none hi hm)
  have fx := s.to.free i
  obtain ⟨t, hmm⟩ := s.m
  have lm := s.bm_lt
  have lt := s.to.lt
  obtain ⟨p, c, rfl⟩ := s.form
  have m1 : W.cell? ⟨bm, 1, none⟩ = some (.slice p os.length c) := by unfold World.cell?; simp [hmm]
  have m2 : W.cell? ⟨bm, 2, none⟩ = some (.slice (some ⟨bt, 0, none⟩) h.length h.length) := by unfold World.cell?; simp [hmm]
  have n1 := s.ne
  obtain ⟨X1, hX1⟩ : ∃ X1 : Nat → Prop, X1 = fun r => X r ∨ r = W.heap.size + 1 := ⟨_, rfl⟩
  have hXX : ∀ r, X1 r → r < W.heap.size + 2 := fun r hr => by
    rw [hX1] at hr
    rcases hr with hr | hr
    · have := hX r hr; omega
    · omega
  have s1 := s.other (X' := X1) (fun r h1 h2 => by
    rw [hX1] at h2
    rcases h2 with h2 | h2
    · exact h2
    · omega)
  have HX := Lib.hid hXX
  have HX1 := Lib.hid hX1
  have S := Lib.hid s1
  have hole : os.length ≤ 5000 := by have := s.on.le; omega
  have Hlen := Lib.hid hlen
  have Hpre := Lib.hid hpre
  have Hm := Lib.hid hm
  clear hmm s s1 hlen hpre hm hX hXX hX1
  go_enter Tryz.func25, Tryz.ntmps25
  go_wp2
  go_quiet (fail)
  go_wp2
  generalize hW2 : World.drewN _ _ = W2
  have hb2 : Below W.heap.size W W2 := by rw [← hW2]; exact below_drewN (((Below.refl _ W).alloc (Nat.le_refl _) _).alloc (by simp) _) _
  have a4 : W2.cell? ⟨W.heap.size, 1, none⟩ = some (.int .i64 (i : Int)) := by rw [← hW2]; simp
  have sz2 : W.heap.size + 2 ≤ W2.heap.size := by rw [← hW2]; simp
  have m1' := (hb2.cell (p := ⟨bm, 1, none⟩) lm).trans m1
  have m2' := (hb2.cell (p := ⟨bm, 2, none⟩) lm).trans m2
  have cx' := (hb2.cell (p := ⟨bt, i, none⟩) lt).trans cx
  have fx' := (hb2.frozen (p := ⟨bt, i, none⟩) lt).trans fx
  have S2 := Lib.hid (S.out.below hb2 (Nat.le_trans hBN hN))
  have Hb2 := Lib.hid hb2
  have hx2 : W2.heap[W.heap.size]? = some (.cells #[.int .u8 4, .int .i64 (i : Int)] 49) := by
    rw [← hW2]
    exact (Below.heap_alloc _ _ _ (by simp)).trans (World.alloc_heap_new W _)
  have hy2 : W2.heap[W.heap.size + 1]? = some (.cells #[.int .u8 0, .int .i64 0] 49) := by
    rw [← hW2]
    have := World.alloc_heap_new (W.alloc (.cells #[.int .u8 4, .int .i64 (i : Int)] 49)) (.cells #[.int .u8 0, .int .i64 0] 49)
    rw [World.size_alloc] at this
    exact this
  have HX2 := Lib.hid hx2
  have HY2 := Lib.hid hy2
  clear hW2 m1 m2 cx fx hb2 hx2 hy2
  go_region
  go_wp2
  generalize hW3 : World.drew _ = W3
  have S3 : MvSt W3 B N bm bt X1 hs h (o ++ [i]) os (.slice p os.length c) := by
    have h1 := S2.out.put hi Hm.out
    rw [← Hlen.out] at h1
    rw [← hW3]
    exact h1.below (Below.refl _ _).drew (by simp; omega)
  have Q3 : Mq bm bt (.slice p os.length c) (.slice p os.length c) W W3 := by
    rw [← hW3]
    exact (((Mq.of Hb2.out).set (q := ⟨bt, i, none⟩) (.inr rfl) _).trans (Mq.of (Below.refl _ _).drew))
  have z3 : W.heap.size + 2 ≤ W3.heap.size := by rw [← hW3]; simp; omega
  have hv0 : W3.heap[W.heap.size]? = some (.cells #[.int .u8 4, .int .i64 (i : Int)] 49) := by rw [← hW3]; exact (Below.heap_setCell W2 ⟨bt, i, none⟩ _ W.heap.size (by show W.heap.size ≠ bt; omega)).trans HX2.out
  have hv1 : W3.heap[W.heap.size + 1]? = some (.cells #[.int .u8 0, .int .i64 0] 49) := by rw [← hW3]; exact (Below.heap_setCell W2 ⟨bt, i, none⟩ _ (W.heap.size + 1) (by show W.heap.size + 1 ≠ bt; omega)).trans HY2.out
  have d3 : W3.cell? ⟨W.heap.size, 1, none⟩ = some (.int .i64 (i : Int)) := by rw [block_cell hv0]; rfl
  have HV0 := Lib.hid hv0
  have HV1 := Lib.hid hv1
  clear hW3 S2 Hb2 a4 m1' m2' cx' fx' HX2 HY2 sz2 hv0 hv1
  have hxi : h[i]? = some h[i] := List.getElem?_eq_getElem hi
  obtain ⟨t3, hm3⟩ := S3.m
  have lm3 := (Array.getElem?_eq_some_iff.1 hm3).1
  have m0 : W3.cell? ⟨bm, 0, none⟩ = some hs := by unfold World.cell?; simp [hm3]
  have m1 : W3.cell? ⟨bm, 1, none⟩ = some (.slice p os.length c) := by unfold World.cell?; simp [hm3]
  obtain ⟨ph, chh, hph, l1, l2, hc⟩ := S3.hH
  obtain ⟨b, oo, sv, rfl, g1, c0, c1, c2, hv⟩ := hc i _ hxi
  rw [hph] at m0
  obtain ⟨qv, cv, rfl, v1, v2, vc⟩ := hv
  have Hxi := Lib.hid hxi
  have Vc := Lib.hid vc
  have S3' := Lib.hid S3
  have Q3' := Lib.hid Q3
  have hxl : (h[i]).2.2.length ≤ 5000 := hkl _ (List.getElem_mem hi)
  clear hc hxi vc S3 Q3 hm3 hph
  generalize h[i] = xo at *
  unfold maxLen at l2 v2
  have k1 : W.heap.size < W3.heap.size := by omega
  have k3 : b < W3.heap.size := by omega
  go_region
  go_wp2
  generalize hW4 : World.drew _ = W4
  have b34 : Below W3.heap.size W3 W4 := by rw [← hW4]; exact ((Below.refl _ W3).alloc (Nat.le_refl _) _).drew
  have z4 : W3.heap.size + 1 ≤ W4.heap.size := by rw [← hW4]; simp
  have x0 : W4.cell? ⟨W3.heap.size, 0, none⟩ = some (.int .u8 xo.1) := by rw [← hW4]; simp
  have x1 : W4.cell? ⟨W3.heap.size, 1, none⟩ = some (.int .i64 xo.2.1) := by rw [← hW4]; simp
  have x2 : W4.cell? ⟨W3.heap.size, 2, none⟩ = some (.slice qv xo.2.2.length cv) := by rw [← hW4]; simp
  have m1' := (b34.cell (p := ⟨bm, 1, none⟩) lm3).trans m1
  have S4 := S3'.out.below b34 (by omega)
  have Q4 := Q3'.out.trans (Mq.of b34)
  have hS4 := Lib.hid S4
  have hQ4 := Lib.hid Q4
  obtain ⟨t4, hm4⟩ := S4.m
  have f4 : W4.frozen? ⟨bm, 1, none⟩ = false := by unfold World.frozen?; simp [hm4]
  have lm4 : bm < W4.heap.size := by omega
  have X2 := Lib.hid x2
  obtain ⟨l, hl, hrow, hlv⟩ := S4.own
  have Hlv := Lib.hid hlv
  clear hW4 S3' Q3' S4 Q4 m0 m1 c0 c1 c2 d3 x2 hlv hm4
  obtain ⟨i0, hi0, hz0, hz1, hz2⟩ := info_parts info35
  have hNW4 : N ≤ W4.heap.size := by omega
  have hne5 : some bm ≠ (Value.slice p os.length c).ownBlock := fun e => by
    have := (row_lt hrow bm e.symm).1
    have := S.out.lt.1
    omega
  go_cut [] from 43 to 56 (fun wx => ∃ g cap, MvSt wx B N bm bt X1 hs h (o ++ [i]) (os ++ [(xo.1, xo.2.1, [])]) (.slice (some ⟨g, 0, none⟩) (os.length + 1) cap) ∧ Mq bm bt (.slice p os.length c) (.slice (some ⟨g, 0, none⟩) (os.length + 1) cap) W4 wx)
  case first =>
    go_region_law (first
      | (refine step_append_lies _ (by rfl) _ _ _ (by rfl) N 35 i0 _ 3 40 Tryz.underlying22 hi0 hz0 hz1 hz2 rfl (by omega) _ os.length (flatO l) (by rfl) (hrow.drew.alloc _)
          ⟨W4.heap.size, 0, none⟩ 1 1 [.int .u8 xo.1, .int .i64 xo.2.1, .slice none 0 0] (by rfl) (by rfl) (cells_new W4.drew [.int .u8 xo.1, .int .i64 xo.2.1, .slice none 0 0] 35) (by simp [Value.oneCell'])
          (by omega) (by unfold maxLen; omega) (by omega) (by simp; omega) (W4.heap.size + 1) (by simp) ?_; intro gg cap w5 hown5 hgrow hat5 hlt5; have c5 := (hgrow.cell_far ⟨bm, 1, none⟩ (by simp; omega) hne5).trans ((((Below.refl W4.heap.size W4).drew.alloc (by simp) (.cells #[.int .u8 xo.1, .int .i64 xo.2.1, .slice none 0 0] 35)).cell (p := ⟨bm, 1, none⟩) lm4).trans m1'); have f5 := (hgrow.frozen_far ⟨bm, 1, none⟩ (by simp; omega) hne5).trans ((((Below.refl W4.heap.size W4).drew.alloc (by simp) (.cells #[.int .u8 xo.1, .int .i64 xo.2.1, .slice none 0 0] 35)).frozen (p := ⟨bm, 1, none⟩) lm4).trans f4)))
    all_goals
      go_wp2_with fail
      go_meet
      refine ⟨gg, cap, ?_, ?_⟩
      · exact MvSt.push (hS4.out.below (Below.refl _ _).drew (by omega)) (by simp; omega) hl hrow.drew Hlv.out hgrow hown5
      · exact ((Mq.of (((Below.refl W4.heap.size W4).drew.alloc (by simp) _))).trans (Mq.grown (v' := .slice (some ⟨gg, 0, none⟩) (os.length + 1) cap) hgrow (fun r e => by
          rcases hat5 with h5 | h5
          · exact .inl (h5.trans e)
          · have : gg = r := by simpa [Value.ownBlock] using e
            exact .inr (by simp; omega)))).set (q := ⟨bm, 1, none⟩) (.inl rfl) _
  case rest =>
  obtain ⟨g, cap, S5, Q5⟩ := hcut
  have ovlt : ∀ r, (Value.slice p os.length c).ownBlock = some r → N ≤ r ∧ r < W.heap.size := fun r e => S.out.ov_ge r e
  have hfar : ∀ (wr : World) (v' : Value), Mq bm bt (.slice p os.length c) v' W4 wr → wr.cell? ⟨W3.heap.size, 2, none⟩ = some (.slice qv xo.2.2.length cv) ∧ (wr.heap[W.heap.size]? = some (.cells #[.int .u8 4, .int .i64 (i : Int)] 49) ∧ wr.heap[W.heap.size + 1]? = some (.cells #[.int .u8 0, .int .i64 0] 49)) ∧ Below B W3 wr := fun wr v' hq => by
    refine ⟨(hq.cell (q := ⟨W3.heap.size, 2, none⟩) (by show W3.heap.size < _; omega) (by show W3.heap.size ≠ bm; omega) (by show W3.heap.size ≠ bt; omega) (fun e => by have := (ovlt _ e).2; dsimp only at this; omega)).trans X2.out,
      ⟨(hq.keep W.heap.size (by omega) (by omega) (by omega) (fun e => by have := (ovlt _ e).2; omega)).trans ((b34.block _ (by omega)).trans HV0.out), (hq.keep (W.heap.size + 1) (by omega) (by omega) (by omega) (fun e => by have := (ovlt _ e).2; omega)).trans ((b34.block _ (by omega)).trans HV1.out)⟩, (b34.mono (by omega)).trans (hq.below S.out.bB.1 S.out.bB.2 (fun r e => by have := (ovlt r e).1; omega) (by omega))⟩
  have Hfar := Lib.hid hfar
  have Ovlt := Lib.hid ovlt
  have hkid : kids h i = xo.2.2 := by unfold kids; rw [Hxi.out]; rfl
  have hobj : obj h F i = (xo.1, xo.2.1, xo.2.2.map (tr F)) := by unfold obj; rw [Hxi.out]; rfl
  have hpre := Hpre.out
  rw [hkid] at hr hpre
  have Hobj := Lib.hid hobj
  have Hr := Lib.hid hr
  have Hpre' := Lib.hid hpre
  have HS5 := Lib.hid S5
  have HQ5 := Lib.hid Q5
  have n1' := n1
  clear ovlt hfar hkid hobj hr hpre S5 Q5 hkl hne5 Hlv hrow hl f4 m1' x0 x1
  obtain ⟨xk, xt, xv⟩ := xo
  dsimp only at *
  go_wp2
  go_loopw [7, 8] (fun s7 s8 wr => ∃ (k : Nat) (ov' : Value), k ≤ xv.length ∧ s8 = .int .i64 k ∧ MvSt wr B N bm bt (fun r => X1 r ∨ s7.ownBlock = some r) hs h (visits h f (o ++ [i]) (xv.take k)) (os ++ [(xk, xt, [])] ++ ((visits h f (o ++ [i]) (xv.take k)).drop (o.length + 1)).map (obj h F)) ov' ∧ Mq bm bt (.slice p os.length c) ov' W4 wr ∧ wr.ownsRow W4.heap.size 49 2 s7 k (flat ((xv.take k).map (tr F)))) (fun _ s8 _ => xv.length - (intOf s8).toNat)
  case atStart => exact ⟨0, _, Nat.zero_le _, rfl, by
    have := HS5.out.other (X' := fun r => X1 r ∨ (Value.slice none 0 0).ownBlock = some r) (fun r _ h => h.resolve_right (by simp [Value.ownBlock]))
    simpa [visits_nil] using this, HQ5.out, World.ownsRow_nil _ _ _ _⟩
  case round =>
    obtain ⟨k, ov', hk, rfl, hS, hQ, hrow⟩ := hrel
    obtain ⟨hx2, hv1, hbB⟩ := Hfar.out wr ov' hQ
    by_cases hlt : k < xv.length
    · have hx : xv[k]? = some xv[k] := List.getElem?_eq_getElem hlt
      obtain ⟨e1, q1, rfl, u1, c3, c4⟩ := Vc.out k _ hx
      have d1 := (hbB.cell (p := ⟨e1, q1 + k * 2, none⟩) u1).trans c3
      have d2 := (hbB.cell (p := ⟨e1, q1 + k * 2 + 1, none⟩) u1).trans c4
      have hpo : (o ++ [i]) <+: visits h f (o ++ [i]) (xv.take k) := visits_prefix h f _ _
      have hlk := objs_len Hlen.out (xk, xt, []) (obj h F) hpo
      have hstep : visits h f (o ++ [i]) (xv.take (k + 1)) = visit h f (visits h f (o ++ [i]) (xv.take k)) xv[k] := by
        rw [List.take_add_one, hx, visits_append]
        rfl
      have hpre : visit h f (visits h f (o ++ [i]) (xv.take k)) xv[k] <+: F := by
        rw [← hstep]
        have := visits_prefix h f (xv.drop (k + 1)) (visits h f (o ++ [i]) (xv.take (k + 1)))
        rw [← visits_append, List.take_append_drop] at this
        exact this.trans Hpre'.out
      have hszQ := hQ.size
      have hle := hpo.length_le
      simp only [List.length_append, List.length_singleton] at hle
      have hcall := ih (fun r => X1 r ∨ u7.ownBlock = some r) _ _ ov' xv[k] wr hS hlk (fun r hr => by
        rcases hr with hr | hr
        · have := HX.out r hr; omega
        · exact (row_lt hrow r hr).2) (by omega) (Hr.out _ (List.mem_of_getElem? hx)) (by omega) hpre
      have htk : flat ((xv.take (k + 1)).map (tr F)) = flat ((xv.take k).map (tr F)) ++ [.int .u8 (tr F xv[k]).1, .int .i64 (tr F xv[k]).2] := by
        rw [List.take_add_one, hx, List.map_append, ← flat_snoc]
        rfl
      have hpo2 : visits h f (o ++ [i]) (xv.take k) <+: visit h f (visits h f (o ++ [i]) (xv.take k)) xv[k] := visit_prefix _ _ _ _
      have hos := objs_step (a := o.length + 1) hpo2 hle (os ++ [(xk, xt, [])]) (obj h F)
      have hxv5 : xv.length ≤ 5000 := hxl
      have Hstep := Lib.hid hstep
      have Htk := Lib.hid htk
      have Hos := Lib.hid hos
      have HS := Lib.hid hS
      have HQ := Lib.hid hQ
      have Hrow := Lib.hid hrow
      obtain ⟨j0, hj0, jz0, jz1, jz2⟩ := info_parts info49
      clear hstep htk hos hS hQ hrow hpre hpo hpo2 hlk hx c3 c4 hv1 hbB
      generalize xv[k] = xe at *
      go_wp2_with fail
      refine hcall.mono ?_
      clear hcall ih
      rintro e w2 ⟨rfl, ov2, hS2, hQ2⟩
      rw [Hos.out, ← Hstep.out] at hS2
      have row2 : w2.ownsRow W4.heap.size 49 2 u7 k (flat ((xv.take k).map (tr F))) := row_keep Hrow.out fun r e => by
        have hr1 := row_lt Hrow.out r e
        obtain ⟨l2, _, hl2, _⟩ := HS.out.own
        exact hQ2.keep r hr1.2 (by omega) (by omega) fun e2 => row_apart Hrow.out hl2 (by decide) e e2
      have Row2 := Lib.hid row2
      have HS2 := Lib.hid hS2
      have HQ2 := Lib.hid (HQ.out.trans hQ2)
      have z2 := hQ2.size
      generalize tr F xe = xf at *
      have hnew := cells_new w2 [.int .u8 xf.1, .int .i64 xf.2] 49
      have Hnew := Lib.hid hnew
      clear hS2 row2 hQ2 hnew
      go_wp2_with (at_builtin; refine wpList_append_lies rfl _ _ 23 rfl W4.heap.size 49 j0 (.agg #[.int .u8 0, .int .i64 0]) 2 16 Tryz.underlying23 hj0 jz0 jz1 jz2 rfl (by decide) _ _ _ rfl (Row2.out.alloc _) ⟨w2.heap.size, 0, none⟩ 1 1 [.int .u8 xf.1, .int .i64 xf.2] rfl rfl Hnew.out (by simp [Value.oneCell']) (by omega) (by unfold maxLen; omega) (by omega) (by simp; omega) (w2.heap.size + 1) (by simp) ?_; intro g' cap' w3 hown' hgrow hat hlt3; have hgrow' : (w2.alloc (.cells #[.int .u8 xf.1, .int .i64 xf.2] 49)).grownBy w3 u7.ownBlock := hgrow; have hat' : u7.ownBlock = some g' ∨ g' = w2.heap.size + 1 := hat; clear hgrow hat)
      go_roundw
      case rel => exact ⟨k + 1, ov2, by omega, by go_num, (HS2.out.below ((Below.refl _ w2).alloc (Nat.le_refl _) _) (by omega)).grown (by simp; omega) (Row2.out.alloc _) (by omega) (fun r e => .inr e) hgrow' (fun r hr hx => hx.elim .inl fun e => by
          have e2 : g' = r := by simpa [Value.ownBlock] using e
          rcases hat' with h5 | h5
          · exact .inr (by rw [h5, e2])
          · simp at hr
            omega), HQ2.out.then_ (((Below.refl _ w2).alloc (by omega) _).grown hgrow' (by simp; omega) (fun r e => (row_lt Row2.out r e).1)), by rw [Htk.out]; exact hown'⟩
      case measure => simp [intOf]; omega
    · obtain rfl : k = xv.length := by omega
      rw [List.take_length] at hS hrow
      obtain ⟨q7, c7, rfl⟩ := row_slice hrow
      have hpo := visits_prefix h f xv (o ++ [i])
      have hlk := objs_len Hlen.out (xk, xt, []) (obj h F) hpo
      have hgt := hpo.length_le
      simp only [List.length_append, List.length_singleton] at hgt
      have hle := hS.on.le
      obtain ⟨ty, hmm⟩ := hS.m
      obtain ⟨l', hl1', hl', _⟩ := hS.own
      obtain ⟨gg, cc, rfl⟩ := row_written hl' (by omega)
      have hl3 := hl'.1
      have Hlk := Lib.hid hlk
      have Hpo := Lib.hid hpo
      have hol : os.length < (visits h f (o ++ [i]) xv).length := by have := Hlen.out; omega
      rw [hlk] at hl' hmm hl3
      have m1 : wr.cell? ⟨bm, 1, none⟩ = some (.slice (some ⟨gg, 0, none⟩) (visits h f (o ++ [i]) xv).length cc) := by rw [block_cell hmm]; rfl
      have m2 : wr.cell? ⟨bm, 2, none⟩ = some (.slice (some ⟨bt, 0, none⟩) h.length h.length) := by rw [block_cell hmm]; rfl
      obtain ⟨z, hz⟩ : ∃ z, (flatO l')[os.length * 3 + 2]? = some z := ⟨_, List.getElem?_eq_getElem (by omega)⟩
      have c5 := (hl'.cellAt (os.length * 3 + 2) (by omega)).trans hz
      have f5 := hl'.frozenAt (os.length * 3 + 2)
      have hxv5 : xv.length ≤ 5000 := hxl
      have HS := Lib.hid hS
      have HQ := Lib.hid hQ
      have Hrow := Lib.hid hrow
      clear hS hQ hrow hpo hlk hmm hl' hl1' hz hl3 ih hlt
      generalize hnn : (visits h f (o ++ [i]) xv).length = nn at *
      have Hnn := Lib.hid hnn
      clear hnn
      go_wp2
      generalize hW6 : World.setCell wr _ _ = W6
      have hgN := (HS.out.ov_ge gg rfl).1
      have hltN := HS.out.lt
      have hgW : gg < W.heap.size ∨ W4.heap.size ≤ gg := by
        rcases HQ.out.row gg rfl with h5 | h5
        · exact .inl (Ovlt.out _ h5).2
        · exact .inr h5
      have hne6 : ∀ q, q ≠ gg → W6.heap[q]? = wr.heap[q]? := fun q hq => by rw [← hW6]; exact Below.heap_setCell wr ⟨gg, os.length * 3 + 2, none⟩ _ q hq
      have hxl5 : (xv.map (tr F)).length = xv.length := List.length_map _
      have S6 := (HS.out.other (X' := X1) (fun r _ hx => .inl hx)).vals (n := os.length) (k := xk) (t := xt) (vs := xv.map (tr F)) (sv := .slice q7 xv.length c7) (by
        rw [List.append_assoc, List.getElem?_append_right (Nat.le_refl _), Nat.sub_self]
        rfl) (by rw [hxl5]; exact row_base Hrow.out (by omega)) (fun r e hx => by
          have := (row_lt Hrow.out r e).1
          have := HX.out r hx
          omega)
      have hob : obj h F i = (xk, xt, xv.map (tr F)) := Hobj.out
      rw [← hob, objs_set Hpo.out (obj h F) (xk, xt, []), hW6] at S6
      have Q6 := HQ.out.setRow (q := ⟨gg, os.length * 3 + 2, none⟩) rfl (.slice q7 xv.length c7)
      rw [hW6] at Q6
      have hmem : i ∈ visits h f (o ++ [i]) xv := Hpo.out.subset (by simp)
      have ct := S6.to.cell (newRow_old hi hmem)
      have cm : W6.cell? ⟨bm, 2, none⟩ = some (.slice (some ⟨bt, 0, none⟩) h.length h.length) := (World.cell?_of_block (w := wr) (a := ⟨bm, 2, none⟩) (hne6 bm (by omega))).trans m2
      have hv6 := (hne6 W.heap.size (by omega)).trans hv1.1
      have hr6 := (hne6 (W.heap.size + 1) (by omega)).trans hv1.2
      have e1 : W6.cell? ⟨W.heap.size, 1, none⟩ = some (.int .i64 (i : Int)) := by rw [block_cell hv6]; rfl
      have e2 : W6.cell? ⟨W.heap.size + 1, 0, none⟩ = some (.int .u8 0) := by rw [block_cell hr6]; rfl
      have e3 : W6.cell? ⟨W.heap.size + 1, 1, none⟩ = some (.int .i64 0) := by rw [block_cell hr6]; rfl
      have e4 := block_free hr6 0
      have e5 := block_free hr6 1
      have hidx : F.idxOf i = (visits h f (o ++ [i]) xv).idxOf i := idx_prefix Hpre'.out hmem
      have htr : tr F (4, (i : Int)) = (4, ((visits h f (o ++ [i]) xv).idxOf i : Int)) := by
        rw [tr_ref rfl, ← hidx]
        simp
      have hvis : visit h (f + 1) o (4, (i : Int)) = visits h f (o ++ [i]) xv := by
        have hk : kids h i = xv := by unfold kids; rw [Hxi.out]; rfl
        rw [visit_succ, if_pos ⟨rfl, by simpa using Hm.out⟩]
        simp only [Int.toNat_natCast]
        rw [hk]
      have Htr := Lib.hid htr
      have Hvis := Lib.hid hvis
      have HS6 := Lib.hid S6
      have hs46 := Q6.size
      have HQ6 := Lib.hid (hQ4.out.trans Q6)
      have HR6 := Lib.hid hr6
      clear htr hvis S6 Q6 hidx hob hv6 hr6 hv1 m1 m2 c5 f5 hne6 hW6 hmem hx2 hbB hxl5
      generalize (visits h f (o ++ [i]) xv).idxOf i = j at *
      have z6 : W.heap.size + 2 ≤ W6.heap.size := by omega
      go_region
      go_wp2
      try simp only [Exit.inBlock, Exit.then]
      have hr7 : (((W6.setCell ⟨W.heap.size + 1, 0, none⟩ (.int .u8 4)).setCell ⟨W.heap.size + 1, 1, none⟩ (.int .i64 (j : Int))).drew).heap[W.heap.size + 1]? = some (.cells #[.int .u8 4, .int .i64 (j : Int)] 49) :=
        heap_setCell_same _ _ 1 _ _ (.int .i64 (j : Int)) (heap_setCell_same W6 _ 0 _ _ (.int .u8 4) HR6.out)
      have hb7 : ∀ D, D ≤ W.heap.size + 1 → Below D W6 (((W6.setCell ⟨W.heap.size + 1, 0, none⟩ (.int .u8 4)).setCell ⟨W.heap.size + 1, 1, none⟩ (.int .i64 (j : Int))).drew) := fun D hD =>
        (((Below.refl D W6).setCell (p := ⟨W.heap.size + 1, 0, none⟩) hD _).setCell (p := ⟨W.heap.size + 1, 1, none⟩) hD _).drew
      have hk7 : ∀ k, k ≠ W.heap.size + 1 → (((W6.setCell ⟨W.heap.size + 1, 0, none⟩ (.int .u8 4)).setCell ⟨W.heap.size + 1, 1, none⟩ (.int .i64 (j : Int))).drew).heap[k]? = W6.heap[k]? := fun k hk =>
        (Below.heap_setCell _ ⟨W.heap.size + 1, 1, none⟩ _ k hk).trans (Below.heap_setCell W6 ⟨W.heap.size + 1, 0, none⟩ _ k hk)
      generalize hW7 : World.drew _ = W7 at *
      have r0 : W7.cell? ⟨W.heap.size + 1, 0, none⟩ = some (.int .u8 4) := by rw [block_cell hr7]; rfl
      have r1 : W7.cell? ⟨W.heap.size + 1, 1, none⟩ = some (.int .i64 (j : Int)) := by rw [block_cell hr7]; rfl
      refine bodyPost_ret (v := .agg #[.int .u8 4, .int .i64 (j : Int)]) (by simp [results, Tryz.results25, go_sem, r0, r1]) rfl ⟨by rw [Htr.out], _, ?_, HQ6.out.then_ (hb7 _ (by omega))⟩
      rw [Hvis.out]
      have hX1 : X1 (W.heap.size + 1) := by rw [HX1.out]; exact .inr rfl
      exact (HS6.out.away HR6.out hX1 (by omega) (hb7 _ (by omega)) hk7).other fun r _ hr => by rw [HX1.out]; exact .inl hr
end Go.Proofs.YtdolijagffcfgaaGreatDoor

namespace Go.Proofs.YtdolijagffcfgaaGreatDoor
open Go Go.RowKit Go.Mn
set_option maxHeartbeats 4000000
set_option maxRecDepth 20000

theorem moved_all {B N bm bt : Nat} {hs : Value} {h : Hp} {F : List Nat} (hcl : Cl h) (hh : h.length ≤ 5000) (hkl : ∀ x ∈ h, x.2.2.length ≤ 5000) (hBN : B ≤ N) : ∀ f, Says25 B N bm bt hs h F f := by
  intro f
  induction f with
  | zero =>
    intro X o os ov v W s _ _ _ _ hf _
    have := s.on.le
    omega
  | succ f ih =>
    intro X o os ov v W s hlen hX hN hv hf hp
    obtain ⟨k, n⟩ := v
    dsimp only at hv
    have stay : ∀ u : Vl, visit h (f + 1) o u = o → ∀ (e : Ending) (W' : World), e = .returned (.agg #[.int .u8 (tr F u).1, .int .i64 (tr F u).2]) → Below W.heap.size W W' → Post25 B N bm bt X hs h F (f + 1) o os ov u W e W' := fun u hu e W' he hb => by
      refine ⟨he, ov, ?_, Mq.of hb⟩
      rw [hu, List.drop_length]
      simpa using s.below hb (by omega)
    by_cases h4 : k = 4
    · subst h4
      obtain ⟨i, rfl⟩ := Int.eq_ofNat_of_zero_le (hv rfl).1
      have hi : i < h.length := by simpa using (hv rfl).2
      by_cases hm : i ∈ o
      · have hu : visit h (f + 1) o (4, (i : Int)) = o := visit_old _ _ _ _ (fun hh => hh.2 (by simpa using hm))
        refine (moved_old s i hi hm).mono ?_
        rintro e W' ⟨rfl, hb⟩
        refine stay _ hu _ _ ?_ hb
        rw [hu] at hp
        rw [tr_ref rfl]
        simp only [Int.toNat_natCast]
        rw [idx_prefix hp hm]
      · refine moved_new ih hh hkl s hlen hX hN hBN i hi hm (hcl i) (by omega) ?_
        rw [visit_succ, if_pos ⟨rfl, by simpa using hm⟩] at hp
        simpa using hp
    · have hu : visit h (f + 1) o (k, n) = o := visit_old _ _ _ _ (fun hh => h4 hh.1)
      refine (moved_flat bm k n W h4).mono ?_
      rintro e W' ⟨rfl, hb⟩
      refine stay _ hu _ _ ?_ hb
      rw [tr_other h4]

theorem reached6_no (B : Nat) (s t : Value) (h : Hp) (v : List Vl) (w : World) (hB : B ≤ w.heap.size) (hs : HeapAt B w s h) (ht : ValsAt B w t v) (hask : asked h v = false) :
    Calls Tryz.prog 10 #[s, t] w fun e w' => e = .returned (.tuple #[.slice none 0 0, .slice none 0 0, .int .i64 1]) ∧ Below w.heap.size w w' := by
  have hcall := values6_any B s t h v w hB hs ht
  rw [hask] at hcall
  obtain ⟨p, n, rfl, _⟩ := hs
  obtain ⟨q, m, rfl, _⟩ := ht
  go_enter Tryz.func10, Tryz.ntmps10
  go_wp2_with fail
  refine hcall.mono ?_
  clear hcall
  rintro e w' ⟨rfl, hb⟩
  go_wp2
  go_ret3
  exact ⟨rfl, hb⟩

theorem reached6_yes (B : Nat) (s t : Value) (h : Hp) (v : List Vl) (w : World) (hB : B ≤ w.heap.size) (hs : HeapAt B w s h) (ht : ValsAt B w t v) (hv : v.length ≤ 5000) (hask : asked h v = true) :
    Calls Tryz.prog 10 #[s, t] w fun e w' => ∃ x y, e = .returned (.tuple #[x, y, .int .i64 0]) ∧ HeapAt w'.heap.size w' x (rHeap h v) ∧ ValsAt w'.heap.size w' y (rVals h v) ∧ Below w.heap.size w w' := by
  have hcall := values6_any B s t h v w hB hs ht
  rw [hask] at hcall
  have hcls := (asked_iff.1 hask).1
  have hh := (closedH_iff.1 hcls).1
  have hs0 := hs
  obtain ⟨p, n, rfl, l1, l2, hxx⟩ := hs
  obtain ⟨q, m, rfl, l3, l4, hvc⟩ := ht
  clear hxx
  have Vc := Lib.hid hvc
  have Hs := Lib.hid hs0
  have Hask := Lib.hid hask
  have Hcls := Lib.hid hcls
  clear hvc hs0 hask hcls
  unfold maxLen at l2 l4
  go_enter Tryz.func10, Tryz.ntmps10
  go_wp2_with fail
  refine hcall.mono ?_
  clear hcall
  rintro e w1 ⟨rfl, hb1⟩
  go_wp2_with fail
  refine (none_any h.length hh w1).mono ?_
  rintro e w2 ⟨rfl, hrow2, hb2⟩
  have hz1 := hb1.size
  have hz2 := hb2.size
  have hlt2 := hrow2.lt
  have hbox := World.alloc_heap_new w2 (.cells #[.slice p h.length n, .slice none 0 0, .slice (some ⟨w1.heap.size, 0, none⟩) h.length h.length] 68)
  have Hbox := Lib.hid hbox
  have Hrow2 := Lib.hid hrow2
  have Hb1 := Lib.hid hb1
  have Hb2 := Lib.hid hb2
  clear hbox hrow2 hb1 hb2
  go_wp2_with fail
  generalize hW3 : World.alloc w2 _ = W3
  have z3 : w2.heap.size + 1 ≤ W3.heap.size := by rw [← hW3]; simp
  have b3 : Below w2.heap.size w2 W3 := by rw [← hW3]; exact (Below.refl _ w2).alloc (Nat.le_refl _) _
  have hb3 : Below w.heap.size w W3 := Hb1.out.trans ((Hb2.out.mono hz1).trans (b3.mono (by omega)))
  have S3 : MvSt W3 w.heap.size (w2.heap.size + 1) w2.heap.size w1.heap.size (fun r => (Value.slice none 0 0).ownBlock = some r) (.slice p h.length n) h [] [] (.slice none 0 0) := by
    refine ⟨(Hs.out.mono hB).below hb3, ⟨68, ?_⟩, OwnX.nil _ _ _, ?_, Mn.Good.nil _, ⟨by omega, by omega⟩, by omega, ⟨by omega, by omega⟩⟩
    · rw [← hW3]; exact Hbox.out
    · rw [newRow_nil]
      exact Hrow2.out.kept (b3.block _ hlt2)
  have HS3 := Lib.hid S3
  have Hb3 := Lib.hid hb3
  have hlen : v.length ≤ 5000 := hv
  clear S3 hb3 hW3
  go_loopw [8, 9] (fun s8 s9 wr => ∃ (k : Nat) (ov' : Value), k ≤ v.length ∧ s9 = .int .i64 k ∧ MvSt wr w.heap.size (w2.heap.size + 1) w2.heap.size w1.heap.size (fun r => s8.ownBlock = some r) (.slice p h.length n) h (visits h (h.length + 1) [] (v.take k)) ((visits h (h.length + 1) [] (v.take k)).map (obj h (order h v))) ov' ∧ Mq w2.heap.size w1.heap.size (.slice none 0 0) ov' W3 wr ∧ wr.ownsRow W3.heap.size 49 2 s8 k (flat ((v.take k).map (tr (order h v))))) (fun _ s9 _ => v.length - (intOf s9).toNat)
  case atStart => exact ⟨0, _, Nat.zero_le _, rfl, HS3.out, Mq.refl _ _ _ _, World.ownsRow_nil _ _ _ _⟩
  case round =>
    obtain ⟨k, ov', hk, rfl, hS, hQ, hrow⟩ := hrel
    have hszQ := hQ.size
    by_cases hlt : k < v.length
    · have hx : v[k]? = some v[k] := List.getElem?_eq_getElem hlt
      obtain ⟨e1, q1, rfl, u1, c3, c4⟩ := Vc.out k _ hx
      have hbB : Below w.heap.size w wr := Hb3.out.trans (hQ.below (by omega) (by omega) (fun r e => by simp [Value.ownBlock] at e) (by omega))
      have d1 := (hbB.cell (p := ⟨e1, q1 + k * 2, none⟩) (by show e1 < _; omega)).trans c3
      have d2 := (hbB.cell (p := ⟨e1, q1 + k * 2 + 1, none⟩) (by show e1 < _; omega)).trans c4
      have hstep : visits h (h.length + 1) [] (v.take (k + 1)) = visit h (h.length + 1) (visits h (h.length + 1) [] (v.take k)) v[k] := by
        rw [List.take_add_one, hx, visits_append]
        rfl
      have hpre : visit h (h.length + 1) (visits h (h.length + 1) [] (v.take k)) v[k] <+: order h v := by
        rw [← hstep]
        have := visits_prefix h (h.length + 1) (v.drop (k + 1)) (visits h (h.length + 1) [] (v.take (k + 1)))
        rwa [← visits_append, List.take_append_drop] at this
      have hcall := moved_all (B := w.heap.size) (N := w2.heap.size + 1) (bm := w2.heap.size) (bt := w1.heap.size) (hs := .slice p h.length n) (F := order h v) (closed_cl Hcls.out) hh (fun x hx => okO_len ((closedH_iff.1 Hcls.out).2 x hx).1) (by omega) (h.length + 1)
        (fun r => u8.ownBlock = some r) _ _ ov' v[k] wr hS (List.length_map _) (fun r hr => (row_lt hrow r hr).2) (by omega) (asked_refs Hask.out _ (List.mem_of_getElem? hx)) (by omega) hpre
      have htk : flat ((v.take (k + 1)).map (tr (order h v))) = flat ((v.take k).map (tr (order h v))) ++ [.int .u8 (tr (order h v) v[k]).1, .int .i64 (tr (order h v) v[k]).2] := by
        rw [List.take_add_one, hx, List.map_append, ← flat_snoc]
        rfl
      have hos := objs_step (a := 0) (visit_prefix h (h.length + 1) (visits h (h.length + 1) [] (v.take k)) v[k]) (Nat.zero_le _) [] (obj h (order h v))
      simp only [List.drop_zero, List.nil_append] at hos
      have Hstep := Lib.hid hstep
      have Htk := Lib.hid htk
      have Hos := Lib.hid hos
      have HS := Lib.hid hS
      have HQ := Lib.hid hQ
      have Hrow := Lib.hid hrow
      obtain ⟨j0, hj0, jz0, jz1, jz2⟩ := info_parts info49
      clear hstep htk hos hS hQ hrow hpre hx c3 c4 hbB
      generalize v[k] = xe at *
      go_wp2_with fail
      refine hcall.mono ?_
      clear hcall
      rintro e wn ⟨rfl, ov2, hS2, hQ2⟩
      rw [Hos.out, ← Hstep.out] at hS2
      have row2 : wn.ownsRow W3.heap.size 49 2 u8 k (flat ((v.take k).map (tr (order h v)))) := row_keep Hrow.out fun r e => by
        have hr1 := row_lt Hrow.out r e
        obtain ⟨l2, _, hl2, _⟩ := HS.out.own
        exact hQ2.keep r hr1.2 (by omega) (by omega) fun e2 => row_apart Hrow.out hl2 (by decide) e e2
      have Row2 := Lib.hid row2
      have HS2 := Lib.hid hS2
      have HQ2 := Lib.hid (HQ.out.trans hQ2)
      have z2 := hQ2.size
      generalize tr (order h v) xe = xf at *
      have hnew := cells_new wn [.int .u8 xf.1, .int .i64 xf.2] 49
      have Hnew := Lib.hid hnew
      clear hS2 row2 hQ2 hnew
      go_wp2_with (at_builtin; refine wpList_append_lies rfl _ _ 23 rfl W3.heap.size 49 j0 (.agg #[.int .u8 0, .int .i64 0]) 2 16 Tryz.underlying23 hj0 jz0 jz1 jz2 rfl (by decide) _ _ _ rfl (Row2.out.alloc _) ⟨wn.heap.size, 0, none⟩ 1 1 [.int .u8 xf.1, .int .i64 xf.2] rfl rfl Hnew.out (by simp [Value.oneCell']) (by omega) (by unfold maxLen; omega) (by omega) (by simp; omega) (wn.heap.size + 1) (by simp) ?_; intro g' cap' w3 hown' hgrow hat hlt3; have hgrow' : (wn.alloc (.cells #[.int .u8 xf.1, .int .i64 xf.2] 49)).grownBy w3 u8.ownBlock := hgrow; have hat' : u8.ownBlock = some g' ∨ g' = wn.heap.size + 1 := hat; clear hgrow hat)
      go_roundw
      case rel => exact ⟨k + 1, ov2, by omega, by go_num, (HS2.out.below ((Below.refl _ wn).alloc (Nat.le_refl _) _) (by omega)).grown (by simp; omega) (Row2.out.alloc _) (by omega) (fun r e => e) hgrow' (fun r hr e => by
          have e2 : g' = r := by simpa [Value.ownBlock] using e
          rcases hat' with h5 | h5
          · rw [h5, e2]
          · simp at hr
            omega), HQ2.out.then_ (((Below.refl _ wn).alloc (by omega) _).grown hgrow' (by simp; omega) (fun r e => (row_lt Row2.out r e).1)), by rw [Htk.out]; exact hown'⟩
      case measure => simp [intOf]; omega
    · obtain rfl : k = v.length := by omega
      rw [List.take_length] at hS hrow
      obtain ⟨q8, c8, rfl⟩ := row_slice hrow
      obtain ⟨ty, hmm⟩ := hS.m
      obtain ⟨pp, cc, rfl⟩ := hS.form
      have m1 : wr.cell? ⟨w2.heap.size, 1, none⟩ = some (.slice pp ((visits h (h.length + 1) [] v).map (obj h (order h v))).length cc) := by rw [block_cell hmm]; rfl
      have hfin : HeapAt wr.heap.size wr (.slice pp ((visits h (h.length + 1) [] v).map (obj h (order h v))).length cc) (rHeap h v) := hS.own.own.at
      have hval : ValsAt wr.heap.size wr (.slice q8 v.length c8) (rVals h v) := owned_vals (by
        have hl : (rVals h v).length = v.length := by unfold rVals; rw [List.length_map]
        rw [hl]
        exact hrow)
      have hbel : Below w.heap.size w wr := Hb3.out.trans (hQ.below (by omega) (by omega) (fun r e => by simp [Value.ownBlock] at e) (by omega))
      have Hfin := Lib.hid hfin
      have Hval := Lib.hid hval
      have Hbel := Lib.hid hbel
      clear hfin hval hbel hmm hS hrow hQ
      generalize ((visits h (h.length + 1) [] v).map (obj h (order h v))).length = nn at *
      go_wp2
      go_ret3
      exact ⟨_, _, rfl, Hfin.out, Hval.out, Hbel.out⟩
end Go.Proofs.YtdolijagffcfgaaGreatDoor
