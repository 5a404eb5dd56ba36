/-
  Calls of this program whose results are known, part 2: each is evaluated by the kernel (written by a program of the workplace).
-/
import Derived.Test.YtdolijagffcfgaaGreatDoorM1
namespace Go.Proofs.YtdolijagffcfgaaGreatDoor
open Go Go.Proofs.YtdolijagffcfgaaGreatDoor.Ev
set_option maxRecDepth 20000
noncomputable def xm37 : Memo := { f := 74, args := [.str [117, 112, 116, 111]], lo := 9, pre := [(1, xsp)], keep := [], out := .bool true }
theorem xm37_ok : MemoOk Tryz.prog 9 xm37 := memoRun_ok (callG_ok (tab := xtab) (F := 1000000) xmix xms2_ok.all 80) (by kernel_rfl)
noncomputable def xm38 : Memo := { f := 74, args := [.str [98]], lo := 9, pre := [(1, xsp)], keep := [], out := .bool true }
theorem xm38_ok : MemoOk Tryz.prog 9 xm38 := memoRun_ok (callG_ok (tab := xtab) (F := 1000000) xmix xms2_ok.all 80) (by kernel_rfl)
noncomputable def xm39 : Memo := { f := 74, args := [.str [105]], lo := 9, pre := [(1, xsp)], keep := [], out := .bool true }
theorem xm39_ok : MemoOk Tryz.prog 9 xm39 := memoRun_ok (callG_ok (tab := xtab) (F := 1000000) xmix xms2_ok.all 80) (by kernel_rfl)
noncomputable def xm40 : Memo := { f := 74, args := [.str [109, 97, 105, 110]], lo := 9, pre := [(1, xsp)], keep := [], out := .bool true }
theorem xm40_ok : MemoOk Tryz.prog 9 xm40 := memoRun_ok (callG_ok (tab := xtab) (F := 1000000) xmix xms2_ok.all 80) (by kernel_rfl)
noncomputable def xm41 : Memo := { f := 74, args := [.str [108, 111, 119]], lo := 9, pre := [(1, xsp)], keep := [], out := .bool true }
theorem xm41_ok : MemoOk Tryz.prog 9 xm41 := memoRun_ok (callG_ok (tab := xtab) (F := 1000000) xmix xms2_ok.all 80) (by kernel_rfl)
noncomputable def xm42 : Memo := { f := 74, args := [.str [110]], lo := 9, pre := [(1, xsp)], keep := [], out := .bool true }
theorem xm42_ok : MemoOk Tryz.prog 9 xm42 := memoRun_ok (callG_ok (tab := xtab) (F := 1000000) xmix xms2_ok.all 80) (by kernel_rfl)
noncomputable def xm43 : Memo := { f := 74, args := [.str [115]], lo := 9, pre := [(1, xsp)], keep := [], out := .bool true }
theorem xm43_ok : MemoOk Tryz.prog 9 xm43 := memoRun_ok (callG_ok (tab := xtab) (F := 1000000) xmix xms2_ok.all 80) (by kernel_rfl)
noncomputable def xm44 : Memo := { f := 74, args := [.str [120]], lo := 9, pre := [(1, xsp)], keep := [], out := .bool true }
theorem xm44_ok : MemoOk Tryz.prog 9 xm44 := memoRun_ok (callG_ok (tab := xtab) (F := 1000000) xmix xms2_ok.all 80) (by kernel_rfl)
noncomputable def xm45 : Memo := { f := 74, args := [.str [98, 105, 103]], lo := 9, pre := [(1, xsp)], keep := [], out := .bool true }
theorem xm45_ok : MemoOk Tryz.prog 9 xm45 := memoRun_ok (callG_ok (tab := xtab) (F := 1000000) xmix xms2_ok.all 80) (by kernel_rfl)
noncomputable def xm46 : Memo := { f := 26, args := [.str [105, 110, 116]], lo := 9, pre := [(1, xsp)], keep := [(23, .cells 79 [.int .u8 (.ofNat 2), .str [105, 110, 116], .int .i64 (.ofNat 1)] true false)], out := .tup [.slice 23 0 3 1 none, .agg [.int .i64 (.ofNat 0), .int .i64 (.ofNat 0)]] }
theorem xm46_ok : MemoOk Tryz.prog 9 xm46 := memoRun_ok (callG_ok (tab := xtab) (F := 1000000) xmix xms2_ok.all 80) (by kernel_rfl)
noncomputable def xms3 : List (Nat × List Memo) := [(205, [xm0]), (285, [xm1]), (275, [xm2]), (192, [xm3, xm4, xm5]), (143, [xm6, xm7, xm8, xm9, xm10, xm11, xm12, xm13, xm14, xm15, xm16, xm17, xm18, xm19, xm20, xm21, xm22, xm23, xm24, xm25, xm26, xm27, xm28, xm29, xm30, xm31, xm32, xm33, xm34, xm35, xm36]), (74, [xm37, xm38, xm39, xm40, xm41, xm42, xm43, xm44, xm45]), (26, [xm46])]
theorem xms3_ok : MsOk Tryz.prog 9 xms3 := ⟨⟨xm0_ok, trivial⟩, ⟨xm1_ok, trivial⟩, ⟨xm2_ok, trivial⟩, ⟨xm3_ok, xm4_ok, xm5_ok, trivial⟩, ⟨xm6_ok, xm7_ok, xm8_ok, xm9_ok, xm10_ok, xm11_ok, xm12_ok, xm13_ok, xm14_ok, xm15_ok, xm16_ok, xm17_ok, xm18_ok, xm19_ok, xm20_ok, xm21_ok, xm22_ok, xm23_ok, xm24_ok, xm25_ok, xm26_ok, xm27_ok, xm28_ok, xm29_ok, xm30_ok, xm31_ok, xm32_ok, xm33_ok, xm34_ok, xm35_ok, xm36_ok, trivial⟩, ⟨xm37_ok, xm38_ok, xm39_ok, xm40_ok, xm41_ok, xm42_ok, xm43_ok, xm44_ok, xm45_ok, trivial⟩, ⟨xm46_ok, trivial⟩, trivial⟩
end Go.Proofs.YtdolijagffcfgaaGreatDoor
