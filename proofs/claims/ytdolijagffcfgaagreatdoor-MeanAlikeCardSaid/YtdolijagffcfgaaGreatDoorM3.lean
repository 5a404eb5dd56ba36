/-
  Calls of this program whose results are known, part 3: each is evaluated by the kernel (written by a program of the workplace).
-/
import Derived.Test.YtdolijagffcfgaaGreatDoorM2
namespace Go.Proofs.YtdolijagffcfgaaGreatDoor
open Go Go.Proofs.YtdolijagffcfgaaGreatDoor.Ev
set_option maxRecDepth 20000
noncomputable def xm47 : Memo := { f := 79, args := [.str [105, 110, 116]], lo := 9, pre := [(1, xsp)], keep := [], out := .bool true }
theorem xm47_ok : MemoOk Tryz.prog 9 xm47 := memoRun_ok (callG_ok (tab := xtab) (F := 1000000) xmix xms3_ok.all 80) (by kernel_rfl)
noncomputable def xm48 : Memo := { f := 113, args := [.str [105, 110, 116]], lo := 9, pre := [], keep := [], out := .tup [.bool false, .int .i64 (.ofNat 0)] }
theorem xm48_ok : MemoOk Tryz.prog 9 xm48 := memoRun_ok (callG_ok (tab := xtab) (F := 1000000) xmix xms3_ok.all 80) (by kernel_rfl)
noncomputable def xm49 : Memo := { f := 113, args := [.str [109, 97, 105, 110]], lo := 9, pre := [(1, xsp)], keep := [], out := .tup [.bool false, .int .i64 (.ofNat 0)] }
theorem xm49_ok : MemoOk Tryz.prog 9 xm49 := memoRun_ok (callG_ok (tab := xtab) (F := 1000000) xmix xms3_ok.all 80) (by kernel_rfl)
noncomputable def xm50 : Memo := { f := 159, args := [.str [105, 110, 116]], lo := 9, pre := [], keep := [], out := .tup [.int .u8 (.ofNat 1), .int .i64 (.ofNat 0)] }
theorem xm50_ok : MemoOk Tryz.prog 9 xm50 := memoRun_ok (callG_ok (tab := xtab) (F := 1000000) xmix xms3_ok.all 80) (by kernel_rfl)
noncomputable def xm51 : Memo := { f := 159, args := [.str [109, 97, 105, 110]], lo := 9, pre := [(1, xsp)], keep := [], out := .tup [.int .u8 (.ofNat 7), .int .i64 (.ofNat 0)] }
theorem xm51_ok : MemoOk Tryz.prog 9 xm51 := memoRun_ok (callG_ok (tab := xtab) (F := 1000000) xmix xms3_ok.all 80) (by kernel_rfl)
noncomputable def xm52 : Memo := { f := 159, args := [.str [117, 112, 116, 111]], lo := 9, pre := [(1, xsp)], keep := [], out := .tup [.int .u8 (.ofNat 7), .int .i64 (.ofNat 0)] }
theorem xm52_ok : MemoOk Tryz.prog 9 xm52 := memoRun_ok (callG_ok (tab := xtab) (F := 1000000) xmix xms3_ok.all 80) (by kernel_rfl)
noncomputable def xms4 : List (Nat × List Memo) := [(205, [xm0]), (285, [xm1]), (275, [xm2]), (192, [xm3, xm4, xm5]), (143, [xm6, xm7, xm8, xm9, xm10, xm11, xm12, xm13, xm14, xm15, xm16, xm17, xm18, xm19, xm20, xm21, xm22, xm23, xm24, xm25, xm26, xm27, xm28, xm29, xm30, xm31, xm32, xm33, xm34, xm35, xm36]), (74, [xm37, xm38, xm39, xm40, xm41, xm42, xm43, xm44, xm45]), (26, [xm46]), (79, [xm47]), (113, [xm48, xm49]), (159, [xm50, xm51, xm52])]
theorem xms4_ok : MsOk Tryz.prog 9 xms4 := ⟨⟨xm0_ok, trivial⟩, ⟨xm1_ok, trivial⟩, ⟨xm2_ok, trivial⟩, ⟨xm3_ok, xm4_ok, xm5_ok, trivial⟩, ⟨xm6_ok, xm7_ok, xm8_ok, xm9_ok, xm10_ok, xm11_ok, xm12_ok, xm13_ok, xm14_ok, xm15_ok, xm16_ok, xm17_ok, xm18_ok, xm19_ok, xm20_ok, xm21_ok, xm22_ok, xm23_ok, xm24_ok, xm25_ok, xm26_ok, xm27_ok, xm28_ok, xm29_ok, xm30_ok, xm31_ok, xm32_ok, xm33_ok, xm34_ok, xm35_ok, xm36_ok, trivial⟩, ⟨xm37_ok, xm38_ok, xm39_ok, xm40_ok, xm41_ok, xm42_ok, xm43_ok, xm44_ok, xm45_ok, trivial⟩, ⟨xm46_ok, trivial⟩, ⟨xm47_ok, trivial⟩, ⟨xm48_ok, xm49_ok, trivial⟩, ⟨xm50_ok, xm51_ok, xm52_ok, trivial⟩, trivial⟩
end Go.Proofs.YtdolijagffcfgaaGreatDoor
