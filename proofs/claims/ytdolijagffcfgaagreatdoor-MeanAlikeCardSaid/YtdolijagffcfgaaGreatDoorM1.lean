/-
  Calls of this program whose results are known, part 1: each is evaluated by the kernel (written by a program of the workplace).
-/
import Derived.Test.YtdolijagffcfgaaGreatDoorM0
namespace Go.Proofs.YtdolijagffcfgaaGreatDoor
open Go Go.Proofs.YtdolijagffcfgaaGreatDoor.Ev
set_option maxRecDepth 20000
noncomputable def xm3 : Memo := { f := 192, args := [.str [105, 110, 116]], lo := 9, pre := [], keep := [], out := .tup [.agg [.int .u8 (.ofNat 1), .str [], .nils], .int .i64 (.ofNat 0)] }
theorem xm3_ok : MemoOk Tryz.prog 9 xm3 := memoRun_ok (callG_ok (tab := xtab) (F := 1000000) xmix xms1_ok.all 80) (by kernel_rfl)
noncomputable def xm4 : Memo := { f := 192, args := [.str [117, 112, 116, 111]], lo := 9, pre := [(1, xsp)], keep := [], out := .tup [.agg [.int .u8 (.ofNat 7), .str [117, 112, 116, 111], .nils], .int .i64 (.ofNat 0)] }
theorem xm4_ok : MemoOk Tryz.prog 9 xm4 := memoRun_ok (callG_ok (tab := xtab) (F := 1000000) xmix xms1_ok.all 80) (by kernel_rfl)
noncomputable def xm5 : Memo := { f := 192, args := [.str [109, 97, 105, 110]], lo := 9, pre := [(1, xsp)], keep := [], out := .tup [.agg [.int .u8 (.ofNat 7), .str [109, 97, 105, 110], .nils], .int .i64 (.ofNat 0)] }
theorem xm5_ok : MemoOk Tryz.prog 9 xm5 := memoRun_ok (callG_ok (tab := xtab) (F := 1000000) xmix xms1_ok.all 80) (by kernel_rfl)
noncomputable def xm6 : Memo := { f := 143, args := [.str [105, 116, 101, 114]], lo := 9, pre := [(1, xsp)], keep := [], out := .bool true }
theorem xm6_ok : MemoOk Tryz.prog 9 xm6 := memoRun_ok (callG_ok (tab := xtab) (F := 1000000) xmix xms1_ok.all 80) (by kernel_rfl)
noncomputable def xm7 : Memo := { f := 143, args := [.str [117, 112, 116, 111]], lo := 9, pre := [(1, xsp)], keep := [], out := .bool false }
theorem xm7_ok : MemoOk Tryz.prog 9 xm7 := memoRun_ok (callG_ok (tab := xtab) (F := 1000000) xmix xms1_ok.all 80) (by kernel_rfl)
noncomputable def xm8 : Memo := { f := 143, args := [.str [98]], lo := 9, pre := [(1, xsp)], keep := [], out := .bool false }
theorem xm8_ok : MemoOk Tryz.prog 9 xm8 := memoRun_ok (callG_ok (tab := xtab) (F := 1000000) xmix xms1_ok.all 80) (by kernel_rfl)
noncomputable def xm9 : Memo := { f := 143, args := [.str [105, 110, 116]], lo := 9, pre := [(1, xsp)], keep := [], out := .bool true }
theorem xm9_ok : MemoOk Tryz.prog 9 xm9 := memoRun_ok (callG_ok (tab := xtab) (F := 1000000) xmix xms1_ok.all 80) (by kernel_rfl)
noncomputable def xm10 : Memo := { f := 143, args := [.str [121, 105, 101, 108, 100, 115]], lo := 9, pre := [(1, xsp)], keep := [], out := .bool true }
theorem xm10_ok : MemoOk Tryz.prog 9 xm10 := memoRun_ok (callG_ok (tab := xtab) (F := 1000000) xmix xms1_ok.all 80) (by kernel_rfl)
noncomputable def xm11 : Memo := { f := 143, args := [.str [105, 115]], lo := 9, pre := [(1, xsp)], keep := [], out := .bool true }
theorem xm11_ok : MemoOk Tryz.prog 9 xm11 := memoRun_ok (callG_ok (tab := xtab) (F := 1000000) xmix xms1_ok.all 80) (by kernel_rfl)
noncomputable def xm12 : Memo := { f := 143, args := [.str [118, 97, 114]], lo := 9, pre := [(1, xsp)], keep := [], out := .bool true }
theorem xm12_ok : MemoOk Tryz.prog 9 xm12 := memoRun_ok (callG_ok (tab := xtab) (F := 1000000) xmix xms1_ok.all 80) (by kernel_rfl)
noncomputable def xm13 : Memo := { f := 143, args := [.str [105]], lo := 9, pre := [(1, xsp)], keep := [], out := .bool false }
theorem xm13_ok : MemoOk Tryz.prog 9 xm13 := memoRun_ok (callG_ok (tab := xtab) (F := 1000000) xmix xms1_ok.all 80) (by kernel_rfl)
noncomputable def xm14 : Memo := { f := 143, args := [.str [119, 104, 105, 108, 101]], lo := 9, pre := [(1, xsp)], keep := [], out := .bool true }
theorem xm14_ok : MemoOk Tryz.prog 9 xm14 := memoRun_ok (callG_ok (tab := xtab) (F := 1000000) xmix xms1_ok.all 80) (by kernel_rfl)
noncomputable def xm15 : Memo := { f := 143, args := [.str [100, 111]], lo := 9, pre := [(1, xsp)], keep := [], out := .bool true }
theorem xm15_ok : MemoOk Tryz.prog 9 xm15 := memoRun_ok (callG_ok (tab := xtab) (F := 1000000) xmix xms1_ok.all 80) (by kernel_rfl)
noncomputable def xm16 : Memo := { f := 143, args := [.str [121, 105, 101, 108, 100]], lo := 9, pre := [(1, xsp)], keep := [], out := .bool true }
theorem xm16_ok : MemoOk Tryz.prog 9 xm16 := memoRun_ok (callG_ok (tab := xtab) (F := 1000000) xmix xms1_ok.all 80) (by kernel_rfl)
noncomputable def xm17 : Memo := { f := 143, args := [.str [101, 110, 100]], lo := 9, pre := [(1, xsp)], keep := [], out := .bool true }
theorem xm17_ok : MemoOk Tryz.prog 9 xm17 := memoRun_ok (callG_ok (tab := xtab) (F := 1000000) xmix xms1_ok.all 80) (by kernel_rfl)
noncomputable def xm18 : Memo := { f := 143, args := [.str [112, 114, 111, 99]], lo := 9, pre := [(1, xsp)], keep := [], out := .bool true }
theorem xm18_ok : MemoOk Tryz.prog 9 xm18 := memoRun_ok (callG_ok (tab := xtab) (F := 1000000) xmix xms1_ok.all 80) (by kernel_rfl)
noncomputable def xm19 : Memo := { f := 143, args := [.str [109, 97, 105, 110]], lo := 9, pre := [(1, xsp)], keep := [], out := .bool false }
theorem xm19_ok : MemoOk Tryz.prog 9 xm19 := memoRun_ok (callG_ok (tab := xtab) (F := 1000000) xmix xms1_ok.all 80) (by kernel_rfl)
noncomputable def xm20 : Memo := { f := 143, args := [.str [110]], lo := 9, pre := [(1, xsp)], keep := [], out := .bool false }
theorem xm20_ok : MemoOk Tryz.prog 9 xm20 := memoRun_ok (callG_ok (tab := xtab) (F := 1000000) xmix xms1_ok.all 80) (by kernel_rfl)
noncomputable def xm21 : Memo := { f := 143, args := [.str [114, 101, 116, 117, 114, 110, 115]], lo := 9, pre := [(1, xsp)], keep := [], out := .bool true }
theorem xm21_ok : MemoOk Tryz.prog 9 xm21 := memoRun_ok (callG_ok (tab := xtab) (F := 1000000) xmix xms1_ok.all 80) (by kernel_rfl)
noncomputable def xm22 : Memo := { f := 143, args := [.str [115, 105, 103, 110, 97, 108, 115]], lo := 9, pre := [(1, xsp)], keep := [], out := .bool true }
theorem xm22_ok : MemoOk Tryz.prog 9 xm22 := memoRun_ok (callG_ok (tab := xtab) (F := 1000000) xmix xms1_ok.all 80) (by kernel_rfl)
noncomputable def xm23 : Memo := { f := 143, args := [.str [108, 111, 119]], lo := 9, pre := [(1, xsp)], keep := [], out := .bool false }
theorem xm23_ok : MemoOk Tryz.prog 9 xm23 := memoRun_ok (callG_ok (tab := xtab) (F := 1000000) xmix xms1_ok.all 80) (by kernel_rfl)
noncomputable def xm24 : Memo := { f := 143, args := [.str [105, 102]], lo := 9, pre := [(1, xsp)], keep := [], out := .bool true }
theorem xm24_ok : MemoOk Tryz.prog 9 xm24 := memoRun_ok (callG_ok (tab := xtab) (F := 1000000) xmix xms1_ok.all 80) (by kernel_rfl)
noncomputable def xm25 : Memo := { f := 143, args := [.str [116, 104, 101, 110]], lo := 9, pre := [(1, xsp)], keep := [], out := .bool true }
theorem xm25_ok : MemoOk Tryz.prog 9 xm25 := memoRun_ok (callG_ok (tab := xtab) (F := 1000000) xmix xms1_ok.all 80) (by kernel_rfl)
noncomputable def xm26 : Memo := { f := 143, args := [.str [115, 105, 103, 110, 97, 108]], lo := 9, pre := [(1, xsp)], keep := [], out := .bool true }
theorem xm26_ok : MemoOk Tryz.prog 9 xm26 := memoRun_ok (callG_ok (tab := xtab) (F := 1000000) xmix xms1_ok.all 80) (by kernel_rfl)
noncomputable def xm27 : Memo := { f := 143, args := [.str [115]], lo := 9, pre := [(1, xsp)], keep := [], out := .bool false }
theorem xm27_ok : MemoOk Tryz.prog 9 xm27 := memoRun_ok (callG_ok (tab := xtab) (F := 1000000) xmix xms1_ok.all 80) (by kernel_rfl)
noncomputable def xm28 : Memo := { f := 143, args := [.str [98, 101, 103, 105, 110]], lo := 9, pre := [(1, xsp)], keep := [], out := .bool true }
theorem xm28_ok : MemoOk Tryz.prog 9 xm28 := memoRun_ok (callG_ok (tab := xtab) (F := 1000000) xmix xms1_ok.all 80) (by kernel_rfl)
noncomputable def xm29 : Memo := { f := 143, args := [.str [102, 111, 114]], lo := 9, pre := [(1, xsp)], keep := [], out := .bool true }
theorem xm29_ok : MemoOk Tryz.prog 9 xm29 := memoRun_ok (callG_ok (tab := xtab) (F := 1000000) xmix xms1_ok.all 80) (by kernel_rfl)
noncomputable def xm30 : Memo := { f := 143, args := [.str [120]], lo := 9, pre := [(1, xsp)], keep := [], out := .bool false }
theorem xm30_ok : MemoOk Tryz.prog 9 xm30 := memoRun_ok (callG_ok (tab := xtab) (F := 1000000) xmix xms1_ok.all 80) (by kernel_rfl)
noncomputable def xm31 : Memo := { f := 143, args := [.str [105, 110]], lo := 9, pre := [(1, xsp)], keep := [], out := .bool true }
theorem xm31_ok : MemoOk Tryz.prog 9 xm31 := memoRun_ok (callG_ok (tab := xtab) (F := 1000000) xmix xms1_ok.all 80) (by kernel_rfl)
noncomputable def xm32 : Memo := { f := 143, args := [.str [112, 117, 116]], lo := 9, pre := [(1, xsp)], keep := [], out := .bool true }
theorem xm32_ok : MemoOk Tryz.prog 9 xm32 := memoRun_ok (callG_ok (tab := xtab) (F := 1000000) xmix xms1_ok.all 80) (by kernel_rfl)
noncomputable def xm33 : Memo := { f := 143, args := [.str [98, 105, 103]], lo := 9, pre := [(1, xsp)], keep := [], out := .bool false }
theorem xm33_ok : MemoOk Tryz.prog 9 xm33 := memoRun_ok (callG_ok (tab := xtab) (F := 1000000) xmix xms1_ok.all 80) (by kernel_rfl)
noncomputable def xm34 : Memo := { f := 143, args := [.str [101, 120, 99, 101, 112, 116]], lo := 9, pre := [(1, xsp)], keep := [], out := .bool true }
theorem xm34_ok : MemoOk Tryz.prog 9 xm34 := memoRun_ok (callG_ok (tab := xtab) (F := 1000000) xmix xms1_ok.all 80) (by kernel_rfl)
noncomputable def xm35 : Memo := { f := 143, args := [.str [119, 104, 101, 110]], lo := 9, pre := [(1, xsp)], keep := [], out := .bool true }
theorem xm35_ok : MemoOk Tryz.prog 9 xm35 := memoRun_ok (callG_ok (tab := xtab) (F := 1000000) xmix xms1_ok.all 80) (by kernel_rfl)
noncomputable def xm36 : Memo := { f := 143, args := [.str [114, 101, 116, 117, 114, 110]], lo := 9, pre := [(1, xsp)], keep := [], out := .bool true }
theorem xm36_ok : MemoOk Tryz.prog 9 xm36 := memoRun_ok (callG_ok (tab := xtab) (F := 1000000) xmix xms1_ok.all 80) (by kernel_rfl)
noncomputable def xms2 : List (Nat × List Memo) := [(205, [xm0]), (285, [xm1]), (275, [xm2]), (192, [xm3, xm4, xm5]), (143, [xm6, xm7, xm8, xm9, xm10, xm11, xm12, xm13, xm14, xm15, xm16, xm17, xm18, xm19, xm20, xm21, xm22, xm23, xm24, xm25, xm26, xm27, xm28, xm29, xm30, xm31, xm32, xm33, xm34, xm35, xm36])]
theorem xms2_ok : MsOk Tryz.prog 9 xms2 := ⟨⟨xm0_ok, trivial⟩, ⟨xm1_ok, trivial⟩, ⟨xm2_ok, trivial⟩, ⟨xm3_ok, xm4_ok, xm5_ok, trivial⟩, ⟨xm6_ok, xm7_ok, xm8_ok, xm9_ok, xm10_ok, xm11_ok, xm12_ok, xm13_ok, xm14_ok, xm15_ok, xm16_ok, xm17_ok, xm18_ok, xm19_ok, xm20_ok, xm21_ok, xm22_ok, xm23_ok, xm24_ok, xm25_ok, xm26_ok, xm27_ok, xm28_ok, xm29_ok, xm30_ok, xm31_ok, xm32_ok, xm33_ok, xm34_ok, xm35_ok, xm36_ok, trivial⟩, trivial⟩
end Go.Proofs.YtdolijagffcfgaaGreatDoor
