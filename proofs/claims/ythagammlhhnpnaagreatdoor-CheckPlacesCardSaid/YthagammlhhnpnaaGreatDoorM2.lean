/-
  Calls of this program whose results are known, part 2: each is evaluated by the kernel (written by a program of the workplace).
-/
import Derived.Test.YthagammlhhnpnaaGreatDoorM1
namespace Go.Proofs.YthagammlhhnpnaaGreatDoor
open Go Go.Proofs.YthagammlhhnpnaaGreatDoor.Ev
set_option maxRecDepth 20000
noncomputable def xm35 : Memo := { f := 69, args := [.str [105, 110, 99]], lo := 9, pre := [(0, xsp)], keep := [], out := .bool true }
theorem xm35_ok : MemoOk Tryz.prog 9 xm35 := memoRun_ok (callG_ok (tab := xtab) (F := 1000000) xmix xms2_ok.all 80) (by kernel_rfl)
noncomputable def xm36 : Memo := { f := 69, args := [.str [97]], lo := 9, pre := [(0, xsp)], keep := [], out := .bool true }
theorem xm36_ok : MemoOk Tryz.prog 9 xm36 := memoRun_ok (callG_ok (tab := xtab) (F := 1000000) xmix xms2_ok.all 80) (by kernel_rfl)
noncomputable def xm37 : Memo := { f := 69, args := [.str [98, 111, 120]], lo := 9, pre := [(0, xsp)], keep := [], out := .bool true }
theorem xm37_ok : MemoOk Tryz.prog 9 xm37 := memoRun_ok (callG_ok (tab := xtab) (F := 1000000) xmix xms2_ok.all 80) (by kernel_rfl)
noncomputable def xm38 : Memo := { f := 69, args := [.str [110, 101, 119]], lo := 9, pre := [(0, xsp)], keep := [], out := .bool true }
theorem xm38_ok : MemoOk Tryz.prog 9 xm38 := memoRun_ok (callG_ok (tab := xtab) (F := 1000000) xmix xms2_ok.all 80) (by kernel_rfl)
noncomputable def xm39 : Memo := { f := 69, args := [.str [120]], lo := 9, pre := [(0, xsp)], keep := [], out := .bool true }
theorem xm39_ok : MemoOk Tryz.prog 9 xm39 := memoRun_ok (callG_ok (tab := xtab) (F := 1000000) xmix xms2_ok.all 80) (by kernel_rfl)
noncomputable def xm40 : Memo := { f := 69, args := [.str [109, 97, 107, 101]], lo := 9, pre := [(0, xsp)], keep := [], out := .bool true }
theorem xm40_ok : MemoOk Tryz.prog 9 xm40 := memoRun_ok (callG_ok (tab := xtab) (F := 1000000) xmix xms2_ok.all 80) (by kernel_rfl)
noncomputable def xm41 : Memo := { f := 69, args := [.str [103, 101, 116]], lo := 9, pre := [(0, xsp)], keep := [], out := .bool true }
theorem xm41_ok : MemoOk Tryz.prog 9 xm41 := memoRun_ok (callG_ok (tab := xtab) (F := 1000000) xmix xms2_ok.all 80) (by kernel_rfl)
noncomputable def xm42 : Memo := { f := 69, args := [.str [98]], lo := 9, pre := [(0, xsp)], keep := [], out := .bool true }
theorem xm42_ok : MemoOk Tryz.prog 9 xm42 := memoRun_ok (callG_ok (tab := xtab) (F := 1000000) xmix xms2_ok.all 80) (by kernel_rfl)
noncomputable def xm43 : Memo := { f := 69, args := [.str [118]], lo := 9, pre := [(0, xsp)], keep := [], out := .bool true }
theorem xm43_ok : MemoOk Tryz.prog 9 xm43 := memoRun_ok (callG_ok (tab := xtab) (F := 1000000) xmix xms2_ok.all 80) (by kernel_rfl)
noncomputable def xm44 : Memo := { f := 69, args := [.str [109, 97, 105, 110]], lo := 9, pre := [(0, xsp)], keep := [], out := .bool true }
theorem xm44_ok : MemoOk Tryz.prog 9 xm44 := memoRun_ok (callG_ok (tab := xtab) (F := 1000000) xmix xms2_ok.all 80) (by kernel_rfl)
noncomputable def xm45 : Memo := { f := 69, args := [.str [112]], lo := 9, pre := [(0, xsp)], keep := [], out := .bool true }
theorem xm45_ok : MemoOk Tryz.prog 9 xm45 := memoRun_ok (callG_ok (tab := xtab) (F := 1000000) xmix xms2_ok.all 80) (by kernel_rfl)
noncomputable def xm46 : Memo := { f := 94, args := [.str [105, 110, 99]], lo := 9, pre := [], keep := [], out := .bool true }
theorem xm46_ok : MemoOk Tryz.prog 9 xm46 := memoRun_ok (callG_ok (tab := xtab) (F := 1000000) xmix xms2_ok.all 80) (by kernel_rfl)
noncomputable def xm47 : Memo := { f := 94, args := [.str [97]], lo := 9, pre := [], keep := [], out := .bool true }
theorem xm47_ok : MemoOk Tryz.prog 9 xm47 := memoRun_ok (callG_ok (tab := xtab) (F := 1000000) xmix xms2_ok.all 80) (by kernel_rfl)
noncomputable def xm48 : Memo := { f := 94, args := [.str []], lo := 9, pre := [], keep := [], out := .bool false }
theorem xm48_ok : MemoOk Tryz.prog 9 xm48 := memoRun_ok (callG_ok (tab := xtab) (F := 1000000) xmix xms2_ok.all 80) (by kernel_rfl)
noncomputable def xm49 : Memo := { f := 94, args := [.str [43]], lo := 9, pre := [], keep := [], out := .bool false }
theorem xm49_ok : MemoOk Tryz.prog 9 xm49 := memoRun_ok (callG_ok (tab := xtab) (F := 1000000) xmix xms2_ok.all 80) (by kernel_rfl)
noncomputable def xm50 : Memo := { f := 94, args := [.str [98, 111, 120]], lo := 9, pre := [], keep := [], out := .bool true }
theorem xm50_ok : MemoOk Tryz.prog 9 xm50 := memoRun_ok (callG_ok (tab := xtab) (F := 1000000) xmix xms2_ok.all 80) (by kernel_rfl)
noncomputable def xm51 : Memo := { f := 94, args := [.str [110, 101, 119]], lo := 9, pre := [], keep := [], out := .bool true }
theorem xm51_ok : MemoOk Tryz.prog 9 xm51 := memoRun_ok (callG_ok (tab := xtab) (F := 1000000) xmix xms2_ok.all 80) (by kernel_rfl)
noncomputable def xm52 : Memo := { f := 94, args := [.str [120]], lo := 9, pre := [], keep := [], out := .bool true }
theorem xm52_ok : MemoOk Tryz.prog 9 xm52 := memoRun_ok (callG_ok (tab := xtab) (F := 1000000) xmix xms2_ok.all 80) (by kernel_rfl)
noncomputable def xm53 : Memo := { f := 94, args := [.str [109, 97, 107, 101]], lo := 9, pre := [], keep := [], out := .bool true }
theorem xm53_ok : MemoOk Tryz.prog 9 xm53 := memoRun_ok (callG_ok (tab := xtab) (F := 1000000) xmix xms2_ok.all 80) (by kernel_rfl)
noncomputable def xm54 : Memo := { f := 94, args := [.str [103, 101, 116]], lo := 9, pre := [], keep := [], out := .bool true }
theorem xm54_ok : MemoOk Tryz.prog 9 xm54 := memoRun_ok (callG_ok (tab := xtab) (F := 1000000) xmix xms2_ok.all 80) (by kernel_rfl)
noncomputable def xm55 : Memo := { f := 94, args := [.str [98]], lo := 9, pre := [], keep := [], out := .bool true }
theorem xm55_ok : MemoOk Tryz.prog 9 xm55 := memoRun_ok (callG_ok (tab := xtab) (F := 1000000) xmix xms2_ok.all 80) (by kernel_rfl)
noncomputable def xm56 : Memo := { f := 94, args := [.str [118]], lo := 9, pre := [], keep := [], out := .bool true }
theorem xm56_ok : MemoOk Tryz.prog 9 xm56 := memoRun_ok (callG_ok (tab := xtab) (F := 1000000) xmix xms2_ok.all 80) (by kernel_rfl)
noncomputable def xm57 : Memo := { f := 94, args := [.str [109, 97, 105, 110]], lo := 9, pre := [], keep := [], out := .bool true }
theorem xm57_ok : MemoOk Tryz.prog 9 xm57 := memoRun_ok (callG_ok (tab := xtab) (F := 1000000) xmix xms2_ok.all 80) (by kernel_rfl)
noncomputable def xm58 : Memo := { f := 94, args := [.str [112]], lo := 9, pre := [], keep := [], out := .bool true }
theorem xm58_ok : MemoOk Tryz.prog 9 xm58 := memoRun_ok (callG_ok (tab := xtab) (F := 1000000) xmix xms2_ok.all 80) (by kernel_rfl)
noncomputable def xms3 : List (Nat × List Memo) := [(197, [xm0]), (255, [xm1]), (363, [xm2]), (133, [xm3, xm4, xm5, xm6, xm7, xm8]), (169, [xm9, xm10, xm11, xm12, xm13, xm14, xm15, xm16, xm17, xm18, xm19, xm20, xm21, xm22, xm23, xm24, xm25, xm26, xm27, xm28, xm29, xm30, xm31, xm32, xm33, xm34]), (69, [xm35, xm36, xm37, xm38, xm39, xm40, xm41, xm42, xm43, xm44, xm45]), (94, [xm46, xm47, xm48, xm49, xm50, xm51, xm52, xm53, xm54, xm55, xm56, xm57, xm58])]
theorem xms3_ok : MsOk Tryz.prog 9 xms3 := ⟨⟨xm0_ok, trivial⟩, ⟨xm1_ok, trivial⟩, ⟨xm2_ok, trivial⟩, ⟨xm3_ok, xm4_ok, xm5_ok, xm6_ok, xm7_ok, xm8_ok, trivial⟩, ⟨xm9_ok, xm10_ok, xm11_ok, xm12_ok, xm13_ok, xm14_ok, xm15_ok, xm16_ok, xm17_ok, xm18_ok, xm19_ok, xm20_ok, xm21_ok, xm22_ok, xm23_ok, xm24_ok, xm25_ok, xm26_ok, xm27_ok, xm28_ok, xm29_ok, xm30_ok, xm31_ok, xm32_ok, xm33_ok, xm34_ok, trivial⟩, ⟨xm35_ok, xm36_ok, xm37_ok, xm38_ok, xm39_ok, xm40_ok, xm41_ok, xm42_ok, xm43_ok, xm44_ok, xm45_ok, trivial⟩, ⟨xm46_ok, xm47_ok, xm48_ok, xm49_ok, xm50_ok, xm51_ok, xm52_ok, xm53_ok, xm54_ok, xm55_ok, xm56_ok, xm57_ok, xm58_ok, trivial⟩, trivial⟩
end Go.Proofs.YthagammlhhnpnaaGreatDoor
