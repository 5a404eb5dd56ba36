/-
  Calls of this program whose results are known, part 9: each is evaluated by the kernel (written by a program of the workplace).
-/
import Derived.Test.YthagammlhhnpnaaGreatDoorM8
namespace Go.Proofs.YthagammlhhnpnaaGreatDoor
open Go Go.Proofs.YthagammlhhnpnaaGreatDoor.Ev
set_option maxRecDepth 20000
noncomputable def xm87 : Memo := { f := 8, args := [], lo := 9, pre := [(0, xsp)], keep := [], out := .bool true }
theorem xm87_ok : MemoOk Tryz.prog 9 xm87 := memoRun_ok (callG_ok (tab := xtab) (F := 1000000) xmix xms9_ok.all 80) (by kernel_rfl)
noncomputable def xmsZ : List (Nat × List Memo) := [(197, [xm0]), (255, [xm1]), (363, [xm2]), (133, [xm3, xm4, xm5, xm6, xm7, xm8]), (169, [xm9, xm10, xm11, xm12, xm13, xm14, xm15, xm16, xm17, xm18, xm19, xm20, xm21, xm22, xm23, xm24, xm25, xm26, xm27, xm28, xm29, xm30, xm31, xm32, xm33, xm34]), (69, [xm35, xm36, xm37, xm38, xm39, xm40, xm41, xm42, xm43, xm44, xm45]), (94, [xm46, xm47, xm48, xm49, xm50, xm51, xm52, xm53, xm54, xm55, xm56, xm57, xm58]), (56, [xm59, xm60, xm61, xm62, xm63, xm64, xm65, xm66, xm67, xm68]), (99, [xm69, xm70, xm71, xm72, xm73]), (114, [xm74, xm75, xm76, xm77, xm78]), (11, [xm79, xm80]), (15, [xm81, xm82, xm83, xm84]), (10, [xm85]), (30, [xm86]), (8, [xm87])]
theorem xmsZ_ok : MsOk Tryz.prog 9 xmsZ := ⟨⟨xm0_ok, trivial⟩, ⟨xm1_ok, trivial⟩, ⟨xm2_ok, trivial⟩, ⟨xm3_ok, xm4_ok, xm5_ok, xm6_ok, xm7_ok, xm8_ok, trivial⟩, ⟨xm9_ok, xm10_ok, xm11_ok, xm12_ok, xm13_ok, xm14_ok, xm15_ok, xm16_ok, xm17_ok, xm18_ok, xm19_ok, xm20_ok, xm21_ok, xm22_ok, xm23_ok, xm24_ok, xm25_ok, xm26_ok, xm27_ok, xm28_ok, xm29_ok, xm30_ok, xm31_ok, xm32_ok, xm33_ok, xm34_ok, trivial⟩, ⟨xm35_ok, xm36_ok, xm37_ok, xm38_ok, xm39_ok, xm40_ok, xm41_ok, xm42_ok, xm43_ok, xm44_ok, xm45_ok, trivial⟩, ⟨xm46_ok, xm47_ok, xm48_ok, xm49_ok, xm50_ok, xm51_ok, xm52_ok, xm53_ok, xm54_ok, xm55_ok, xm56_ok, xm57_ok, xm58_ok, trivial⟩, ⟨xm59_ok, xm60_ok, xm61_ok, xm62_ok, xm63_ok, xm64_ok, xm65_ok, xm66_ok, xm67_ok, xm68_ok, trivial⟩, ⟨xm69_ok, xm70_ok, xm71_ok, xm72_ok, xm73_ok, trivial⟩, ⟨xm74_ok, xm75_ok, xm76_ok, xm77_ok, xm78_ok, trivial⟩, ⟨xm79_ok, xm80_ok, trivial⟩, ⟨xm81_ok, xm82_ok, xm83_ok, xm84_ok, trivial⟩, ⟨xm85_ok, trivial⟩, ⟨xm86_ok, trivial⟩, ⟨xm87_ok, trivial⟩, trivial⟩
end Go.Proofs.YthagammlhhnpnaaGreatDoor
