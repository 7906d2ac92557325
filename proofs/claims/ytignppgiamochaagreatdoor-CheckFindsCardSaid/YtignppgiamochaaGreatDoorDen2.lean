/- The functions of the program are what is printed (checked by the kernel), part 2. -/
import Derived.Test.YtignppgiamochaaGreatDoorDen0
set_option linter.unusedVariables false
set_option linter.unusedSimpArgs false
namespace Go.AM
open Go Go.Proofs
set_option maxRecDepth 100000
noncomputable section
theorem d20 : Xu (20, f20) := Xw [0, 2] Tryz.func20 (by kernel_rfl)
theorem d33 : Xu (33, f33) := Xw [3, 0, 4, 2] Tryz.func33 (by kernel_rfl)
theorem d43 : Xu (43, f43) := Xw [0, 2] Tryz.func43 (by kernel_rfl)
theorem d57 : Xu (57, f57) := Xw [6, 25, 26, 27, 3, 9, 10, 11, 0, 2] Tryz.func57 (by kernel_rfl)
theorem d70 : Xu (70, f70) := Xw [5, 3, 12, 13, 14, 0, 2] Tryz.func70 (by kernel_rfl)
theorem d76 : Xu (76, f76) := Xw [70, 71, 72, 3, 2, 47, 48, 49, 35, 36, 37, 5, 23, 24, 25, 1, 0, 4] Tryz.func76 (by kernel_rfl)
theorem d87 : Xu (87, f87) := Xw [2, 1, 0, 6] Tryz.func87 (by kernel_rfl)
theorem d93 : Xu (93, f93) := Xw [1, 0] Tryz.func93 (by kernel_rfl)
theorem d101 : Xu (101, f101) := Xw [1, 0, 4] Tryz.func101 (by kernel_rfl)
theorem d109 : Xu (109, f109) := Xw [11, 10, 38, 39, 40, 8, 7, 6, 9, 1, 0, 2, 3, 4] Tryz.func109 (by kernel_rfl)
theorem d115 : Xu (115, f115) := Xw [1, 0, 4] Tryz.func115 (by kernel_rfl)
theorem d130 : Xu (130, f130) := Xw [4, 5, 19, 20, 21, 0, 2, 1, 6] Tryz.func130 (by kernel_rfl)
theorem d145 : Xu (145, f145) := Xw [11, 18, 17, 16, 15, 0, 2, 1, 3, 8] Tryz.func145 (by kernel_rfl)
theorem d156 : Xu (156, f156) := Xw [1, 7, 8, 0, 4] Tryz.func156 (by kernel_rfl)
theorem d163 : Xu (163, f163) := Xw [17, 18, 0, 2] Tryz.func163 (by kernel_rfl)
theorem d169 : Xu (169, f169) := Xw [0, 1, 4] Tryz.func169 (by kernel_rfl)
theorem d175 : Xu (175, f175) := Xw [1, 0, 4, 5] Tryz.func175 (by kernel_rfl)
theorem d182 : Xu (182, f182) := Xw [1, 0, 4] Tryz.func182 (by kernel_rfl)
theorem d189 : Xu (189, f189) := Xw [3, 7, 8, 9, 0, 2] Tryz.func189 (by kernel_rfl)
theorem d197 : Xu (197, f197) := Xw [1, 0, 4] Tryz.func197 (by kernel_rfl)
theorem d216 : Xu (216, f216) := Xw [0, 3, 9, 2, 8, 1] Tryz.func216 (by kernel_rfl)
theorem d232 : Xu (232, f232) := Xw [4, 0, 2, 3] Tryz.func232 (by kernel_rfl)
theorem d239 : Xu (239, f239) := Xw [9, 2, 11, 8, 14, 15, 16, 1, 0, 6, 7] Tryz.func239 (by kernel_rfl)
theorem d246 : Xu (246, f246) := Xw [9, 2, 8, 11, 16, 17, 18, 1, 0, 6, 7] Tryz.func246 (by kernel_rfl)
theorem d252 : Xu (252, f252) := Xw [0, 3, 2, 1] Tryz.func252 (by kernel_rfl)
theorem d260 : Xu (260, f260) := Xw [5, 3, 11, 0, 1, 4] Tryz.func260 (by kernel_rfl)
theorem d282 : Xu (282, f282) := Xw [2, 12, 13, 14, 1, 0, 6, 7] Tryz.func282 (by kernel_rfl)
theorem d290 : Xu (290, f290) := Xw [1, 7, 8, 0, 4] Tryz.func290 (by kernel_rfl)
theorem d310 : Xu (310, f310) := Xw [1, 0, 3] Tryz.func310 (by kernel_rfl)
end
end Go.AM
