/- The functions of the program are what is printed (checked by the kernel), part 5. -/
import Derived.Test.YtignppgiamochaaGreatDoorDen0
set_option linter.unusedVariables false
set_option linter.unusedSimpArgs false
namespace Go.AM
open Go Go.Proofs
set_option maxRecDepth 100000
noncomputable section
theorem d29 : Xu (29, f29) := Xw [0, 2] Tryz.func29 (by kernel_rfl)
theorem d38 : Xu (38, f38) := Xw [1, 0, 4] Tryz.func38 (by kernel_rfl)
theorem d51 : Xu (51, f51) := Xw [1, 0, 4] Tryz.func51 (by kernel_rfl)
theorem d66 : Xu (66, f66) := Xw [0] Tryz.func66 (by kernel_rfl)
theorem d73 : Xu (73, f73) := Xw [3, 2, 1, 0, 4] Tryz.func73 (by kernel_rfl)
theorem d81 : Xu (81, f81) := Xw [3, 6, 7, 8, 0, 2] Tryz.func81 (by kernel_rfl)
theorem d90 : Xu (90, f90) := Xw [6, 5, 1, 0, 4] Tryz.func90 (by kernel_rfl)
theorem d98 : Xu (98, f98) := Xw [0, 2] Tryz.func98 (by kernel_rfl)
theorem d104 : Xu (104, f104) := Xw [0, 2] Tryz.func104 (by kernel_rfl)
theorem d112 : Xu (112, f112) := Xw [3, 7, 8, 9, 0, 2] Tryz.func112 (by kernel_rfl)
theorem d122 : Xu (122, f122) := Xw [4, 6, 12, 13, 14, 2, 0, 1] Tryz.func122 (by kernel_rfl)
theorem d136 : Xu (136, f136) := Xw [7, 10, 8, 6, 39, 40, 41, 3, 0, 13, 14, 15, 1] Tryz.func136 (by kernel_rfl)
theorem d153 : Xu (153, f153) := Xw [12, 13, 14, 11, 10, 3, 4, 0, 1, 2] Tryz.func153 (by kernel_rfl)
theorem d160 : Xu (160, f160) := Xw [1, 4, 0, 3] Tryz.func160 (by kernel_rfl)
theorem d166 : Xu (166, f166) := Xw [0, 1, 7, 8, 3, 4] Tryz.func166 (by kernel_rfl)
theorem d172 : Xu (172, f172) := Xw [2, 1, 0, 3, 4] Tryz.func172 (by kernel_rfl)
theorem d179 : Xu (179, f179) := Xw [1, 0, 4] Tryz.func179 (by kernel_rfl)
theorem d185 : Xu (185, f185) := Xw [1, 0, 4] Tryz.func185 (by kernel_rfl)
theorem d193 : Xu (193, f193) := Xw [2, 0, 9, 10, 11, 1] Tryz.func193 (by kernel_rfl)
theorem d201 : Xu (201, f201) := Xw [72, 73, 74, 7, 47, 48, 49, 3, 4, 28, 29, 30, 0, 1] Tryz.func201 (by kernel_rfl)
theorem d227 : Xu (227, f227) := Xw [0, 3, 9, 2, 8, 1] Tryz.func227 (by kernel_rfl)
theorem d236 : Xu (236, f236) := Xw [7, 5, 1, 0, 2, 6] Tryz.func236 (by kernel_rfl)
theorem d242 : Xu (242, f242) := Xw [2, 1, 0, 6, 7] Tryz.func242 (by kernel_rfl)
theorem d249 : Xu (249, f249) := Xw [18, 15, 3, 8, 0, 2] Tryz.func249 (by kernel_rfl)
theorem d255 : Xu (255, f255) := Xw [5, 1, 12, 13, 14, 0, 4] Tryz.func255 (by kernel_rfl)
theorem d278 : Xu (278, f278) := Xw [8, 1, 2, 10, 9, 0, 6, 7] Tryz.func278 (by kernel_rfl)
theorem d285 : Xu (285, f285) := Xw [0, 2] Tryz.func285 (by kernel_rfl)
theorem d301 : Xu (301, f301) := Xw [1, 0, 4] Tryz.func301 (by kernel_rfl)
theorem d318 : Xu (318, f318) := Xw [0, 2] Tryz.func318 (by kernel_rfl)
end
end Go.AM
