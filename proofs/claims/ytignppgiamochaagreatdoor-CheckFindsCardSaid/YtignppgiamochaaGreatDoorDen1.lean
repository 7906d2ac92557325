/- The functions of the program are what is printed (checked by the kernel), part 1. -/
import Derived.Test.YtignppgiamochaaGreatDoorDen0
set_option linter.unusedVariables false
set_option linter.unusedSimpArgs false
namespace Go.AM
open Go Go.Proofs
set_option maxRecDepth 100000
noncomputable section
theorem d7 : Xu (7, f7) := Xw [2, 0] Tryz.func7 (by kernel_rfl)
theorem d32 : Xu (32, f32) := Xw [1, 0, 4] Tryz.func32 (by kernel_rfl)
theorem d42 : Xu (42, f42) := Xw [3, 2, 1, 0, 9, 8] Tryz.func42 (by kernel_rfl)
theorem d56 : Xu (56, f56) := Xw [9, 5, 7, 19, 20, 21, 1, 0, 2, 6] Tryz.func56 (by kernel_rfl)
theorem d69 : Xu (69, f69) := Xw [71, 72, 8, 4, 3, 6, 12, 13, 14, 0, 2] Tryz.func69 (by kernel_rfl)
theorem d75 : Xu (75, f75) := Xw [7, 40, 41, 42, 1, 3, 5, 10, 11, 12, 0, 2] Tryz.func75 (by kernel_rfl)
theorem d83 : Xu (83, f83) := Xw [6, 1, 0, 4] Tryz.func83 (by kernel_rfl)
theorem d92 : Xu (92, f92) := Xw [1, 0, 3] Tryz.func92 (by kernel_rfl)
theorem d100 : Xu (100, f100) := Xw [1, 0] Tryz.func100 (by kernel_rfl)
theorem d108 : Xu (108, f108) := Xw [5, 1, 8, 9, 10, 0, 4] Tryz.func108 (by kernel_rfl)
theorem d114 : Xu (114, f114) := Xw [169, 170, 171, 10, 12, 9, 86, 87, 88, 3, 4, 2, 1, 0, 8] Tryz.func114 (by kernel_rfl)
theorem d129 : Xu (129, f129) := Xw [5, 4, 16, 17, 18, 0, 2, 1, 6] Tryz.func129 (by kernel_rfl)
theorem d144 : Xu (144, f144) := Xw [0, 2] Tryz.func144 (by kernel_rfl)
theorem d155 : Xu (155, f155) := Xw [6, 1, 0, 4] Tryz.func155 (by kernel_rfl)
theorem d162 : Xu (162, f162) := Xw [0, 1, 3, 4] Tryz.func162 (by kernel_rfl)
theorem d168 : Xu (168, f168) := Xw [0, 2] Tryz.func168 (by kernel_rfl)
theorem d174 : Xu (174, f174) := Xw [0, 2] Tryz.func174 (by kernel_rfl)
theorem d181 : Xu (181, f181) := Xw [3, 6, 7, 8, 0, 2] Tryz.func181 (by kernel_rfl)
theorem d187 : Xu (187, f187) := Xw [1, 0, 4] Tryz.func187 (by kernel_rfl)
theorem d195 : Xu (195, f195) := Xw [99, 100, 101, 8, 9, 4, 10, 53, 5, 7, 23, 24, 25, 0, 2, 1] Tryz.func195 (by kernel_rfl)
theorem d212 : Xu (212, f212) := Xw [0, 3, 9, 2, 8, 1] Tryz.func212 (by kernel_rfl)
theorem d231 : Xu (231, f231) := Xw [0, 2] Tryz.func231 (by kernel_rfl)
theorem d238 : Xu (238, f238) := Xw [11, 3, 13, 2, 10, 16, 17, 18, 1, 0, 8, 9] Tryz.func238 (by kernel_rfl)
theorem d244 : Xu (244, f244) := Xw [9, 21, 93, 94, 95, 8, 2, 14, 12, 55, 56, 57, 11, 26, 27, 28, 1, 0, 6, 7] Tryz.func244 (by kernel_rfl)
theorem d251 : Xu (251, f251) := Xw [52, 53, 54, 11, 2, 7, 4, 0, 22, 1, 6] Tryz.func251 (by kernel_rfl)
theorem d259 : Xu (259, f259) := Xw [5, 14, 1, 0, 4] Tryz.func259 (by kernel_rfl)
theorem d281 : Xu (281, f281) := Xw [4, 0, 2] Tryz.func281 (by kernel_rfl)
theorem d288 : Xu (288, f288) := Xw [167, 168, 169, 18, 19, 15, 3, 114, 12, 6, 11, 94, 95, 96, 0, 1, 4, 5] Tryz.func288 (by kernel_rfl)
theorem d309 : Xu (309, f309) := Xw [17, 16, 58, 59, 60, 174, 8, 9, 12, 11, 110, 2, 25, 26, 27, 1, 0, 6, 7] Tryz.func309 (by kernel_rfl)
end
end Go.AM
