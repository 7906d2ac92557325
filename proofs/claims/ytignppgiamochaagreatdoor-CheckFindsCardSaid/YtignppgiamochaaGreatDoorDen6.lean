/- The functions of the program are what is printed (checked by the kernel), part 6. -/
import Derived.Test.YtignppgiamochaaGreatDoorDen0
set_option linter.unusedVariables false
set_option linter.unusedSimpArgs false
namespace Go.AM
open Go Go.Proofs
set_option maxRecDepth 100000
noncomputable section
theorem d31 : Xu (31, f31) := Xw [3, 6, 7, 8, 0, 2] Tryz.func31 (by kernel_rfl)
theorem d39 : Xu (39, f39) := Xw [0, 2] Tryz.func39 (by kernel_rfl)
theorem d52 : Xu (52, f52) := Xw [1, 0, 4] Tryz.func52 (by kernel_rfl)
theorem d68 : Xu (68, f68) := Xw [1, 0, 4] Tryz.func68 (by kernel_rfl)
theorem d74 : Xu (74, f74) := Xw [4, 3, 9, 16, 17, 18, 2, 1, 0, 8] Tryz.func74 (by kernel_rfl)
theorem d82 : Xu (82, f82) := Xw [6, 1, 0, 4] Tryz.func82 (by kernel_rfl)
theorem d91 : Xu (91, f91) := Xw [0, 2] Tryz.func91 (by kernel_rfl)
theorem d99 : Xu (99, f99) := Xw [0, 2] Tryz.func99 (by kernel_rfl)
theorem d106 : Xu (106, f106) := Xw [1, 0] Tryz.func106 (by kernel_rfl)
theorem d113 : Xu (113, f113) := Xw [5, 3, 8, 9, 10, 0, 1, 4] Tryz.func113 (by kernel_rfl)
theorem d126 : Xu (126, f126) := Xw [2, 0, 1] Tryz.func126 (by kernel_rfl)
theorem d143 : Xu (143, f143) := Xw [0, 2] Tryz.func143 (by kernel_rfl)
theorem d154 : Xu (154, f154) := Xw [0, 2] Tryz.func154 (by kernel_rfl)
theorem d161 : Xu (161, f161) := Xw [0, 2] Tryz.func161 (by kernel_rfl)
theorem d167 : Xu (167, f167) := Xw [1, 0, 4] Tryz.func167 (by kernel_rfl)
theorem d173 : Xu (173, f173) := Xw [1, 0, 4, 5] Tryz.func173 (by kernel_rfl)
theorem d180 : Xu (180, f180) := Xw [11, 9, 3, 0, 17, 18, 19, 2, 4, 1, 10] Tryz.func180 (by kernel_rfl)
theorem d186 : Xu (186, f186) := Xw [0, 2] Tryz.func186 (by kernel_rfl)
theorem d194 : Xu (194, f194) := Xw [9, 2, 1, 3, 0, 8] Tryz.func194 (by kernel_rfl)
theorem d202 : Xu (202, f202) := Xw [1, 0] Tryz.func202 (by kernel_rfl)
theorem d230 : Xu (230, f230) := Xw [0, 2] Tryz.func230 (by kernel_rfl)
theorem d237 : Xu (237, f237) := Xw [0, 7, 8, 9, 1, 4] Tryz.func237 (by kernel_rfl)
theorem d243 : Xu (243, f243) := Xw [1, 7, 8, 0, 4] Tryz.func243 (by kernel_rfl)
theorem d250 : Xu (250, f250) := Xw [1, 7, 8, 0, 4] Tryz.func250 (by kernel_rfl)
theorem d256 : Xu (256, f256) := Xw [3, 2, 1, 0, 4] Tryz.func256 (by kernel_rfl)
theorem d280 : Xu (280, f280) := Xw [7, 8, 2, 1, 0, 6] Tryz.func280 (by kernel_rfl)
theorem d286 : Xu (286, f286) := Xw [0, 1, 4] Tryz.func286 (by kernel_rfl)
theorem d308 : Xu (308, f308) := Xw [1, 0, 3] Tryz.func308 (by kernel_rfl)
end
end Go.AM
