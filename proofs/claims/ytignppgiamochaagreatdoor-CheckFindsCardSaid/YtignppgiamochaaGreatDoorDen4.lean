/- The functions of the program are what is printed (checked by the kernel), part 4. -/
import Derived.Test.YtignppgiamochaaGreatDoorDen0
set_option linter.unusedVariables false
set_option linter.unusedSimpArgs false
namespace Go.AM
open Go Go.Proofs
set_option maxRecDepth 100000
noncomputable section
theorem d28 : Xu (28, f28) := Xw [3, 0, 4, 2] Tryz.func28 (by kernel_rfl)
theorem d36 : Xu (36, f36) := Xw [0] Tryz.func36 (by kernel_rfl)
theorem d49 : Xu (49, f49) := Xw [0] Tryz.func49 (by kernel_rfl)
theorem d65 : Xu (65, f65) := Xw [3, 2, 1, 0, 4, 5] Tryz.func65 (by kernel_rfl)
theorem d72 : Xu (72, f72) := Xw [4, 0, 2, 3] Tryz.func72 (by kernel_rfl)
theorem d80 : Xu (80, f80) := Xw [12, 13, 1, 0, 4] Tryz.func80 (by kernel_rfl)
theorem d89 : Xu (89, f89) := Xw [1, 0, 4, 5] Tryz.func89 (by kernel_rfl)
theorem d97 : Xu (97, f97) := Xw [4, 3, 2, 0, 1, 6] Tryz.func97 (by kernel_rfl)
theorem d103 : Xu (103, f103) := Xw [6, 5, 1, 0, 4] Tryz.func103 (by kernel_rfl)
theorem d111 : Xu (111, f111) := Xw [1, 0, 4, 5] Tryz.func111 (by kernel_rfl)
theorem d121 : Xu (121, f121) := Xw [2, 0, 1] Tryz.func121 (by kernel_rfl)
theorem d135 : Xu (135, f135) := Xw [65, 66, 67, 4, 7, 5, 0, 14, 15, 16, 2, 1, 6] Tryz.func135 (by kernel_rfl)
theorem d147 : Xu (147, f147) := Xw [6, 2, 7, 0, 1, 8] Tryz.func147 (by kernel_rfl)
theorem d159 : Xu (159, f159) := Xw [5, 6, 0, 2] Tryz.func159 (by kernel_rfl)
theorem d165 : Xu (165, f165) := Xw [0, 2] Tryz.func165 (by kernel_rfl)
theorem d171 : Xu (171, f171) := Xw [10, 3, 11, 14, 2, 23, 24, 25, 0, 1, 8, 9] Tryz.func171 (by kernel_rfl)
theorem d178 : Xu (178, f178) := Xw [0, 2] Tryz.func178 (by kernel_rfl)
theorem d184 : Xu (184, f184) := Xw [7, 10, 11, 0, 4, 8, 24, 25, 26, 2, 1, 6] Tryz.func184 (by kernel_rfl)
theorem d191 : Xu (191, f191) := Xw [1, 2, 0, 3] Tryz.func191 (by kernel_rfl)
theorem d200 : Xu (200, f200) := Xw [8, 7, 9, 5, 1, 16, 2, 0, 6] Tryz.func200 (by kernel_rfl)
theorem d226 : Xu (226, f226) := Xw [0, 2] Tryz.func226 (by kernel_rfl)
theorem d235 : Xu (235, f235) := Xw [15, 13, 12, 10, 73, 74, 75, 5, 8, 0, 9, 16, 17, 18, 1, 4] Tryz.func235 (by kernel_rfl)
theorem d241 : Xu (241, f241) := Xw [13, 4, 3, 14, 27, 28, 29, 2, 1, 0, 10, 11] Tryz.func241 (by kernel_rfl)
theorem d248 : Xu (248, f248) := Xw [0, 2] Tryz.func248 (by kernel_rfl)
theorem d254 : Xu (254, f254) := Xw [1, 0, 3] Tryz.func254 (by kernel_rfl)
theorem d276 : Xu (276, f276) := Xw [3, 2, 1, 0, 4, 10] Tryz.func276 (by kernel_rfl)
theorem d284 : Xu (284, f284) := Xw [19, 21, 18, 17, 72, 73, 74, 66, 67, 68, 12, 10, 13, 11, 5, 3, 2, 0, 1, 8, 9] Tryz.func284 (by kernel_rfl)
theorem d300 : Xu (300, f300) := Xw [11, 10, 9, 8, 2, 1, 0, 6, 7] Tryz.func300 (by kernel_rfl)
theorem d314 : Xu (314, f314) := Xw [] Tryz.func314 (by kernel_rfl)
end
end Go.AM
