/- The functions of the program are what is printed (checked by the kernel), part 3. -/
import Derived.Test.YtignppgiamochaaGreatDoorDen0
set_option linter.unusedVariables false
set_option linter.unusedSimpArgs false
namespace Go.AM
open Go Go.Proofs
set_option maxRecDepth 100000
noncomputable section
theorem d27 : Xu (27, f27) := Xw [5, 1, 0, 4] Tryz.func27 (by kernel_rfl)
theorem d34 : Xu (34, f34) := Xw [0, 2] Tryz.func34 (by kernel_rfl)
theorem d44 : Xu (44, f44) := Xw [1, 0, 4] Tryz.func44 (by kernel_rfl)
theorem d58 : Xu (58, f58) := Xw [0, 2] Tryz.func58 (by kernel_rfl)
theorem d71 : Xu (71, f71) := Xw [5, 14, 15, 16, 1, 0, 4] Tryz.func71 (by kernel_rfl)
theorem d78 : Xu (78, f78) := Xw [1, 0, 4] Tryz.func78 (by kernel_rfl)
theorem d88 : Xu (88, f88) := Xw [1, 0, 4, 5] Tryz.func88 (by kernel_rfl)
theorem d94 : Xu (94, f94) := Xw [0, 1, 4] Tryz.func94 (by kernel_rfl)
theorem d102 : Xu (102, f102) := Xw [1, 0, 4] Tryz.func102 (by kernel_rfl)
theorem d110 : Xu (110, f110) := Xw [13, 90, 9, 10, 7, 60, 6, 49, 50, 51, 3, 21, 22, 23, 0, 2] Tryz.func110 (by kernel_rfl)
theorem d117 : Xu (117, f117) := Xw [0, 2] Tryz.func117 (by kernel_rfl)
theorem d131 : Xu (131, f131) := Xw [5, 0, 10, 11, 12, 2, 1, 6] Tryz.func131 (by kernel_rfl)
theorem d146 : Xu (146, f146) := Xw [1, 7, 8, 0, 4] Tryz.func146 (by kernel_rfl)
theorem d157 : Xu (157, f157) := Xw [6, 2, 7, 0, 1, 8] Tryz.func157 (by kernel_rfl)
theorem d164 : Xu (164, f164) := Xw [0, 1, 3, 4] Tryz.func164 (by kernel_rfl)
theorem d170 : Xu (170, f170) := Xw [1, 0, 3] Tryz.func170 (by kernel_rfl)
theorem d177 : Xu (177, f177) := Xw [5, 1, 6, 0, 4] Tryz.func177 (by kernel_rfl)
theorem d183 : Xu (183, f183) := Xw [3, 0, 2, 1] Tryz.func183 (by kernel_rfl)
theorem d190 : Xu (190, f190) := Xw [0, 2] Tryz.func190 (by kernel_rfl)
theorem d198 : Xu (198, f198) := Xw [1, 0, 4] Tryz.func198 (by kernel_rfl)
theorem d225 : Xu (225, f225) := Xw [0, 2] Tryz.func225 (by kernel_rfl)
theorem d234 : Xu (234, f234) := Xw [1, 0, 4] Tryz.func234 (by kernel_rfl)
theorem d240 : Xu (240, f240) := Xw [9, 7, 2, 12, 13, 14, 1, 0, 6] Tryz.func240 (by kernel_rfl)
theorem d247 : Xu (247, f247) := Xw [0, 1, 4] Tryz.func247 (by kernel_rfl)
theorem d253 : Xu (253, f253) := Xw [6, 5, 1, 0, 4] Tryz.func253 (by kernel_rfl)
theorem d275 : Xu (275, f275) := Xw [5, 8, 6, 47, 48, 49, 0, 2, 3] Tryz.func275 (by kernel_rfl)
theorem d283 : Xu (283, f283) := Xw [0, 2] Tryz.func283 (by kernel_rfl)
theorem d292 : Xu (292, f292) := Xw [0, 2] Tryz.func292 (by kernel_rfl)
theorem d311 : Xu (311, f311) := Xw [1, 0, 3] Tryz.func311 (by kernel_rfl)
end
end Go.AM
