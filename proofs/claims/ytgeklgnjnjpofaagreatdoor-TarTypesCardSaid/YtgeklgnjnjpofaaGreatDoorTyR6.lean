/- Bytes 192 to 223: each one's own run. -/
import Derived.Test.YtgeklgnjnjpofaaGreatDoorTyKn
import Derived.KernelRfl
set_option maxRecDepth 100000
set_option linter.unusedVariables false
namespace Go.Proofs.YtgeklgnjnjpofaaGreatDoor
open Go Go.Ev Go.RowKit
theorem b192 (e : TypeId) : many e [192, 193, 194, 195] = true := by kernel_rfl
theorem b196 (e : TypeId) : many e [196, 197, 198, 199] = true := by kernel_rfl
theorem b200 (e : TypeId) : many e [200, 201, 202, 203] = true := by kernel_rfl
theorem b204 (e : TypeId) : many e [204, 205, 206, 207] = true := by kernel_rfl
theorem b208 (e : TypeId) : many e [208, 209, 210, 211] = true := by kernel_rfl
theorem b212 (e : TypeId) : many e [212, 213, 214, 215] = true := by kernel_rfl
theorem b216 (e : TypeId) : many e [216, 217, 218, 219] = true := by kernel_rfl
theorem b220 (e : TypeId) : many e [220, 221, 222, 223] = true := by kernel_rfl
end Go.Proofs.YtgeklgnjnjpofaaGreatDoor
