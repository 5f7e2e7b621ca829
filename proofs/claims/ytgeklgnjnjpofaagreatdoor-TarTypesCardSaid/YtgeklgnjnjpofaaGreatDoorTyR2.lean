/- Bytes 64 to 95: each one's own run. -/
import Derived.Test.YtgeklgnjnjpofaaGreatDoorTyKn
import Derived.KernelRfl
set_option maxRecDepth 100000
set_option linter.unusedVariables false
namespace Go.Proofs.YtgeklgnjnjpofaaGreatDoor
open Go Go.Ev Go.RowKit
theorem b64 (e : TypeId) : many e [64, 65, 66, 67] = true := by kernel_rfl
theorem b68 (e : TypeId) : many e [68, 69, 70, 71] = true := by kernel_rfl
theorem b72 (e : TypeId) : many e [72, 73, 74, 75] = true := by kernel_rfl
theorem b76 (e : TypeId) : many e [76, 77, 78, 79] = true := by kernel_rfl
theorem b80 (e : TypeId) : many e [80, 81, 82, 83] = true := by kernel_rfl
theorem b84 (e : TypeId) : many e [84, 85, 86, 87] = true := by kernel_rfl
theorem b88 (e : TypeId) : many e [88, 89, 90, 91] = true := by kernel_rfl
theorem b92 (e : TypeId) : many e [92, 93, 94, 95] = true := by kernel_rfl
end Go.Proofs.YtgeklgnjnjpofaaGreatDoor
