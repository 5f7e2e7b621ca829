/- Bytes 0 to 31: each one's own run. -/
import Derived.Test.YtgeklgnjnjpofaaGreatDoorTyKn
import Derived.KernelRfl
set_option maxRecDepth 100000
set_option linter.unusedVariables false
namespace Go.Proofs.YtgeklgnjnjpofaaGreatDoor
open Go Go.Ev Go.RowKit
theorem b0 (e : TypeId) : many e [0, 1, 2, 3] = true := by kernel_rfl
theorem b4 (e : TypeId) : many e [4, 5, 6, 7] = true := by kernel_rfl
theorem b8 (e : TypeId) : many e [8, 9, 10, 11] = true := by kernel_rfl
theorem b12 (e : TypeId) : many e [12, 13, 14, 15] = true := by kernel_rfl
theorem b16 (e : TypeId) : many e [16, 17, 18, 19] = true := by kernel_rfl
theorem b20 (e : TypeId) : many e [20, 21, 22, 23] = true := by kernel_rfl
theorem b24 (e : TypeId) : many e [24, 25, 26, 27] = true := by kernel_rfl
theorem b28 (e : TypeId) : many e [28, 29, 30, 31] = true := by kernel_rfl
end Go.Proofs.YtgeklgnjnjpofaaGreatDoor
