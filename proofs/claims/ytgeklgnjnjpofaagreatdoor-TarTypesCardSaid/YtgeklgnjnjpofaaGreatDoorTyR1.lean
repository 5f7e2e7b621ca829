/- Bytes 32 to 63: each one's own run. -/
import Derived.Test.YtgeklgnjnjpofaaGreatDoorTyKn
import Derived.KernelRfl
set_option maxRecDepth 100000
set_option linter.unusedVariables false
namespace Go.Proofs.YtgeklgnjnjpofaaGreatDoor
open Go Go.Ev Go.RowKit
theorem b32 (e : TypeId) : many e [32, 33, 34, 35] = true := by kernel_rfl
theorem b36 (e : TypeId) : many e [36, 37, 38, 39] = true := by kernel_rfl
theorem b40 (e : TypeId) : many e [40, 41, 42, 43] = true := by kernel_rfl
theorem b44 (e : TypeId) : many e [44, 45, 46, 47] = true := by kernel_rfl
theorem b48 (e : TypeId) : many e [48, 49, 50, 51] = true := by kernel_rfl
theorem b52 (e : TypeId) : many e [52, 53, 54, 55] = true := by kernel_rfl
theorem b56 (e : TypeId) : many e [56, 57, 58, 59] = true := by kernel_rfl
theorem b60 (e : TypeId) : many e [60, 61, 62, 63] = true := by kernel_rfl
end Go.Proofs.YtgeklgnjnjpofaaGreatDoor
