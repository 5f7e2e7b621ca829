/- Bytes 96 to 127: each one's own run. -/
import Derived.Test.YtgeklgnjnjpofaaGreatDoorTyKn
import Derived.KernelRfl
set_option maxRecDepth 100000
set_option linter.unusedVariables false
namespace Go.Proofs.YtgeklgnjnjpofaaGreatDoor
open Go Go.Ev Go.RowKit
theorem b96 (e : TypeId) : many e [96, 97, 98, 99] = true := by kernel_rfl
theorem b100 (e : TypeId) : many e [100, 101, 102, 103] = true := by kernel_rfl
theorem b104 (e : TypeId) : many e [104, 105, 106, 107] = true := by kernel_rfl
theorem b108 (e : TypeId) : many e [108, 109, 110, 111] = true := by kernel_rfl
theorem b112 (e : TypeId) : many e [112, 113, 114, 115] = true := by kernel_rfl
theorem b116 (e : TypeId) : many e [116, 117, 118, 119] = true := by kernel_rfl
theorem b120 (e : TypeId) : many e [120, 121, 122, 123] = true := by kernel_rfl
theorem b124 (e : TypeId) : many e [124, 125, 126, 127] = true := by kernel_rfl
end Go.Proofs.YtgeklgnjnjpofaaGreatDoor
