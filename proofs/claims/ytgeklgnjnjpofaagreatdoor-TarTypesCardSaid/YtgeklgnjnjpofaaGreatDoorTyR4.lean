/- Bytes 128 to 159: each one's own run. -/
import Derived.Test.YtgeklgnjnjpofaaGreatDoorTyKn
import Derived.KernelRfl
set_option maxRecDepth 100000
set_option linter.unusedVariables false
namespace Go.Proofs.YtgeklgnjnjpofaaGreatDoor
open Go Go.Ev Go.RowKit
theorem b128 (e : TypeId) : many e [128, 129, 130, 131] = true := by kernel_rfl
theorem b132 (e : TypeId) : many e [132, 133, 134, 135] = true := by kernel_rfl
theorem b136 (e : TypeId) : many e [136, 137, 138, 139] = true := by kernel_rfl
theorem b140 (e : TypeId) : many e [140, 141, 142, 143] = true := by kernel_rfl
theorem b144 (e : TypeId) : many e [144, 145, 146, 147] = true := by kernel_rfl
theorem b148 (e : TypeId) : many e [148, 149, 150, 151] = true := by kernel_rfl
theorem b152 (e : TypeId) : many e [152, 153, 154, 155] = true := by kernel_rfl
theorem b156 (e : TypeId) : many e [156, 157, 158, 159] = true := by kernel_rfl
end Go.Proofs.YtgeklgnjnjpofaaGreatDoor
