/- Bytes 224 to 255: each one's own run. -/
import Derived.Test.YtgeklgnjnjpofaaGreatDoorTyKn
import Derived.KernelRfl
set_option maxRecDepth 100000
set_option linter.unusedVariables false
namespace Go.Proofs.YtgeklgnjnjpofaaGreatDoor
open Go Go.Ev Go.RowKit
theorem b224 (e : TypeId) : many e [224, 225, 226, 227] = true := by kernel_rfl
theorem b228 (e : TypeId) : many e [228, 229, 230, 231] = true := by kernel_rfl
theorem b232 (e : TypeId) : many e [232, 233, 234, 235] = true := by kernel_rfl
theorem b236 (e : TypeId) : many e [236, 237, 238, 239] = true := by kernel_rfl
theorem b240 (e : TypeId) : many e [240, 241, 242, 243] = true := by kernel_rfl
theorem b244 (e : TypeId) : many e [244, 245, 246, 247] = true := by kernel_rfl
theorem b248 (e : TypeId) : many e [248, 249, 250, 251] = true := by kernel_rfl
theorem b252 (e : TypeId) : many e [252, 253, 254, 255] = true := by kernel_rfl
end Go.Proofs.YtgeklgnjnjpofaaGreatDoor
