/- Bytes 160 to 191: each one's own run. -/
import Derived.Test.YtgeklgnjnjpofaaGreatDoorTyKn
import Derived.KernelRfl
set_option maxRecDepth 100000
set_option linter.unusedVariables false
namespace Go.Proofs.YtgeklgnjnjpofaaGreatDoor
open Go Go.Ev Go.RowKit
theorem b160 (e : TypeId) : many e [160, 161, 162, 163] = true := by kernel_rfl
theorem b164 (e : TypeId) : many e [164, 165, 166, 167] = true := by kernel_rfl
theorem b168 (e : TypeId) : many e [168, 169, 170, 171] = true := by kernel_rfl
theorem b172 (e : TypeId) : many e [172, 173, 174, 175] = true := by kernel_rfl
theorem b176 (e : TypeId) : many e [176, 177, 178, 179] = true := by kernel_rfl
theorem b180 (e : TypeId) : many e [180, 181, 182, 183] = true := by kernel_rfl
theorem b184 (e : TypeId) : many e [184, 185, 186, 187] = true := by kernel_rfl
theorem b188 (e : TypeId) : many e [188, 189, 190, 191] = true := by kernel_rfl
end Go.Proofs.YtgeklgnjnjpofaaGreatDoor
