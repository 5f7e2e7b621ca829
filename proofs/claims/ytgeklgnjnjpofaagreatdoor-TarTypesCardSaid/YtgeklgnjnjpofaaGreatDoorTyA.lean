/- The sum of a header's bytes, bytes unknown: one pass of the evaluator. -/
import Derived.Test.YtgeklgnjnjpofaaGreatDoorProg
import Derived.Test.YtgeklgnjnjpofaaGreatDoorEvKnow
import Derived.KernelRfl
set_option maxRecDepth 100000
set_option linter.unusedVariables false
namespace Go.Proofs.YtgeklgnjnjpofaaGreatDoor
open Go Go.Ev Go.RowKit
theorem sum68 (g : Nat → Nat) (e : TypeId) : evCall ⟨Tryz.prog, 0, fun _ _ _ => none⟩ 600 2 68 [.slice (some ⟨0, 0, none⟩) 512 512] (blkS 512 (cellsG g) e) = .ret (.int .i64 (sumI g 512)) (blkS 512 (cellsG g) e) := by kernel_rfl
end Go.Proofs.YtgeklgnjnjpofaaGreatDoor
