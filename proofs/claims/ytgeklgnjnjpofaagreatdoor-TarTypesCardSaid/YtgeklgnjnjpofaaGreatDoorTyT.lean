/- told of layer 25 is true, where the one table that it reads is laid. -/
import Derived.Test.YtgeklgnjnjpofaaGreatDoorProg
import Derived.Test.YtgeklgnjnjpofaaGreatDoorEvKnow
import Derived.KernelRfl
set_option maxRecDepth 100000
set_option linter.unusedVariables false
namespace Go.Proofs.YtgeklgnjnjpofaaGreatDoor
open Go Go.Ev Go.RowKit
def pow : List Value := [.int .u64 1, .int .u64 10, .int .u64 100, .int .u64 1000, .int .u64 10000, .int .u64 100000, .int .u64 1000000, .int .u64 10000000, .int .u64 100000000, .int .u64 1000000000, .int .u64 10000000000, .int .u64 100000000000, .int .u64 1000000000000, .int .u64 10000000000000, .int .u64 100000000000000, .int .u64 1000000000000000, .int .u64 10000000000000000, .int .u64 100000000000000000, .int .u64 1000000000000000000, .int .u64 10000000000000000000]
def tabs (e : TypeId) : Tabs := [(1, e, pow)]
theorem mixed : Tryz.prog.follows .mixedOrders = true := by decide +kernel
theorem okt (e : TypeId) : okT 9 (tabs e) = true := by kernel_rfl
theorem told (e : TypeId) : isTrue (fCall ⟨Tryz.prog, 9, extG Tryz.prog⟩ 100000 1000 12 [] (S0 9 (tabs e))) = true := by kernel_rfl
theorem told_calls (e : TypeId) (w : World) (hl : LaidT (tabs e) w) : Calls Tryz.prog 12 #[] w fun e w' => e = .returned (.bool true) ∧ Below w.heap.size w w' :=
  run_laid Tryz.prog mixed 9 (kn := fun _ _ _ => none) (fun f args v μ s w args' h => by cases h) (tabs e) (okt e) 100000 1000 12 [] rfl (by decide +kernel) (told e) w hl
end Go.Proofs.YtgeklgnjnjpofaaGreatDoor
