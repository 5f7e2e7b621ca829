/- The listed tables: a world that meets the condition; what the condition gives. -/
import Derived.Test.YtfnicahlnpngkaaDoorDoorCut
import Derived.Test.YtfnicahlnpngkaaDoorRows
import Derived.LaidByTextLater
import Derived.LaidHandle
import Derived.LaidMore
import Derived.LaidOnce
import Derived.MakeChecks
import Derived.Stop.LaidErr
import Derived.Lib.LaidTab
set_option linter.unusedVariables false
namespace Go.Proofs.YtfnicahlnpngkaaDoor.DoorLaid
open Go Go.Proofs Go.Proofs.YtfnicahlnpngkaaDoor.DoorCut

def laid3 : List (String × DataW Unit) := [("math/bits.deBruijn32tab", Rows.laid_math_bits_deBruijn32tab), ("math/bits.deBruijn64tab", Rows.laid_math_bits_deBruijn64tab), ("internal/strconv.uint64pow10", Rows.laid_internal_strconv_uint64pow10)]
theorem door_met (os : Os) (args : Array Value) : laidMetH Tryd.prog laid3 ((World.doorLaid Tryd.prog 24 os).forCall (fun _ _ => 0) ⟨#[], args, []⟩).memory :=
  laidMetH_of_parts3 (fuel := 8) (laidMet_of_run' 8 (by kernel_rfl) (by kernel_rfl)) (by kernel_rfl) (by kernel_rfl)
theorem powType : (Tryd.prog.globalNamed "internal/strconv.uint64pow10").map (fun g => (Tryd.prog.globals[g]?).map (·.type)) = some (some 88) := by kernel_rfl
theorem vars_of_laid {W : World} (h : laidMetH Tryd.prog laid3 W) : Vars W := by
  rw [MakeChecks.laidMetH_plain _ _ _ (by kernel_rfl)] at h
  have h3 := h.tail.tail
  obtain ⟨g, hg, ht⟩ := Option.map_eq_some_iff.1 powType
  exact Lib.tabIs_of_head hg ht Tryd.underlying88 Tryd.underlying77 (by kernel_rfl) (by kernel_rfl) h3
end Go.Proofs.YtfnicahlnpngkaaDoor.DoorLaid
