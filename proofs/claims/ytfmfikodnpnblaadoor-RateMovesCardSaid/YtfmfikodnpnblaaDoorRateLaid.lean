/- The listed variables: a world that meets the condition; what the condition gives. -/
import Derived.Test.YtfmfikodnpnblaaDoorClkLib
import Derived.Test.YtfmfikodnpnblaaDoorRows
import Derived.LaidByTextLater
import Derived.LaidHandle
import Derived.LaidMore
import Derived.Lay
import Derived.LaidOnce
import Derived.MakeChecks
import Derived.Stop.LaidErr
import Derived.Lib.LaidTab
set_option linter.unusedVariables false
namespace Go.Proofs.YtfmfikodnpnblaaDoor.DoorLaid
open Go Go.Proofs Go.Proofs.YtfmfikodnpnblaaDoor.ClkLib

def laid3 : List (String × DataW Unit) := [("math/bits.deBruijn32tab", Rows.laid_math_bits_deBruijn32tab), ("math/bits.deBruijn64tab", Rows.laid_math_bits_deBruijn64tab), ("internal/strconv.uint64pow10", Rows.laid_internal_strconv_uint64pow10)]
theorem door_met (os : Os) (args : Array Value) : laidMetH Tryd.prog laid3 ((World.laidAll Tryd.prog os laid3).forCall (fun _ _ => 0) ⟨#[], args, []⟩).memory :=
  by rw [MakeChecks.laidMetH_plain _ _ _ (by kernel_rfl)]; exact laidMet_laidAll _ (by kernel_rfl) (by kernel_rfl)
theorem powType : (Tryd.prog.globalNamed "internal/strconv.uint64pow10").map (fun g => (Tryd.prog.globals[g]?).map (·.type)) = some (some 142) := by kernel_rfl
theorem vars_of_laid {W : World} (h : laidMetH Tryd.prog laid3 W) : Vars W := by
  rw [MakeChecks.laidMetH_plain _ _ _ (by kernel_rfl)] at h
  have h3 := h.tail.tail
  obtain ⟨g, hg, ht⟩ := Option.map_eq_some_iff.1 powType
  exact Lib.tabIs_of_head hg ht Tryd.underlying142 Tryd.underlying92 (by kernel_rfl) (by kernel_rfl) h3
end Go.Proofs.YtfmfikodnpnblaaDoor.DoorLaid
