/- The listed variables: a world that meets the condition; what the condition gives: the table of powers of ten lies in its block. -/
import Derived.Test.YtgeklgnjnjpofaaGreatDoorTyAll
import Derived.Test.YtgeklgnjnjpofaaGreatDoorRows
import Derived.LaidByTextLater
import Derived.LaidHandle
import Derived.LaidMore
import Derived.Lay
import Derived.LaidOnce
import Derived.MakeChecks
import Derived.Stop.LaidErr
import Derived.Lib.LaidTab
set_option linter.unusedVariables false
namespace Go.Proofs.YtgeklgnjnjpofaaGreatDoor.DoorLaid
open Go Go.Proofs Go.Ev Go.RowKit
def laid3 : List (String × DataW Unit) := [("math/bits.deBruijn32tab", Rows.laid_math_bits_deBruijn32tab), ("math/bits.deBruijn64tab", Rows.laid_math_bits_deBruijn64tab), ("internal/strconv.uint64pow10", Rows.laid_internal_strconv_uint64pow10), ("unicode/utf8.acceptRanges", Rows.laid_unicode_utf8_acceptRanges), ("strconv.ErrRange", Rows.laid_strconv_ErrRange), ("strconv.ErrSyntax", Rows.laid_strconv_ErrSyntax), ("unicode/utf8.first", Rows.laid_unicode_utf8_first)]
theorem door_met (os : Os) (args : Array Value) : laidMetH Tryz.prog laid3 ((World.laidAll Tryz.prog os laid3).forCall (fun _ _ => 0) ⟨#[], args, []⟩).memory :=
  by rw [MakeChecks.laidMetH_plain _ _ _ (by kernel_rfl)]; exact laidMet_laidAll _ (by kernel_rfl) (by kernel_rfl)
theorem powType : (Tryz.prog.globalNamed "internal/strconv.uint64pow10").map (fun g => (Tryz.prog.globals[g]?).map (·.type)) = some (some 187) := by kernel_rfl
theorem powGlob : Tryz.prog.globalNamed "internal/strconv.uint64pow10" = some 1 := by kernel_rfl
theorem vars_of_laid {W : World} (h : laidMetH Tryz.prog laid3 W) : ∃ e, LaidT (tabs e) W := by
  rw [MakeChecks.laidMetH_plain _ _ _ (by kernel_rfl)] at h
  have h3 := h.tail.tail
  obtain ⟨g, hg, ht⟩ := Option.map_eq_some_iff.1 powType
  have hT : Lib.TabIs Tryz.prog W "internal/strconv.uint64pow10" .u64 [1, 10, 100, 1000, 10000, 100000, 1000000, 10000000, 100000000, 1000000000, 10000000000, 100000000000, 1000000000000, 10000000000000, 100000000000000, 1000000000000000, 10000000000000000, 100000000000000000, 1000000000000000000, 10000000000000000000] := Lib.tabIs_of_head hg ht Tryz.underlying187 Tryz.underlying147 (by kernel_rfl) (by kernel_rfl) h3
  unfold Lib.TabIs World.var? at hT
  rw [powGlob, Option.bind_some] at hT
  split at hT
  · rename_i cs e f hc
    injection hT with hT
    refine ⟨e, fun n e' l hl => ?_⟩
    unfold tabs at hl
    rw [lookT, beq_eq] at hl
    by_cases hn : n = 1
    · simp only [hn, decide_true, cond_true] at hl
      injection hl with hl; injection hl with h1 h2
      subst h1; subst h2; subst hn
      exact ⟨f, by rw [hc, hT]; rfl⟩
    · simp only [hn, decide_false, cond_false] at hl
      cases hl
  · cases hT
end Go.Proofs.YtgeklgnjnjpofaaGreatDoor.DoorLaid
