/- ClockFine, plainly: parts of 512, texts, what texts mean: the program's and the document's are one. -/
import Derived.Test.YtfmfikodnpnblaaDoorPClockFinex
import Derived.Test.YtfmfikodnpnblaaDoorClkPlainR
set_option linter.unusedVariables false
namespace Go.Proofs.YtfmfikodnpnblaaDoor.PureClockFine
open Go.RowKit Go.Proofs Go.Proofs.YtfmfikodnpnblaaDoorW.PrintWords Go.Proofs.YtfmfikodnpnblaaDoor.PClockFine Go.Proofs.YtfmfikodnpnblaaDoor.PClk1 Go.Proofs.YtfmfikodnpnblaaDoor.ClkTold Go.Proofs.YtfmfikodnpnblaaDoor.ClkLib Go.Proofs.YtfmfikodnpnblaaDoor.ClkFloat Go.Proofs.YtfmfikodnpnblaaDoor.ClkText Go.Proofs.YtfmfikodnpnblaaDoor.ClkParse Go.Proofs.YtfmfikodnpnblaaDoor.ClkRefParse Go.Proofs.YtfmfikodnpnblaaDoor.ClkRefFloat Go.Proofs.YtfmfikodnpnblaaDoor.ClkRefText

theorem ClockFine (a0 : Nat) (a1 : ByteArray) : ∃ k, stevedorelaw4_ClockFine.f k a0 a1 = some true := by
  refine ⟨400, ?_⟩
  unfold stevedorelaw4_ClockFine.f
  by_cases h : (a1.size : Int) > 100
  · rw [if_pos h]; rfl
  · have hs : a1 = strOf a1.data.toList := (strOf_self a1).symm
    have hl : a1.data.toList.length ≤ 100 := by have := size_len a1; omega
    rw [if_neg h, hs]
    generalize a1.data.toList = l at *
    obtain ⟨r, h1, h2⟩ := Parse_eq 400 l (by omega) (by omega)
    obtain ⟨s, h3, h4⟩ := refParse_eq 400 l (by omega) (by omega)
    obtain ⟨x, h5, h6⟩ := Fine_eq a0
    obtain ⟨y, h7, h8⟩ := refFine_eq a0
    rw [h1, Option.bind_some, h3, Option.bind_some, h5, h7]
    simp only [stevedorelaw4_told.f, Option.bind_some, if_true]
    rw [same_eq h6 h8, Option.bind_some, if_pos rfl, Text_eq 400 a0 (by omega), Option.bind_some, refText_eq 400 a0 (by omega), Option.bind_some, if_pos rfl, same_eq h2 h4, Option.bind_some, if_pos rfl]
    simp
end Go.Proofs.YtfmfikodnpnblaaDoor.PureClockFine
