/- ClockDates, plainly: days, dates and their times are the document's. -/
import Derived.Test.YtfmfikodnpnblaaGreatDoorPClockDatesx
import Derived.Test.YtfmfikodnpnblaaGreatDoorClkPlainZ
set_option linter.unusedVariables false
set_option linter.unusedSimpArgs false
namespace Go.Proofs.YtfmfikodnpnblaaGreatDoor.PureClockDates
open Go.RowKit Go.Proofs Go.Proofs.YtfmfikodnpnblaaGreatDoorW.PrintWords Go.Proofs.YtfmfikodnpnblaaGreatDoor.PClockDates Go.Proofs.YtfmfikodnpnblaaGreatDoor.PClk1 Go.Proofs.YtfmfikodnpnblaaGreatDoor.ClkTold Go.Proofs.YtfmfikodnpnblaaGreatDoor.ClkDays Go.Proofs.YtfmfikodnpnblaaGreatDoor.ClkDateEq Go.Proofs.YtfmfikodnpnblaaGreatDoor.ClkSecs Go.Proofs.YtfmfikodnpnblaaGreatDoor.ClkRefDays

theorem dates (s : Int) : ∃ d, ClkDate.clock_Date.f 400 s = some d ∧ PClkR.stevedoreref4_Date.f 400 s = some d := by
  by_cases h : s < -1099511627776 ∨ s > 1099511627776
  · exact ⟨_, Date_out 400 s (by omega) h, refDate_out 400 s (by omega) h⟩
  · exact ⟨_, Date_eq 400 s (by omega) (by omega) (by omega), refDate_eq 400 s (by omega) (by omega) (by omega)⟩
theorem ClockDates (y m d s x0 x1 x2 x3 x4 x5 : Int) : ∃ k, stevedorelaw4_ClockDates.f k y m d s x0 x1 x2 x3 x4 x5 = some true := by
  refine ⟨400, ?_⟩
  obtain ⟨D, hD, hD'⟩ := dates s
  unfold stevedorelaw4_ClockDates.f
  rw [Seconds_eq 400 _ _ _ _ _ _ (by omega), Option.bind_some, refSeconds_eq 400 _ _ _ _ _ _ (by omega), Option.bind_some]
  simp only [stevedorelaw4_told.f, Option.bind_some, if_true]
  rw [Days_is, Option.bind_some, refDays_eq 400 _ _ _ (by omega), Option.bind_some, if_pos rfl, hD, Option.bind_some, hD', Option.bind_some]
  simp
end Go.Proofs.YtfmfikodnpnblaaGreatDoor.PureClockDates
