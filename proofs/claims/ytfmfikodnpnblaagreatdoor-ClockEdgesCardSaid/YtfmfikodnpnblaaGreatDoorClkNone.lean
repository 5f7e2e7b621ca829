/- The document's NaN: a stand-in for its bits, which are drawn (nanmend.py puts ClkTold.none_calls in its place). -/
import Derived.Test.YtfmfikodnpnblaaGreatDoorClkTold
namespace Go.Proofs.YtfmfikodnpnblaaGreatDoor.ClkNone
def stevedoreref4_None.f : Option Nat := some 9221120237041090561
theorem none_key (t : Nat) (h : stevedoreref4_None.f = some t) : Flt.key t = none := by
  injection h with h
  subst h
  exact ClkTold.nan_key (ClkTold.read_nan _ 2251799813685248 (by decide) (.inl (by decide)))
end Go.Proofs.YtfmfikodnpnblaaGreatDoor.ClkNone
