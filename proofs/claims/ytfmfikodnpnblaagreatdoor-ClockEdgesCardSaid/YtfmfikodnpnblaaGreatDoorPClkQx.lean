-- Written by this repo's gprint.py over the kit's printer, out of the translation. Not trusted: Lean checks it.
import Derived.Test.YtfmfikodnpnblaaGreatDoorPClkQx0
import Derived.Test.YtfmfikodnpnblaaGreatDoorPClkQx1
import Derived.Test.YtfmfikodnpnblaaGreatDoorPClkQx2
namespace Go.Proofs.YtfmfikodnpnblaaGreatDoor.PClkQ
open Go.RowKit Go.Proofs.YtfmfikodnpnblaaGreatDoorW.PrintWords Go.Proofs.YtfmfikodnpnblaaGreatDoorW.PrintLast Go.Proofs.YtfmfikodnpnblaaGreatDoorW.PrintMore
attribute [local go_sem] max2_int min2_int max_two min_two max_three min_three max_four min_four   -- for this text's walks alone
attribute [local go_sem] fop_run fint_run fofint_run
set_option linter.unusedVariables false
set_option linter.unusedSimpArgs false

end Go.Proofs.YtfmfikodnpnblaaGreatDoor.PClkQ
