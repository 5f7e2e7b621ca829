-- Written by this repo's gprint.py over the kit's printer, out of the translation. Not trusted: Lean checks it.
import Derived.Test.YtfnicahlnpngkaaDoorPPaxPutsx0
import Derived.Test.YtfnicahlnpngkaaDoorPPaxPutsx1
import Derived.Test.YtfnicahlnpngkaaDoorPPaxPutsx2
import Derived.Test.YtfnicahlnpngkaaDoorPPaxPutsx3
import Derived.Test.YtfnicahlnpngkaaDoorPPaxPutsx4
import Derived.Test.YtfnicahlnpngkaaDoorPPaxPutsx5
import Derived.Test.YtfnicahlnpngkaaDoorPPaxPutsx6
namespace Go.Proofs.YtfnicahlnpngkaaDoor.PPaxPuts
open Go.RowKit Go.Proofs.YtfnicahlnpngkaaDoorW.PrintWords Go.Proofs.YtfnicahlnpngkaaDoorW.PrintLast Go.Proofs.YtfnicahlnpngkaaDoorW.PrintMore
attribute [local go_sem] max2_int min2_int max_two min_two max_three min_three max_four min_four   -- for this text's walks alone
set_option linter.unusedVariables false
set_option linter.unusedSimpArgs false

end Go.Proofs.YtfnicahlnpngkaaDoor.PPaxPuts
