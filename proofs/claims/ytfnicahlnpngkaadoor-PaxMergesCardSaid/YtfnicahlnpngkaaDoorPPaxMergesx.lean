-- Written by this repo's gprint.py over the kit's printer, out of the translation. Not trusted: Lean checks it.
import Derived.Test.YtfnicahlnpngkaaDoorPPaxMergesx0
import Derived.Test.YtfnicahlnpngkaaDoorPPaxMergesx1
import Derived.Test.YtfnicahlnpngkaaDoorPPaxMergesx2
import Derived.Test.YtfnicahlnpngkaaDoorPPaxMergesx3
import Derived.Test.YtfnicahlnpngkaaDoorPPaxMergesx4
namespace Go.Proofs.YtfnicahlnpngkaaDoor.PPaxMerges
open Go.RowKit Go.Proofs.YtfnicahlnpngkaaDoorW.PrintWords Go.Proofs.YtfnicahlnpngkaaDoorW.PrintLast Go.Proofs.YtfnicahlnpngkaaDoorW.PrintMore
attribute [local go_sem] max2_int min2_int max_two min_two max_three min_three max_four min_four   -- for this text's walks alone
set_option linter.unusedVariables false
set_option linter.unusedSimpArgs false

end Go.Proofs.YtfnicahlnpngkaaDoor.PPaxMerges
