-- Written by this repo's gprint.py over the kit's printer, out of the translation. Not trusted: Lean checks it.
import Derived.Test.YtfmfikodnpnblaaDoorProg
import Derived.Below
import Derived.Deep.Draws
import Derived.Deep.AppendLies
import Derived.Maps.AppendAt
import Derived.OwnWalk
import Derived.Laws.BytesArg
import Derived.Laws.MakeOwn
import Derived.Laws.OwnMore
import Derived.Deep.OwnRows
import Derived.Tactics
import Derived.Lib.ConvBytes
import Derived.Laws.Slices
import Derived.WalkKit
import Derived.KernelRfl
import Derived.RowKit3
import Derived.Deep.LoopGhost
import Derived.Deep.QuietTactic
import Derived.BigQuiet
import Derived.WideLaws
import Derived.Deep.DeepCutAuto
import Derived.Deep.CutBlock
import Derived.Deep.RegionHeld3
import Derived.Laws.Rows
import Derived.Lib.AppendStr
import Derived.ArgAppend
import Derived.Laws.IdiomCopy
import Derived.OrdersHeld
import Derived.Laws.BitsLemmas
import Derived.RowKit
import Derived.Test.YtfmfikodnpnblaaDoorFltWords
import Derived.Test.YtfmfikodnpnblaaDoorWWords
import Derived.Test.YtfmfikodnpnblaaDoorWLast
import Derived.Test.YtfmfikodnpnblaaDoorWTab
import Derived.Test.YtfmfikodnpnblaaDoorWQPut
import Derived.Test.YtfmfikodnpnblaaDoorWApart
import Derived.Test.YtfmfikodnpnblaaDoorWArr
import Derived.Test.YtfmfikodnpnblaaDoorWZeros
import Derived.Test.YtfmfikodnpnblaaDoorWFoot
import Derived.Test.YtfmfikodnpnblaaDoorWKept
import Derived.Test.YtfmfikodnpnblaaDoorWShare
import Derived.Test.YtfmfikodnpnblaaDoorWN
import Derived.Test.YtfmfikodnpnblaaDoorWEqStruct
import Derived.Test.YtfmfikodnpnblaaDoorWRepsOne
import Derived.Test.YtfmfikodnpnblaaDoorWNEv
import Derived.Test.YtfmfikodnpnblaaDoorWMore
namespace Go.Proofs.YtfmfikodnpnblaaDoor.PRateS
open Go.RowKit Go.Proofs.YtfmfikodnpnblaaDoorW.PrintWords Go.Proofs.YtfmfikodnpnblaaDoorW.PrintLast Go.Proofs.YtfmfikodnpnblaaDoorW.PrintMore
attribute [local go_sem] max2_int min2_int max_two min_two max_three min_three max_four min_four   -- for this text's walks alone

attribute [local go_sem] fop_run fint_run fofint_run
set_option linter.unusedVariables false
set_option linter.unusedSimpArgs false



def errW : Option Int → Value
  | none => .nilIface
  | some c => .iface 0 (.int .i64 c)
theorem errW_none : errW none = .nilIface := rfl
theorem errW_some (c : Int) : errW (some c) = .iface 0 (.int .i64 c) := rfl

-- the values' own types

end Go.Proofs.YtfmfikodnpnblaaDoor.PRateS
