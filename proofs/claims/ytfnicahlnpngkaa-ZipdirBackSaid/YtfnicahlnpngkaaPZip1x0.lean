-- Written by this repo's gprint.py over the kit's printer, out of the translation. Not trusted: Lean checks it.
import Derived.Test.YtfnicahlnpngkaaProg
import Derived.Below
import Derived.Deep.Draws
import Derived.Deep.AppendLies
import Derived.Maps.AppendAt
import Derived.OwnWalk
import Derived.Laws.BytesArg
import Derived.Laws.MakeOwn
import Derived.Laws.OwnMore
import Derived.Deep.OwnRows
import Derived.Tactics
import Derived.Lib.ConvBytes
import Derived.Laws.Slices
import Derived.WalkKit
import Derived.KernelRfl
import Derived.RowKit3
import Derived.Deep.LoopGhost
import Derived.Deep.QuietTactic
import Derived.BigQuiet
import Derived.WideLaws
import Derived.Deep.DeepCutAuto
import Derived.Deep.CutBlock
import Derived.Deep.RegionHeld3
import Derived.Laws.Rows
import Derived.Lib.AppendStr
import Derived.ArgAppend
import Derived.Laws.IdiomCopy
import Derived.OrdersHeld
import Derived.Laws.BitsLemmas
import Derived.RowKit
import Derived.Test.YtfnicahlnpngkaaWWords
import Derived.Test.YtfnicahlnpngkaaWLast
import Derived.Test.YtfnicahlnpngkaaWApart
import Derived.Test.YtfnicahlnpngkaaWArr
import Derived.Test.YtfnicahlnpngkaaWFoot
import Derived.Test.YtfnicahlnpngkaaWKept
import Derived.Test.YtfnicahlnpngkaaWShare
import Derived.Test.YtfnicahlnpngkaaWN
import Derived.Test.YtfnicahlnpngkaaWEqStruct
import Derived.Test.YtfnicahlnpngkaaWRepsOne
import Derived.Test.YtfnicahlnpngkaaWInv
import Derived.Test.YtfnicahlnpngkaaWGuard
import Derived.Test.YtfnicahlnpngkaaWMore
namespace Go.Proofs.Ytfnicahlnpngkaa.PZip1
open Go.RowKit Go.Proofs.YtfnicahlnpngkaaW.PrintWords Go.Proofs.YtfnicahlnpngkaaW.PrintLast Go.Proofs.YtfnicahlnpngkaaW.PrintMore
attribute [local go_sem] max2_int min2_int max_two min_two max_three min_three max_four min_four   -- for this text's walks alone

set_option linter.unusedVariables false
set_option linter.unusedSimpArgs false



def errW : Option Int → Value
  | none => .nilIface
  | some c => .iface 0 (.int .i64 c)
theorem errW_none : errW none = .nilIface := rfl
theorem errW_some (c : Int) : errW (some c) = .iface 0 (.int .i64 c) := rfl

-- the values' own types

end Go.Proofs.Ytfnicahlnpngkaa.PZip1
