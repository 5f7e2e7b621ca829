-- Written by this repo's gprint.py over the kit's printer, out of the translation. Not trusted: Lean checks it.
import Derived.Test.YtfmfikodnpnblaaGreatDoorProg
import Derived.Below
import Derived.Deep.Draws
import Derived.Deep.AppendLies
import Derived.Maps.AppendAt
import Derived.OwnWalk
import Derived.Laws.BytesArg
import Derived.Laws.MakeOwn
import Derived.Laws.OwnMore
import Derived.Deep.OwnRows
import Derived.Tactics
import Derived.Lib.ConvBytes
import Derived.Laws.Slices
import Derived.WalkKit
import Derived.KernelRfl
import Derived.RowKit3
import Derived.Deep.LoopGhost
import Derived.Deep.QuietTactic
import Derived.BigQuiet
import Derived.WideLaws
import Derived.Deep.DeepCutAuto
import Derived.Deep.CutBlock
import Derived.Deep.RegionHeld3
import Derived.Laws.Rows
import Derived.Lib.AppendStr
import Derived.ArgAppend
import Derived.Laws.IdiomCopy
import Derived.OrdersHeld
import Derived.Laws.BitsLemmas
import Derived.RowKit
import Derived.Test.YtfmfikodnpnblaaGreatDoorFltWords
import Derived.Test.YtfmfikodnpnblaaGreatDoorPClkRx
import Derived.Test.YtfmfikodnpnblaaGreatDoorWWords
import Derived.Test.YtfmfikodnpnblaaGreatDoorWLast
import Derived.Test.YtfmfikodnpnblaaGreatDoorWTab
import Derived.Test.YtfmfikodnpnblaaGreatDoorWQPut
import Derived.Test.YtfmfikodnpnblaaGreatDoorWApart
import Derived.Test.YtfmfikodnpnblaaGreatDoorWArr
import Derived.Test.YtfmfikodnpnblaaGreatDoorWZeros
import Derived.Test.YtfmfikodnpnblaaGreatDoorWFoot
import Derived.Test.YtfmfikodnpnblaaGreatDoorWKept
import Derived.Test.YtfmfikodnpnblaaGreatDoorWShare
import Derived.Test.YtfmfikodnpnblaaGreatDoorWN
import Derived.Test.YtfmfikodnpnblaaGreatDoorWEqStruct
import Derived.Test.YtfmfikodnpnblaaGreatDoorWRepsOne
import Derived.Test.YtfmfikodnpnblaaGreatDoorWNEv
import Derived.Test.YtfmfikodnpnblaaGreatDoorWMore
namespace Go.Proofs.YtfmfikodnpnblaaGreatDoor.PClkQ
open Go.RowKit Go.Proofs.YtfmfikodnpnblaaGreatDoorW.PrintWords Go.Proofs.YtfmfikodnpnblaaGreatDoorW.PrintLast Go.Proofs.YtfmfikodnpnblaaGreatDoorW.PrintMore
attribute [local go_sem] max2_int min2_int max_two min_two max_three min_three max_four min_four   -- for this text's walks alone
attribute [local go_sem] fop_run fint_run fofint_run
set_option linter.unusedVariables false
set_option linter.unusedSimpArgs false



def errW : Option Int → Value
  | none => .nilIface
  | some c => .iface 0 (.int .i64 c)
theorem errW_none : errW none = .nilIface := rfl
theorem errW_some (c : Int) : errW (some c) = .iface 0 (.int .i64 c) := rfl

-- the values' own types

end Go.Proofs.YtfmfikodnpnblaaGreatDoor.PClkQ
