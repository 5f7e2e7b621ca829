-- Written by this repo's gprint.py over the kit's printer, out of the translation. Not trusted: Lean checks it.
import Derived.Test.YtfnicahlnpngkaaPExtraBackx0
import Derived.Test.YtfnicahlnpngkaaExtraBigOfExtraBack
import Derived.Test.YtfnicahlnpngkaaExtraOfExtraBack
import Derived.Test.YtfnicahlnpngkaaExtraPutOfExtraBack
import Derived.Test.YtfnicahlnpngkaaExtraRefOfExtraBack
namespace Go.Proofs.Ytfnicahlnpngkaa.PExtraBack
open Go.RowKit Go.Proofs.YtfnicahlnpngkaaW.PrintWords Go.Proofs.YtfnicahlnpngkaaW.PrintLast Go.Proofs.YtfnicahlnpngkaaW.PrintMore
attribute [local go_sem] max2_int min2_int max_two min_two max_three min_three max_four min_four   -- for this text's walks alone
open Go.Proofs.Ytfnicahlnpngkaa.ExtraBigOfExtraBack Go.Proofs.Ytfnicahlnpngkaa.ExtraOfExtraBack Go.Proofs.Ytfnicahlnpngkaa.ExtraPutOfExtraBack Go.Proofs.Ytfnicahlnpngkaa.ExtraRefOfExtraBack Go.Proofs.Ytfnicahlnpngkaa.Num1 Go.Proofs.Ytfnicahlnpngkaa.NumRead
set_option linter.unusedVariables false
set_option linter.unusedSimpArgs false

theorem eqA38 (d : Nat) (w : World) (x0 y0 : Int) (x1 y1 : ByteArray) :
    (Op.equalIn (d + 2) 38 (.agg #[.int .i64 x0, .string x1]) (.agg #[.int .i64 y0, .string y1])).run Try.prog w = .ok (x0 == y0 && (x1.toList == y1.toList)) w := by
  refine eqA_of Try.underlying38 (by kernel_rfl) ?_
  refine eqf_cons (by rfl) (by go_simp; rfl) (by go_simp; rfl) (by go_simp) ?_
  exact eqf_last (by rfl) (by go_simp; rfl) (by go_simp; rfl) (by go_simp)
end Go.Proofs.Ytfnicahlnpngkaa.PExtraBack
