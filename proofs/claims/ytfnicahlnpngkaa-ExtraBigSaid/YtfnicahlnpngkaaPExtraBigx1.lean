-- Written by this repo's gprint.py over the kit's printer, out of the translation. Not trusted: Lean checks it.
import Derived.Test.YtfnicahlnpngkaaPExtraBigx0
import Derived.Test.YtfnicahlnpngkaaExtraBigOfExtraBig
import Derived.Test.YtfnicahlnpngkaaExtraBigRefOfExtraBig
import Derived.Test.YtfnicahlnpngkaaExtraOfExtraBig
import Derived.Test.YtfnicahlnpngkaaExtraPutOfExtraBig
import Derived.Test.YtfnicahlnpngkaaExtraRefOfExtraBig
namespace Go.Proofs.Ytfnicahlnpngkaa.PExtraBig
open Go.RowKit Go.Proofs.YtfnicahlnpngkaaW.PrintWords Go.Proofs.YtfnicahlnpngkaaW.PrintLast Go.Proofs.YtfnicahlnpngkaaW.PrintMore
attribute [local go_sem] max2_int min2_int max_two min_two max_three min_three max_four min_four   -- for this text's walks alone
open Go.Proofs.Ytfnicahlnpngkaa.ExtraBigOfExtraBig Go.Proofs.Ytfnicahlnpngkaa.ExtraBigRefOfExtraBig Go.Proofs.Ytfnicahlnpngkaa.ExtraOfExtraBig Go.Proofs.Ytfnicahlnpngkaa.ExtraPutOfExtraBig Go.Proofs.Ytfnicahlnpngkaa.ExtraRefOfExtraBig Go.Proofs.Ytfnicahlnpngkaa.Num1 Go.Proofs.Ytfnicahlnpngkaa.NumRead
set_option linter.unusedVariables false
set_option linter.unusedSimpArgs false

theorem eqA38 (d : Nat) (w : World) (x0 y0 : Int) (x1 y1 : ByteArray) :
    (Op.equalIn (d + 2) 38 (.agg #[.int .i64 x0, .string x1]) (.agg #[.int .i64 y0, .string y1])).run Try.prog w = .ok (x0 == y0 && (x1.toList == y1.toList)) w := by
  refine eqA_of Try.underlying38 (by kernel_rfl) ?_
  refine eqf_cons (by rfl) (by go_simp; rfl) (by go_simp; rfl) (by go_simp) ?_
  exact eqf_last (by rfl) (by go_simp; rfl) (by go_simp; rfl) (by go_simp)
end Go.Proofs.Ytfnicahlnpngkaa.PExtraBig
