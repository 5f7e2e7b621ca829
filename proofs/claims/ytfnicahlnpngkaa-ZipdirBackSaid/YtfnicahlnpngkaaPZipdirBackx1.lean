-- Written by this repo's gprint.py over the kit's printer, out of the translation. Not trusted: Lean checks it.
import Derived.Test.YtfnicahlnpngkaaPZipdirBackx0
import Derived.Test.YtfnicahlnpngkaaZipCenOfZipdirBack
import Derived.Test.YtfnicahlnpngkaaZipWrt
import Derived.Test.YtfnicahlnpngkaaZipFnd
import Derived.Test.YtfnicahlnpngkaaZipLocOfZipdirBack
import Derived.Test.YtfnicahlnpngkaaZipPutCOfZipdirBack
import Derived.Test.YtfnicahlnpngkaaZipPutLOfZipdirBack
import Derived.Test.YtfnicahlnpngkaaZipSameOfZipdirBack
namespace Go.Proofs.Ytfnicahlnpngkaa.PZipdirBack
open Go.RowKit Go.Proofs.YtfnicahlnpngkaaW.PrintWords Go.Proofs.YtfnicahlnpngkaaW.PrintLast Go.Proofs.YtfnicahlnpngkaaW.PrintMore
attribute [local go_sem] max2_int min2_int max_two min_two max_three min_three max_four min_four   -- for this text's walks alone
open Go.Proofs.Ytfnicahlnpngkaa.ZipCenOfZipdirBack Go.Proofs.Ytfnicahlnpngkaa.ZipEnd Go.Proofs.Ytfnicahlnpngkaa.ZipFind Go.Proofs.Ytfnicahlnpngkaa.ZipLocOfZipdirBack Go.Proofs.Ytfnicahlnpngkaa.ZipPutCOfZipdirBack Go.Proofs.Ytfnicahlnpngkaa.ZipPutLOfZipdirBack Go.Proofs.Ytfnicahlnpngkaa.ZipSameOfZipdirBack
set_option linter.unusedVariables false
set_option linter.unusedSimpArgs false

theorem eqA72 (d : Nat) (w : World) (x0 y0 : Int) (x1 y1 : Int) (x2 y2 : Int) (x3 y3 : Int) (x4 y4 : Int) :
    (Op.equalIn (d + 2) 72 (.agg #[.int .i64 x0, .int .i64 x1, .int .i64 x2, .int .i64 x3, .int .i64 x4]) (.agg #[.int .i64 y0, .int .i64 y1, .int .i64 y2, .int .i64 y3, .int .i64 y4])).run Try.prog w = .ok (x0 == y0 && (x1 == y1 && (x2 == y2 && (x3 == y3 && (x4 == y4))))) w := by
  refine eqA_of Try.underlying72 (by kernel_rfl) ?_
  refine eqf_cons (by rfl) (by go_simp; rfl) (by go_simp; rfl) (by go_simp) ?_
  refine eqf_cons (by rfl) (by go_simp; rfl) (by go_simp; rfl) (by go_simp) ?_
  refine eqf_cons (by rfl) (by go_simp; rfl) (by go_simp; rfl) (by go_simp) ?_
  refine eqf_cons (by rfl) (by go_simp; rfl) (by go_simp; rfl) (by go_simp) ?_
  exact eqf_last (by rfl) (by go_simp; rfl) (by go_simp; rfl) (by go_simp)
end Go.Proofs.Ytfnicahlnpngkaa.PZipdirBack
