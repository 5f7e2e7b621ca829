/- Small facts on numbers, bits, bytes and lists for the printed functions. -/
import Derived.Test.YtfnicahlnpngkaaWWords
import Derived.Test.YtfnicahlnpngkaaWMore
import Derived.Laws.BitsLemmas
import Derived.Laws.BytesArg
import Derived.RowKit
set_option linter.unusedVariables false
set_option linter.unusedSimpArgs false
namespace Go.Proofs.Ytfnicahlnpngkaa.Base
open Go.RowKit Go.Proofs.YtfnicahlnpngkaaW.PrintWords

theorem wrap64_id {n : Int} (h0 : -9223372036854775808 ≤ n) (h1 : n < 9223372036854775808) : wrap64 n = n := by
  unfold wrap64; omega
theorem wu64_eq (n : Int) : IntKind.u64.wrap n = n % 18446744073709551616 := by simp [IntKind.wrap, IntKind.bits, IntKind.signed]
theorem wu64 {n : Int} (h0 : 0 ≤ n) (h1 : n < 18446744073709551616) : IntKind.u64.wrap n = n := by rw [wu64_eq]; omega
theorem wi64 (n : Int) : IntKind.i64.wrap n = wrap64 n := by unfold wrap64; exact IntKind.wrap_i64 n
theorem hk_u64 : ∀ n : Int, 0 ≤ n → n < 2 ^ 64 → IntKind.u64.wrap n = n := fun n h0 h1 => wu64 h0 (by simpa using h1)
theorem hk_i64 : ∀ n : Int, 0 ≤ n → n < 2 ^ 63 → IntKind.i64.wrap n = n := fun n h0 h1 => by
  rw [wi64]; exact wrap64_id (by omega) (by simpa using h1)

/-- x * 2^i | y, where y is below 2^i. -/
theorem or_u64 (i : Nat) {x y : Int} (hx0 : 0 ≤ x) (hx : x % 2 ^ i = 0) (hx1 : x < 18446744073709551616) (hy0 : 0 ≤ y) (hy : y < 2 ^ i) (hy1 : y < 18446744073709551616) :
    Go.bits .or .u64 x y = x + y :=
  bits_join .u64 64 (by decide) hk_u64 i x y hx0 hx (by simpa using hx1) hy0 hy (by simpa using hy1)
theorem or_i64 (i : Nat) {x y : Int} (hx0 : 0 ≤ x) (hx : x % 2 ^ i = 0) (hx1 : x < 9223372036854775808) (hy0 : 0 ≤ y) (hy : y < 2 ^ i) (hy1 : y < 9223372036854775808) :
    Go.bits .or .i64 x y = x + y :=
  bits_join .i64 63 (by decide) hk_i64 i x y hx0 hx (by simpa using hx1) hy0 hy (by simpa using hy1)
/-- shifts by 8 and 3, put together with what stands below. -/
theorem or8_u64 {v b : Int} (hv0 : 0 ≤ v) (hv : v < 72057594037927936) (hb0 : 0 ≤ b) (hb : b < 256) :
    Go.bits .or .u64 (IntKind.u64.wrap (v * 256)) b = v * 256 + b := by
  rw [wu64 (by omega) (by omega)]; exact or_u64 8 (by omega) (by omega) (by omega) hb0 (by simpa using hb) (by omega)
theorem or8_i64 {v b : Int} (hv0 : 0 ≤ v) (hv : v < 36028797018963968) (hb0 : 0 ≤ b) (hb : b < 256) :
    Go.bits .or .i64 (wrap64 (v * 256)) b = v * 256 + b := by
  rw [wrap64_id (by omega) (by omega)]; exact or_i64 8 (by omega) (by omega) (by omega) hb0 (by simpa using hb) (by omega)
theorem or3_u64 {v b : Int} (hv0 : 0 ≤ v) (hv : v < 2305843009213693952) (hb0 : 0 ≤ b) (hb : b < 8) :
    Go.bits .or .u64 (IntKind.u64.wrap (v * 8)) b = v * 8 + b := by
  rw [wu64 (by omega) (by omega)]; exact or_u64 3 (by omega) (by omega) (by omega) hb0 (by simpa using hb) (by omega)
theorem or3_i64 {v b : Int} (hv0 : 0 ≤ v) (hv : v < 1152921504606846976) (hb0 : 0 ≤ b) (hb : b < 8) :
    Go.bits .or .i64 (wrap64 (v * 8)) b = v * 8 + b := by
  rw [wrap64_id (by omega) (by omega)]; exact or_i64 3 (by omega) (by omega) (by omega) hb0 (by simpa using hb) (by omega)
theorem or4_i64 {v b : Int} (hv0 : 0 ≤ v) (hv : v < 576460752303423488) (hb0 : 0 ≤ b) (hb : b < 16) :
    Go.bits .or .i64 (wrap64 (v * 16)) b = v * 16 + b := by
  rw [wrap64_id (by omega) (by omega)]; exact or_i64 4 (by omega) (by omega) (by omega) hb0 (by simpa using hb) (by omega)
theorem and_u64 (i : Nat) (hi : i ≤ 64) {x m : Int} (hm : m = 2 ^ i - 1) (h0 : 0 ≤ x) (h1 : x < 18446744073709551616) : Go.bits .and .u64 x m = x % 2 ^ i := by
  subst hm; exact bits_mask .u64 64 (by decide) hk_u64 i hi x h0 (by simpa using h1)
theorem and_i64 (i : Nat) (hi : i ≤ 63) {x m : Int} (hm : m = 2 ^ i - 1) (h0 : 0 ≤ x) (h1 : x < 9223372036854775808) : Go.bits .and .i64 x m = x % 2 ^ i := by
  subst hm; exact bits_mask .i64 63 (by decide) hk_i64 i hi x h0 (by simpa using h1)

theorem wf_i64 {n : Int} (h : (Lit.int .i64 n).wf = true) : -9223372036854775808 ≤ n ∧ n < 9223372036854775808 := by
  simp only [Lit.wf, IntKind.min, IntKind.max, IntKind.signed, IntKind.bits, Bool.and_eq_true, decide_eq_true_eq, if_true, Bool.false_eq_true, if_false] at h; omega
theorem wf_u64 {n : Int} (h : (Lit.int .u64 n).wf = true) : 0 ≤ n ∧ n < 18446744073709551616 := by
  simp only [Lit.wf, IntKind.min, IntKind.max, IntKind.signed, IntKind.bits, Bool.and_eq_true, decide_eq_true_eq, if_true, Bool.false_eq_true, if_false] at h; omega
theorem wf_u8 {n : Int} (h : (Lit.int .u8 n).wf = true) : 0 ≤ n ∧ n < 256 := by
  simp only [Lit.wf, IntKind.min, IntKind.max, IntKind.signed, IntKind.bits, Bool.and_eq_true, decide_eq_true_eq, if_true, Bool.false_eq_true, if_false] at h; omega

theorem toList_eq (s : ByteArray) : s.toList = s.data.toList := ByteArray.toList_eq s
theorem toList_length (s : ByteArray) : s.toList.length = s.size := by rw [toList_eq, Array.length_toList]; rfl
theorem toList_nil (s : ByteArray) : s.toList = ([] : List UInt8) ↔ s.size = 0 := by
  rw [← toList_length]; exact List.length_eq_zero_iff.symm
end Go.Proofs.Ytfnicahlnpngkaa.Base
