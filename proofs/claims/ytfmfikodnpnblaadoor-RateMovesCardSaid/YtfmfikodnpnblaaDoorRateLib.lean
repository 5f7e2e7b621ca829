/- math.Signbit, math.Abs at this seat's numbers, in the print's own form. -/
import Derived.Test.YtfmfikodnpnblaaDoorClkLib
import Derived.Test.YtfmfikodnpnblaaDoorFltWords
set_option linter.unusedVariables false
namespace Go.Proofs.YtfmfikodnpnblaaDoor.RateLib
open Go.RowKit Go.Proofs Go.Proofs.YtfmfikodnpnblaaDoorW.PrintWords Go.Proofs.YtfmfikodnpnblaaDoor.Base Go.Proofs.YtfmfikodnpnblaaDoor.Flt

theorem run_bits (x : Nat) (w : World) : (Extern.MathFloatBits.float64bits #[.float .f64 x]).run Tryd.prog w = .ok (.int .u64 (x : Int)) w := rfl
theorem run_from (n : Int) (w : World) : (Extern.MathFloatBits.float64frombits #[.int .u64 n]).run Tryd.prog w = .ok (.float .f64 n.toNat) w := rfl
def math_Signbit.f (x : Nat) : Option Bool := some (decide (wrap64 (x : Int) < 0))
set_option maxRecDepth 100000 in
theorem math_Signbit.calls (x : Nat) (r : Bool) (w : World) (h : math_Signbit.f x = some r) : Calls Tryd.prog 68 #[.float .f64 x] w fun e w' => e = .returned (.bool r) ∧ Below w.heap.size w w' := by
  unfold math_Signbit.f at h
  injection h with h
  subst h
  go_enter Tryd.func68, Tryd.ntmps68
  go_wp2
  rw [run_callFunc_extern Tryd.func92 (by kernel_rfl) (by kernel_rfl) (by kernel_rfl) (e := Extern.MathFloatBits.float64bits) (by kernel_rfl)]
  rw [run_bits]
  simp only [Result.andThen]
  rw [Oper.upon_value]
  go_wp2
  go_ret
  exact ⟨by first | rfl | (simp; done), Below.refl _ _⟩
def math_Abs.f (x : Nat) : Option Nat := some (Go.bits .andNot .u64 (x : Int) 9223372036854775808).toNat
set_option maxRecDepth 100000 in
theorem math_Abs.calls (x : Nat) (r : Nat) (w : World) (h : math_Abs.f x = some r) : Calls Tryd.prog 69 #[.float .f64 x] w fun e w' => e = .returned (.float .f64 r) ∧ Below w.heap.size w w' := by
  unfold math_Abs.f at h
  injection h with h
  subst h
  go_enter Tryd.func69, Tryd.ntmps69
  go_wp2
  rw [run_callFunc_extern Tryd.func92 (by kernel_rfl) (by kernel_rfl) (by kernel_rfl) (e := Extern.MathFloatBits.float64bits) (by kernel_rfl)]
  rw [run_bits]
  simp only [Result.andThen]
  rw [Oper.upon_value]
  go_wp2
  rw [run_callFunc_extern Tryd.func84 (by kernel_rfl) (by kernel_rfl) (by kernel_rfl) (e := Extern.MathFloatBits.float64frombits) (by kernel_rfl)]
  rw [run_from]
  simp only [Result.andThen]
  rw [Oper.upon_value]
  go_wp2
  go_ret
  exact ⟨by first | rfl | (simp; done), Below.refl _ _⟩
def bits_Len.f (x : Int) : Option Int := if 0 ≤ x ∧ x ≤ 18446744073709551615 then some (Lib.bitLen x.toNat : Int) else none
theorem bits_Len.calls (x r : Int) (w : World) (h : bits_Len.f x = some r) : Calls Tryd.prog 85 #[.int .u64 x] w fun e w' => e = .returned (.int .i64 r) ∧ Drawn0 w w' := by
  unfold bits_Len.f at h
  split at h
  · rename_i hx
    injection h with h
    subst h
    refine (Tryd.bits_Len x w hx.1 hx.2).mono ?_
    rintro e w' ⟨rfl, rfl⟩
    exact ⟨rfl, Drawn0.refl _⟩
  · cases h
end Go.Proofs.YtfmfikodnpnblaaDoor.RateLib
