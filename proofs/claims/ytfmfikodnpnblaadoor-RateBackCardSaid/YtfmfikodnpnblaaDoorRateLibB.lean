/- math.Copysign, math.Inf, strings.CutPrefix at this seat's numbers, in the print's own form. -/
import Derived.Test.YtfmfikodnpnblaaDoorRateLib
set_option linter.unusedVariables false
namespace Go.Proofs.YtfmfikodnpnblaaDoor.RateLibB
open Go.RowKit Go.Proofs Go.Proofs.YtfmfikodnpnblaaDoorW.PrintWords Go.Proofs.YtfmfikodnpnblaaDoor.Base Go.Proofs.YtfmfikodnpnblaaDoor.Flt Go.Proofs.YtfmfikodnpnblaaDoor.RateLib
def math_Copysign.f (x y : Nat) : Option Nat := some (Go.bits .or .u64 (Go.bits .andNot .u64 (x : Int) 9223372036854775808) (Go.bits .and .u64 (y : Int) 9223372036854775808)).toNat
set_option maxRecDepth 100000 in
theorem math_Copysign.calls (x y r : Nat) (w : World) (h : math_Copysign.f x y = some r) : Calls Tryd.prog 66 #[.float .f64 x, .float .f64 y] w fun e w' => e = .returned (.float .f64 r) ∧ Below w.heap.size w w' := by
  unfold math_Copysign.f at h
  injection h with h
  subst h
  go_enter Tryd.func66, Tryd.ntmps66
  go_wp2
  rw [run_callFunc_extern Tryd.func92 (by kernel_rfl) (by kernel_rfl) (by kernel_rfl) (e := Extern.MathFloatBits.float64bits) (by kernel_rfl)]
  rw [run_bits]
  simp only [Result.andThen]
  rw [Oper.upon_value]
  go_wp2
  rw [run_callFunc_extern Tryd.func92 (by kernel_rfl) (by kernel_rfl) (by kernel_rfl) (e := Extern.MathFloatBits.float64bits) (by kernel_rfl)]
  rw [run_bits]
  simp only [Result.andThen]
  rw [Oper.upon_value]
  go_wp2
  rw [run_callFunc_extern Tryd.func84 (by kernel_rfl) (by kernel_rfl) (by kernel_rfl) (e := Extern.MathFloatBits.float64frombits) (by kernel_rfl)]
  rw [run_from]
  simp only [Result.andThen]
  rw [Oper.upon_value]
  go_wp2
  go_ret
  exact ⟨by first | rfl | (simp; done), Below.refl _ _⟩
def math_Inf.f (n : Int) : Option Nat := some (if 0 ≤ n then 9218868437227405312 else 18442240474082181120)
set_option maxRecDepth 100000 in
theorem math_Inf.calls (n : Int) (r : Nat) (w : World) (h : math_Inf.f n = some r) : Calls Tryd.prog 62 #[.int .i64 n] w fun e w' => e = .returned (.float .f64 r) ∧ Below w.heap.size w w' := by
  unfold math_Inf.f at h
  injection h with h
  by_cases hn : 0 ≤ n
  · rw [if_pos hn] at h
    subst h
    have b0 : decide (0 ≤ n) = true := decide_eq_true hn
    clear hn
    go_enter Tryd.func62, Tryd.ntmps62
    go_wp2
    rw [run_callFunc_extern Tryd.func84 (by kernel_rfl) (by kernel_rfl) (by kernel_rfl) (e := Extern.MathFloatBits.float64frombits) (by kernel_rfl)]
    rw [run_from]
    simp only [Result.andThen]
    rw [Oper.upon_value]
    go_wp2
    go_ret
    exact ⟨by first | rfl | (simp; done), Below.refl _ _⟩
  · rw [if_neg hn] at h
    subst h
    have b0 : decide (0 ≤ n) = false := decide_eq_false hn
    clear hn
    go_enter Tryd.func62, Tryd.ntmps62
    go_wp2
    rw [run_callFunc_extern Tryd.func84 (by kernel_rfl) (by kernel_rfl) (by kernel_rfl) (e := Extern.MathFloatBits.float64frombits) (by kernel_rfl)]
    rw [run_from]
    simp only [Result.andThen]
    rw [Oper.upon_value]
    go_wp2
    go_ret
    exact ⟨by first | rfl | (simp; done), Below.refl _ _⟩
def strings_CutPrefix.f (a0 a1 : ByteArray) : Option (ByteArray × Bool) := some (⟨(Lib.trimPrefix a0.data.toList a1.data.toList).toArray⟩, Lib.hasPrefix a0.data.toList a1.data.toList)
theorem strings_CutPrefix.calls (a0 a1 : ByteArray) (r1 : ByteArray) (r2 : Bool) (w : World) (h : strings_CutPrefix.f a0 a1 = some (r1, r2)) :
    Calls Tryd.prog 63 #[.string a0, .string a1] w fun e w' => e = .returned (.tuple #[.string r1, .bool r2]) ∧ Below w.heap.size w w' := by
  unfold strings_CutPrefix.f at h
  injection h with h
  injection h with h1 h2
  subst h1 h2
  refine (Tryd.strings_CutPrefix a0 a1 w).mono ?_
  rintro e w' ⟨rfl, rfl⟩
  exact ⟨rfl, Below.refl _ _⟩
end Go.Proofs.YtfmfikodnpnblaaDoor.RateLibB
