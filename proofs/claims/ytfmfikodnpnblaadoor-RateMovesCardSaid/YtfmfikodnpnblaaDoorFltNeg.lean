/- What the print's words lack for doubles: a sign turned. -/
import Derived.Test.YtfmfikodnpnblaaDoorFltAdd
import Derived.Test.YtfmfikodnpnblaaDoorFltWords
set_option linter.unusedVariables false
namespace Go.Proofs.YtfmfikodnpnblaaDoor.FltNeg
open Go.RowKit Ieee Go.Proofs.YtfmfikodnpnblaaDoor.Flt Go.Proofs.YtfmfikodnpnblaaDoor.FltClk Go.Proofs.YtfmfikodnpnblaaDoor.FltAdd
def fneg (x : Nat) : Nat := Go.Op.negFloat .f64 x
theorem fneg_run {P : Program} (x : Nat) (w : World) : (Go.Op.unary .neg (.float .f64 x)).run P w = .ok (.float .f64 (fneg x)) w := by
  simp [Go.Op.unary, fneg]
theorem fneg_eq (x : Nat) : fneg x = x ^^^ 9223372036854775808 := rfl
theorem key_neg {x : Nat} {a : Int} (h : key x = some a) : key (fneg x) = some (-a) := by
  rw [fneg_eq]
  have e1 : (x ^^^ 9223372036854775808) % 9223372036854775808 = x % 9223372036854775808 := by
    have := Nat.xor_mod_two_pow (a := x) (b := 9223372036854775808) (n := 63)
    simpa using this
  have e2 : (x ^^^ 9223372036854775808) / 9223372036854775808 % 2 = (x / 9223372036854775808 + 1) % 2 := by
    have h1 := Nat.xor_div_two_pow (a := x) (b := 9223372036854775808) (n := 63)
    have h2 : (x ^^^ 9223372036854775808) / 9223372036854775808 = (x / 9223372036854775808) ^^^ 1 := by simpa using h1
    rw [h2]
    have h3 := Nat.xor_mod_two_pow (a := x / 9223372036854775808) (b := 1) (n := 1)
    have h4 : ((x / 9223372036854775808) ^^^ 1) % 2 = (x / 9223372036854775808 % 2) ^^^ 1 := by simpa using h3
    rw [h4]
    rcases Nat.mod_two_eq_zero_or_one (x / 9223372036854775808) with h5 | h5 <;> rw [h5] <;> simp <;> omega
  have e3 : ((x / 9223372036854775808 + 1) % 2 == 1) = !(x / 9223372036854775808 % 2 == 1) := by
    rcases Nat.mod_two_eq_zero_or_one (x / 9223372036854775808) with h5 | h5
    · rw [h5, show (x / 9223372036854775808 + 1) % 2 = 1 by omega]; rfl
    · rw [h5, show (x / 9223372036854775808 + 1) % 2 = 0 by omega]; rfl
  unfold key at h ⊢
  unfold Format.read at h ⊢
  rw [lp, bn, ir, sw] at h ⊢
  dsimp only at h ⊢
  rw [e1, e2, e3]
  generalize (x / 9223372036854775808 % 2 == 1) = s at *
  split
  · rename_i g
    rw [if_pos g] at h
    have : key 0 = key 0 := rfl
    simp only [keyD, Option.some.injEq] at h ⊢
    rw [units_neg, h]
  · rename_i g
    rw [if_neg g] at h
    split
    · rename_i g2
      rw [if_pos g2] at h
      simp only [keyD, Option.some.injEq] at h ⊢
      rw [units_neg, h]
    · rename_i g2
      rw [if_neg g2] at h
      split
      · rename_i g3
        rw [if_pos g3] at h
        simp only [keyD, Option.some.injEq] at h ⊢
        subst h
        cases s <;> simp
      · rename_i g3
        rw [if_neg g3] at h
        cases h
end Go.Proofs.YtfmfikodnpnblaaDoor.FltNeg
