/- What the print's words lack for doubles: an operation that is not valid draws a NaN. -/
import Derived.Test.YtfmfikodnpnblaaDoorFltNone
set_option linter.unusedVariables false
namespace Go.Proofs.YtfmfikodnpnblaaDoor.FltNan
open Go.RowKit Go.Proofs.YtfmfikodnpnblaaDoorW.PrintWords Go.Proofs.YtfmfikodnpnblaaDoor.Flt Go.Proofs.YtfmfikodnpnblaaDoor.FltNone
/-- the bits that are drawn there. -/
def nanOf (x y : Nat) (w : World) : Nat := Question.cut (.nanBits .f64 x y) (w.tape w.drawn (.nanBits .f64 x y))
theorem nanOf_key (x y : Nat) (w : World) : key (nanOf x y w) = none :=
  nan_key (read_nan _ (w.tape w.drawn (.nanBits .f64 x y) / 2 % (2 ^ 52 - 1)) (Nat.mod_lt _ (by decide)) (by
    unfold nanOf
    simp only [Question.cut]
    rcases Nat.mod_two_eq_zero_or_one (w.tape w.drawn (.nanBits .f64 x y)) with h | h <;> rw [h]
    · left; omega
    · right; omega))
theorem nanOf_order (x y : Nat) (w : World) (z : Nat) : FloatKind.f64.format.order (nanOf x y w) z = none := order_nan (.inl (nanOf_key x y w))
theorem sub_nan_run {P : Program} (t : TypeId) (x y : Nat) (h : fvalid .sub x y = false) (w : World) : (binOp .sub t (.float .f64 x) (.float .f64 y)).run P w = .ok (.float .f64 (nanOf x y w)) w.drew := by
  have h0 : FloatKind.f64.format.sub x y = none := by
    unfold fvalid at h
    show floatBits .sub .f64 x y = none
    cases e : floatBits .sub .f64 x y with
    | none => rfl
    | some r => rw [e] at h; cases h
  have hf : Question.forced (.nanBits .f64 x y) = false := rfl
  simp only [binOp, Op.floatArith, h0]
  simp [hf]
  rfl
end Go.Proofs.YtfmfikodnpnblaaDoor.FltNan
