/- The document's NaN, whose bits are drawn. By hand. -/
import Derived.Test.YtfmfikodnpnblaaDoorClkLib
import Derived.Test.YtfmfikodnpnblaaDoorFltWords
set_option linter.unusedVariables false
namespace Go.Proofs.YtfmfikodnpnblaaDoor.FltNone
open Go.RowKit Go.Proofs Go.Proofs.YtfmfikodnpnblaaDoorW.PrintWords Go.Proofs.YtfmfikodnpnblaaDoor.Base
attribute [local go_sem] fop_run fint_run fofint_run

theorem read_nan (b m : Nat) (h : m < 4503599627370495) (hb : b = 9218868437227405313 + m ∨ b = 9223372036854775808 + (9218868437227405313 + m)) : ∃ s t, Ieee.double.read b = .nan s t := by
  unfold Ieee.Format.read
  rw [Flt.lp, Flt.bn, Flt.ir, Flt.sw]
  dsimp only
  rw [if_neg (by omega), if_neg (by omega), if_neg (by omega)]
  exact ⟨_, _, rfl⟩
theorem nan_key {b : Nat} (h : ∃ s t, Ieee.double.read b = .nan s t) : Flt.key b = none := by
  obtain ⟨s, t, h⟩ := h
  unfold Flt.key
  rw [h]; rfl
theorem zero_by_zero : floatBits .quo .f64 0 0 = none := by decide +kernel
theorem quo_nan {P : Program} (t : TypeId) (w : World) : ∃ b, Flt.key b = none ∧ (binOp .quo t (.float .f64 0) (.float .f64 0)).run P w = .ok (.float .f64 b) w.drew := by
  have h0 : FloatKind.f64.format.div 0 0 = none := zero_by_zero
  have hf : Question.forced (.nanBits .f64 0 0) = false := rfl
  refine ⟨Question.cut (.nanBits .f64 0 0) (w.tape w.drawn (.nanBits .f64 0 0)), ?_, ?_⟩
  · exact nan_key (read_nan _ (w.tape w.drawn (.nanBits .f64 0 0) / 2 % (2 ^ 52 - 1)) (Nat.mod_lt _ (by decide)) (by
      simp only [Question.cut]
      rcases Nat.mod_two_eq_zero_or_one (w.tape w.drawn (.nanBits .f64 0 0)) with h | h <;> rw [h]
      · left; omega
      · right; omega))
  · simp only [binOp, Op.floatArith, h0]
    simp [hf]
theorem none_calls (w : World) : Calls Tryd.prog 20 #[] w fun e w' => ∃ b, e = .returned (.float .f64 b) ∧ Flt.key b = none ∧ Below w.heap.size w w' := by
  obtain ⟨b, hb, hr⟩ := quo_nan (P := Tryd.prog) 27 w
  have HB := Aside0.mk hb
  clear hb
  go_enter Tryd.func20, Tryd.ntmps20
  go_wp2
  go_ret
  exact ⟨b, rfl, HB.out, below_drew (Below.refl _ _)⟩

end Go.Proofs.YtfmfikodnpnblaaDoor.FltNone
