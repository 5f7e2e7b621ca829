-- Written by this repo's gprint.py over the kit's printer, out of the translation. Not trusted: Lean checks it.
import Derived.Test.YtfmfikodnpnblaaDoorPRateSx0
namespace Go.Proofs.YtfmfikodnpnblaaDoor.PRateS
open Go.RowKit Go.Proofs.YtfmfikodnpnblaaDoorW.PrintWords Go.Proofs.YtfmfikodnpnblaaDoorW.PrintLast Go.Proofs.YtfmfikodnpnblaaDoorW.PrintMore
attribute [local go_sem] max2_int min2_int max_two min_two max_three min_three max_four min_four   -- for this text's walks alone

attribute [local go_sem] fop_run fint_run fofint_run
set_option linter.unusedVariables false
set_option linter.unusedSimpArgs false

/-! ### stevedoreref4_Same: function 49 -/
def stevedoreref4_Same.f (a0 : Nat) (a1 : Nat) : Option (Bool) := if (FloatKind.f64.format.order a0 a1 == some .eq) = true then (some true) else (if (FloatKind.f64.format.order a0 a0 != some .eq) = true then (some (FloatKind.f64.format.order a1 a1 != some .eq)) else (some false))
set_option maxHeartbeats 8000000 in
set_option maxRecDepth 100000 in
theorem stevedoreref4_Same.calls (a0 : Nat) (a1 : Nat) (r : Bool) (w : World) (h : stevedoreref4_Same.f a0 a1 = some r) :
    Calls Tryd.prog 49 #[.float .f64 a0, .float .f64 a1] w fun e w' => e = .returned (.bool r) ∧ Drawn0 w w' := by
  have H : (if (FloatKind.f64.format.order a0 a1 == some .eq) = true then (some true) else (if (FloatKind.f64.format.order a0 a0 != some .eq) = true then (some (FloatKind.f64.format.order a1 a1 != some .eq)) else (some false))) = some r := h
  clear h
  by_cases c3 : (FloatKind.f64.format.order a0 a1 == some .eq) = true
  · rw [if_pos c3] at H
    have c3b0 : (FloatKind.f64.format.order a0 a1 == some .eq) = true := c3
    (try (have c3b1 : decide (FloatKind.f64.format.order a0 a1 = some .eq) = true := by simpa using c3))
    (try (have c3b2 : (FloatKind.f64.format.order a0 a1 == some .eq) = true := by simpa using c3))
    clear c3
    obtain rfl := Option.some.inj H
    go_enter Tryd.func49, Tryd.ntmps49
    go_wp2
    go_ret
    exact ⟨by first | rfl | (simp only [show ∀ l : List UInt8, (l != []) = (!l.isEmpty) from fun l => by cases l <;> rfl]; rfl) | (simp; done) | (simp [*]; done), by repeat (first | exact Drawn0.refl _ | apply Drawn0.step)⟩
  · rw [if_neg c3] at H
    have c3b0 : (FloatKind.f64.format.order a0 a1 == some .eq) = false := by simpa using c3
    (try (have c3b1 : decide (FloatKind.f64.format.order a0 a1 = some .eq) = false := by simpa using c3))
    (try (have c3b2 : (FloatKind.f64.format.order a0 a1 == some .eq) = false := by simpa using c3))
    (try (have c3b3 : ¬ (FloatKind.f64.format.order a0 a1 = some .eq) := by simpa using c3))
    clear c3
    by_cases c4 : (FloatKind.f64.format.order a0 a0 != some .eq) = true
    · rw [if_pos c4] at H
      have c4b0 : (FloatKind.f64.format.order a0 a0 != some .eq) = true := c4
      (try (have c4b1 : decide (FloatKind.f64.format.order a0 a0 = some .eq) = false := by simpa using c4))
      (try (have c4b2 : (FloatKind.f64.format.order a0 a0 == some .eq) = false := by simpa using c4))
      (try (have c4b3 : ¬ (FloatKind.f64.format.order a0 a0 = some .eq) := by simpa using c4))
      clear c4
      obtain rfl := Option.some.inj H
      go_enter Tryd.func49, Tryd.ntmps49
      go_wp2
      go_ret
      exact ⟨by first | rfl | (simp only [show ∀ l : List UInt8, (l != []) = (!l.isEmpty) from fun l => by cases l <;> rfl]; rfl) | (simp; done) | (simp [*]; done), by repeat (first | exact Drawn0.refl _ | apply Drawn0.step)⟩
    · rw [if_neg c4] at H
      have c4b0 : (FloatKind.f64.format.order a0 a0 != some .eq) = false := by simpa using c4
      (try (have c4b1 : decide (FloatKind.f64.format.order a0 a0 = some .eq) = true := by simpa using c4))
      (try (have c4b2 : (FloatKind.f64.format.order a0 a0 == some .eq) = true := by simpa using c4))
      clear c4
      obtain rfl := Option.some.inj H
      go_enter Tryd.func49, Tryd.ntmps49
      go_wp2
      go_ret
      exact ⟨by first | rfl | (simp only [show ∀ l : List UInt8, (l != []) = (!l.isEmpty) from fun l => by cases l <;> rfl]; rfl) | (simp; done) | (simp [*]; done), by repeat (first | exact Drawn0.refl _ | apply Drawn0.step)⟩

end Go.Proofs.YtfmfikodnpnblaaDoor.PRateS
