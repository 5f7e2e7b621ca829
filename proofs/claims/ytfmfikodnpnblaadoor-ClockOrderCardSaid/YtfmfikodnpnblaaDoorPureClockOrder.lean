/- ClockOrder, plainly: what is later is floored to no earlier. -/
import Derived.Test.YtfmfikodnpnblaaDoorPClockOrderx
import Derived.Test.YtfmfikodnpnblaaDoorClkDateEq
set_option linter.unusedVariables false
namespace Go.Proofs.YtfmfikodnpnblaaDoor.PureClockOrder
open Go.RowKit Go.Proofs Go.Proofs.YtfmfikodnpnblaaDoorW.PrintWords Go.Proofs.YtfmfikodnpnblaaDoor.PClockOrder Go.Proofs.YtfmfikodnpnblaaDoor.PClk1 Go.Proofs.YtfmfikodnpnblaaDoor.ClkTold Go.Proofs.YtfmfikodnpnblaaDoor.Flt Go.Proofs.YtfmfikodnpnblaaDoor.FltClk Go.Proofs.YtfmfikodnpnblaaDoor.ClkFloat Go.Proofs.YtfmfikodnpnblaaDoor.ClkDateEq

theorem le_true {x y : Nat} {a b : Int} (hx : key x = some a) (hy : key y = some b) (h : a ≤ b) : stevedorelaw4_ClockOrder.j0 2 x y = some true := by
  rw [stevedorelaw4_ClockOrder.j0, ord_le hx hy, if_pos (decide_eq_true h)]
  simp only [stevedorelaw4_told.f, Option.bind_some, if_true]
  obtain ⟨r, hr, hr1, _⟩ := Fine_eq x
  obtain ⟨s, hs, hs1, _⟩ := Fine_eq y
  have hV := V_pos
  have hp : parts x * V ≤ parts y * V := by
    refine Int.mul_le_mul_of_nonneg_right ?_ (by omega)
    unfold parts
    rw [hx, hy]
    exact partsOf_mono h
  rw [hr, hs]
  simp only [Option.bind_some]
  rw [ord_le hr1 hs1, if_pos (decide_eq_true hp), Unix_eq 1 x (by omega), Unix_eq 1 y (by omega)]
  simp only [Option.bind_some]
  rw [if_pos (unixOf_mono hx hy h), Dos_eq 1 x (by omega), Dos_eq 1 y (by omega)]
  simp only [Option.bind_some]
  rw [decide_eq_true (dosOf_mono hx hy h)]
theorem nan_true {x y : Nat} (h : FloatKind.f64.format.order x y = none) : stevedorelaw4_ClockOrder.j0 2 x y = some true := by
  rw [stevedorelaw4_ClockOrder.j0, h]
  rfl
theorem ClockOrder (a0 a1 : Nat) : ∃ k, stevedorelaw4_ClockOrder.f k a0 a1 = some true := by
  refine ⟨2, ?_⟩
  unfold stevedorelaw4_ClockOrder.f
  cases h0 : key a0 with
  | none =>
    rw [ord_none h0 a1]
    exact nan_true (ord_none' h0 a1)
  | some a =>
    cases h1 : key a1 with
    | none =>
      rw [ord_none' h1 a0]
      exact nan_true (ord_none h1 a0)
    | some b =>
      rw [ord_le h0 h1]
      by_cases h : a ≤ b
      · rw [if_pos (decide_eq_true h)]
        exact le_true h0 h1 h
      · rw [if_neg (by rw [decide_eq_false h]; decide)]
        exact le_true h1 h0 (by omega)
end Go.Proofs.YtfmfikodnpnblaaDoor.PureClockOrder
