/- The calendar's numbers, plainly: years of 365 days and a quarter, months from March on. No program here. -/
import Derived.Test.YtfmfikodnpnblaaDoorBase
set_option linter.unusedVariables false
namespace Go.Proofs.YtfmfikodnpnblaaDoor.Civil

def gq (o : Nat) : Nat := o - o / 1460 + o / 36524 - o / 146096
def st (y : Nat) : Nat := 365 * y + y / 4 - y / 100
theorem gq_step (o : Nat) (h : o < 146096) : gq o ≤ gq (o + 1) := by
  unfold gq
  by_cases h1 : o + 1 = 146096
  · obtain rfl : o = 146095 := by omega
    decide
  · omega
theorem gq_mono (o : Nat) : ∀ k : Nat, o + k ≤ 146096 → gq o ≤ gq (o + k)
  | 0, _ => Nat.le_refl _
  | k + 1, h => Nat.le_trans (gq_mono o k (by omega)) (gq_step (o + k) (by omega))
theorem gq_le {a b : Nat} (h : a ≤ b) (hb : b ≤ 146096) : gq a ≤ gq b := by
  have := gq_mono a (b - a) (by omega)
  rwa [show a + (b - a) = b by omega] at this
def okYear (y : Nat) : Bool := decide (365 * y ≤ gq (st y)) && decide (gq (st (y + 1) - 1) < 365 * (y + 1)) && decide (st y < st (y + 1))
theorem years_ok : (List.range 400).all okYear = true := by decide +kernel
theorem last_ok : gq 146096 < 365 * 400 ∧ 365 * 399 ≤ gq 146096 ∧ st 400 = 146096 := by decide
/-- the year of a day (of 146097, from March on). -/
theorem year_of (o : Nat) (h : o ≤ 146096) : gq o / 365 ≤ 399 ∧ st (gq o / 365) ≤ o ∧ (gq o / 365 < 399 → o < st (gq o / 365 + 1)) := by
  have hall : ∀ y, y < 400 → 365 * y ≤ gq (st y) ∧ gq (st (y + 1) - 1) < 365 * (y + 1) ∧ st y < st (y + 1) := fun y hy => by
    have := List.all_eq_true.1 years_ok y (List.mem_range.2 hy)
    unfold okYear at this
    simp only [Bool.and_eq_true, decide_eq_true_eq] at this
    exact ⟨this.1.1, this.1.2, this.2⟩
  have hst : ∀ y, y ≤ 400 → st y ≤ 146096 := by
    intro y hy
    unfold st
    omega
  -- the year whose days these are
  have hex : ∀ n, n ≤ 400 → o < st n → ∃ y, y < n ∧ st y ≤ o ∧ o < st (y + 1) := by
    intro n
    induction n with
    | zero => intro _ h0; unfold st at h0; omega
    | succ n ih =>
      intro hn h0
      rcases Nat.lt_or_ge o (st n) with h1 | h1
      · obtain ⟨y, a, b⟩ := ih (by omega) h1
        exact ⟨y, by omega, b⟩
      · exact ⟨n, by omega, h1, h0⟩
  rcases Nat.lt_or_ge o 146096 with hlt | hge
  · obtain ⟨y, hy, h1, h2⟩ := hex 400 (Nat.le_refl _) (by rw [last_ok.2.2]; exact hlt)
    obtain ⟨g1, g2, g3⟩ := hall y hy
    have m1 := gq_le h1 h
    have m2 := gq_le (show o ≤ st (y + 1) - 1 by omega) (by have := hst (y + 1) (by omega); omega)
    have e : gq o / 365 = y := by omega
    rw [e]
    exact ⟨by omega, h1, fun _ => h2⟩
  · obtain rfl : o = 146096 := by omega
    have e : gq 146096 / 365 = 399 := by have := last_ok; omega
    rw [e]
    exact ⟨by omega, by decide, fun h => absurd h (by omega)⟩
end Go.Proofs.YtfmfikodnpnblaaDoor.Civil
