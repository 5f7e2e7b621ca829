/- Words of doubles with the same key, which is not nought, are one word. No program here. -/
import Derived.Test.YtfmfikodnpnblaaDoorFlt
set_option linter.unusedVariables false
namespace Go.Proofs.YtfmfikodnpnblaaDoor.FltInj
open Ieee Go.Proofs.YtfmfikodnpnblaaDoor.Flt
/-- what a rung counts. -/
def rung (r : Nat) : Nat := if r < 4503599627370496 then r else (4503599627370496 + r % 4503599627370496) * p2 (r / 4503599627370496 - 1)
theorem rung_step (r : Nat) : rung r < rung (r + 1) := by
  unfold rung
  by_cases h : r + 1 < 4503599627370496
  · rw [if_pos h, if_pos (by omega)]; omega
  · rw [if_neg h]
    by_cases h0 : r < 4503599627370496
    · have e : r + 1 = 4503599627370496 := by omega
      rw [if_pos h0, e, show (4503599627370496 : Nat) % 4503599627370496 = 0 by rfl, show (4503599627370496 : Nat) / 4503599627370496 - 1 = 0 by rfl, show p2 0 = 1 by rw [← p2_is]]
      omega
    · rw [if_neg h0]
      have hp := p2_pos (r / 4503599627370496 - 1)
      by_cases hm : r % 4503599627370496 = 4503599627370495
      · have e1 : (r + 1) % 4503599627370496 = 0 := by omega
        have e2 : (r + 1) / 4503599627370496 - 1 = (r / 4503599627370496 - 1) + 1 := by omega
        rw [e1, e2, hm, p2_add, show p2 1 = 2 by rw [← p2_is]]
        generalize p2 (r / 4503599627370496 - 1) = g at *
        omega
      · have e1 : (r + 1) % 4503599627370496 = r % 4503599627370496 + 1 := by omega
        have e2 : (r + 1) / 4503599627370496 = r / 4503599627370496 := by omega
        rw [e1, e2]
        exact Nat.mul_lt_mul_of_pos_right (by omega) hp
theorem rung_mono {a b : Nat} (h : a < b) : rung a < rung b := by
  induction h with
  | refl => exact rung_step a
  | step _ ih => exact Nat.lt_trans ih (rung_step _)
theorem rung_inj {a b : Nat} (h : rung a = rung b) : a = b := by
  rcases Nat.lt_trichotomy a b with g | g | g
  · have := rung_mono g; omega
  · exact g
  · have := rung_mono g; omega
theorem word_key (s : Bool) (r : Nat) (h : r < 9218868437227405312) : key (double.word s r) = some (if s then -(rung r : Int) else (rung r : Int)) := by
  unfold key
  rw [read_word s r h]
  unfold rung
  by_cases h0 : r < 4503599627370496
  · rw [if_pos h0, if_pos h0]
    show some (units s r (-1074)) = _
    unfold units
    rw [show ((-1074 : Int) + 1074).toNat = 0 by rfl, show p2 0 = 1 by rw [← p2_is], Nat.mul_one]
  · rw [if_neg h0, if_neg h0]
    show some (units s _ _) = _
    unfold units
    rw [show (-1074 + ((r / 4503599627370496 - 1 : Nat) : Int) + 1074).toNat = r / 4503599627370496 - 1 by omega]
theorem word_inj {s t : Bool} {r q : Nat} (hr : r < 9218868437227405312) (hq : q < 9218868437227405312) {a : Int} (ha : a ≠ 0) (h1 : key (double.word s r) = some a) (h2 : key (double.word t q) = some a) : double.word s r = double.word t q := by
  rw [word_key s r hr] at h1
  rw [word_key t q hq] at h2
  injection h1 with h1
  injection h2 with h2
  have hst : s = t := by cases s <;> cases t <;> simp at h1 h2 <;> first | rfl | omega
  subst hst
  have : rung r = rung q := by
    cases s <;> simp at h1 h2 <;> omega
  rw [rung_inj this]
theorem inf_key (s : Bool) : key (double.word s 9218868437227405312) = some (if s then -big else big) := by
  cases s
  · show keyD (double.read 9218868437227405312) = _
    rw [show double.read 9218868437227405312 = .infinity false by decide +kernel]; rfl
  · show keyD (double.read 18442240474082181120) = _
    rw [show double.read 18442240474082181120 = .infinity true by decide +kernel]; rfl
theorem nearest_is (s : Bool) (m : Nat) (p : Int) : ∃ q, q ≤ 9218868437227405312 ∧ double.nearest s m p = double.word s q := by
  unfold Format.nearest
  by_cases h : m = 0
  · rw [if_pos h]; exact ⟨0, by omega, rfl⟩
  · rw [if_neg h]
    refine ⟨_, ?_, rfl⟩
    rw [← ir]
    exact Nat.min_le_right _ _
theorem nearest_inj {s t : Bool} {m n : Nat} {p q : Int} {a : Int} (ha : a ≠ 0) (hb : a.natAbs < p2 2150) (h1 : key (double.nearest s m p) = some a) (h2 : key (double.nearest t n q) = some a) : double.nearest s m p = double.nearest t n q := by
  have hbg := big_gt
  obtain ⟨r1, hr1, e1⟩ := nearest_is s m p
  obtain ⟨r2, hr2, e2⟩ := nearest_is t n q
  rw [e1] at h1 ⊢
  rw [e2] at h2 ⊢
  have l1 : r1 < 9218868437227405312 := by
    rcases Nat.lt_or_ge r1 9218868437227405312 with h | h
    · exact h
    · have : r1 = 9218868437227405312 := by omega
      rw [this, inf_key] at h1
      injection h1 with h1
      exfalso
      generalize p2 2150 = B at *
      cases s <;> simp at h1 <;> omega
  have l2 : r2 < 9218868437227405312 := by
    rcases Nat.lt_or_ge r2 9218868437227405312 with h | h
    · exact h
    · have : r2 = 9218868437227405312 := by omega
      rw [this, inf_key] at h2
      injection h2 with h2
      exfalso
      generalize p2 2150 = B at *
      cases t <;> simp at h2 <;> omega
  exact word_inj l1 l2 ha h1 h2
/-- a sum's, a product's, a quotient's word, where it is a whole number. -/
theorem write_number (s : Bool) (m : Nat) (i : Int) : double.write (.number s m i) = double.nearest s m i := rfl
end Go.Proofs.YtfmfikodnpnblaaDoor.FltInj
