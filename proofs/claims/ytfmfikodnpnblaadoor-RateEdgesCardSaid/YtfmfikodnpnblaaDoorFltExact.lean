/- Sums and products of whole numbers, as words: what is exact is the word of the whole number. No program here. -/
import Derived.Test.YtfmfikodnpnblaaDoorFltInj
import Derived.Test.YtfmfikodnpnblaaDoorFltAdd
set_option linter.unusedVariables false
set_option linter.unusedSimpArgs false
namespace Go.Proofs.YtfmfikodnpnblaaDoor.FltExact
open Ieee Go.Proofs.YtfmfikodnpnblaaDoor.Flt Go.Proofs.YtfmfikodnpnblaaDoor.FltClk Go.Proofs.YtfmfikodnpnblaaDoor.FltAdd Go.Proofs.YtfmfikodnpnblaaDoor.FltInj

theorem ofInt_is (n : Int) : floatOfInt .f64 n = double.nearest (decide (n < 0)) n.natAbs 0 := rfl
theorem add_is {x y r : Nat} {a b : Int} (hx : key x = some a) (hy : key y = some b) (ha : a.natAbs < p2 2150) (hb : b.natAbs < p2 2150) (h : floatBits .add .f64 x y = some r) : ∃ s m i, r = double.nearest s m i := by
  obtain ⟨s, m, i, ex, _⟩ := key_number hx ha
  obtain ⟨t, n, j, ey, _⟩ := key_number hy hb
  have h' : Format.add double x y = some r := h
  unfold Format.add at h'
  rw [ex, ey] at h'
  injection h' with h'
  exact ⟨_, _, _, h'.symm⟩
theorem U_ne : U ≠ 0 := by have := U_pos; omega
/-- a sum of whole numbers. -/
theorem add_int (a b : Int) (ha : a.natAbs < 4503599627370496) (hb : b.natAbs < 4503599627370496) (h0 : a + b ≠ 0) : floatBits .add .f64 (floatOfInt .f64 a) (floatOfInt .f64 b) = some (floatOfInt .f64 (a + b)) := by
  have ka := key_ofInt a (by omega)
  have kb := key_ofInt b (by omega)
  have kc := key_ofInt (a + b) (by omega)
  have sa := int_small (n := a) (by omega)
  have sb := int_small (n := b) (by omega)
  have sc := int_small (n := a + b) (by omega)
  obtain ⟨r, h1, h2⟩ := key_add ka kb sa sb (q := (a + b).natAbs) (e := 1074) (by rw [← Int.add_mul, Int.natAbs_mul]; unfold U; rw [Int.natAbs_natCast]) (by rw [p2_53]; omega) (by omega)
  rw [← Int.add_mul] at h2
  obtain ⟨s, m, i, hr⟩ := add_is ka kb sa sb h1
  rw [h1]
  congr 1
  rw [hr] at h2 ⊢
  rw [ofInt_is] at kc ⊢
  exact nearest_inj (Int.mul_ne_zero h0 U_ne) sc h2 kc
/-- a product of whole numbers. -/
theorem mul_int (a b : Int) (ha : a.natAbs < 9007199254740992) (hb : b.natAbs < 9007199254740992) (hc : (a * b).natAbs < 9007199254740992) (h0 : a * b ≠ 0) : floatBits .mul .f64 (floatOfInt .f64 a) (floatOfInt .f64 b) = some (floatOfInt .f64 (a * b)) := by
  have ka := key_ofInt a ha
  have kb := key_ofInt b hb
  have kc := key_ofInt (a * b) hc
  have sc := int_small hc
  obtain ⟨s, m, i, ex, i0, _, _, _, hxa⟩ := key_number ka (int_small ha)
  obtain ⟨t, n, j, ey, j0, _, _, _, hyb⟩ := key_number kb (int_small hb)
  have hmul : floatBits .mul .f64 (floatOfInt .f64 a) (floatOfInt .f64 b) = some (double.nearest (s ^^ t) (m * n) (i + j)) := by
    show Format.mul double _ _ = _
    unfold Format.mul
    rw [ex, ey]
    rfl
  have ua : (a * U).natAbs = m * p2 (i + 1074).toNat := by rw [hxa, units_abs]
  have ub : (b * U).natAbs = n * p2 (j + 1074).toNat := by rw [hyb, units_abs]
  have hU : U.natAbs = p2 1074 := by unfold U; rw [Int.natAbs_natCast]
  rw [Int.natAbs_mul, hU] at ua ub
  have hk : key (double.nearest (s ^^ t) (m * n) (i + j)) = some (if (s ^^ t) = true then -(((a * b).natAbs * p2 1074 : Nat) : Int) else (((a * b).natAbs * p2 1074 : Nat) : Int)) := by
    refine nearest_key (s ^^ t) (m * n) (i + j) ((a * b).natAbs * p2 1074) ((i + 1074).toNat + (j + 1074).toNat) 1074 (a * b).natAbs 1074 (by omega) ?_ rfl (by rw [p2_53]; exact hc) (by omega)
    rw [p2_add, Int.natAbs_mul]
    calc m * n * (p2 (i + 1074).toNat * p2 (j + 1074).toNat) = (m * p2 (i + 1074).toNat) * (n * p2 (j + 1074).toNat) := by simp only [Nat.mul_assoc, Nat.mul_comm, Nat.mul_left_comm]
      _ = (a.natAbs * p2 1074) * (b.natAbs * p2 1074) := by rw [ua, ub]
      _ = a.natAbs * b.natAbs * p2 1074 * p2 1074 := by simp only [Nat.mul_assoc, Nat.mul_comm, Nat.mul_left_comm]
  have sign : (if (s ^^ t) = true then -(((a * b).natAbs * p2 1074 : Nat) : Int) else (((a * b).natAbs * p2 1074 : Nat) : Int)) = a * b * U := by
    have hp := p2_pos 1074
    have hUp := U_pos
    have an : a ≠ 0 := fun e => h0 (by rw [e, Int.zero_mul])
    have bn : b ≠ 0 := fun e => h0 (by rw [e, Int.mul_zero])
    have sa : s = decide (a < 0) := by
      unfold units at hxa
      cases s
      · by_cases h : a < 0
        · have := Int.mul_neg_of_neg_of_pos h hUp
          simp at hxa; omega
        · rw [decide_eq_false h]
      · by_cases h : a < 0
        · rw [decide_eq_true h]
        · have := Int.mul_pos (show 0 < a by omega) hUp
          simp at hxa; omega
    have sb : t = decide (b < 0) := by
      unfold units at hyb
      cases t
      · by_cases h : b < 0
        · have := Int.mul_neg_of_neg_of_pos h hUp
          simp at hyb; omega
        · rw [decide_eq_false h]
      · by_cases h : b < 0
        · rw [decide_eq_true h]
        · have := Int.mul_pos (show 0 < b by omega) hUp
          simp at hyb; omega
    have hUe : (p2 1074 : Int) = U := rfl
    rw [Int.natCast_mul, hUe, sa, sb]
    by_cases h1 : a < 0 <;> by_cases h2 : b < 0 <;> simp only [h1, h2, decide_true, decide_false, Bool.xor_true, Bool.xor_false, Bool.not_true, Bool.not_false, Bool.false_eq_true, if_true, if_false]
    · have := Int.mul_pos_of_neg_of_neg h1 h2
      rw [show (((a * b).natAbs : Nat) : Int) = a * b by omega]
    · have := Int.mul_neg_of_neg_of_pos h1 (show 0 < b by omega)
      rw [show (((a * b).natAbs : Nat) : Int) = -(a * b) by omega, Int.neg_mul, Int.neg_neg]
    · have := Int.mul_neg_of_pos_of_neg (show 0 < a by omega) h2
      rw [show (((a * b).natAbs : Nat) : Int) = -(a * b) by omega, Int.neg_mul, Int.neg_neg]
    · have := Int.mul_pos (show 0 < a by omega) (show 0 < b by omega)
      rw [show (((a * b).natAbs : Nat) : Int) = a * b by omega]
  rw [sign] at hk
  rw [hmul]
  congr 1
  rw [ofInt_is] at kc ⊢
  exact nearest_inj (Int.mul_ne_zero h0 U_ne) sc hk kc
end Go.Proofs.YtfmfikodnpnblaaDoor.FltExact
