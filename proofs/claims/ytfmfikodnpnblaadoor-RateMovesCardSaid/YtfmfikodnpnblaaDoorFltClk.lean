/- Times as doubles, plainly: cut down to parts of 512, to seconds. No program here. -/
import Derived.Test.YtfmfikodnpnblaaDoorFlt
set_option linter.unusedVariables false
set_option linter.unusedSimpArgs false
namespace Go.Proofs.YtfmfikodnpnblaaDoor.FltClk
open Ieee Go.Proofs.YtfmfikodnpnblaaDoor.Flt

/-- the parts of 512 as units. -/
def V : Int := (p2 1065 : Nat)
theorem V_pos : 0 < V := by unfold V; have := p2_pos 1065; omega
theorem U_V : U = V * 512 := by
  unfold U V
  rw [show (1074 : Nat) = 1065 + 9 by rfl, p2_add, show p2 9 = 512 by rw [← p2_is], Int.natCast_mul]
  rfl
theorem U_small : 8589934592 * U.natAbs < p2 1200 := by
  unfold U
  rw [Int.natAbs_natCast, show (8589934592 : Nat) = p2 33 by rw [← p2_is], ← p2_add]
  exact p2_lt (by omega)
theorem abs_small {a : Int} (h : -(8589934592 * U) ≤ a) (h' : a ≤ 8589934592 * U) : a.natAbs < p2 1200 := by
  have := U_small
  have := U_pos
  omega
theorem small_2150 {n : Nat} (h : n < p2 1200) : n < p2 2150 := Nat.lt_trans h (p2_lt (by omega))
/-- a whole number's units. -/
theorem int_small {n : Int} (h : n.natAbs < 9007199254740992) : (n * U).natAbs < p2 2150 := by
  rw [Int.natAbs_mul]
  unfold U
  rw [Int.natAbs_natCast]
  rw [← p2_53] at h
  have h1 : n.natAbs * p2 1074 < p2 53 * p2 1074 := Nat.mul_lt_mul_of_pos_right h (p2_pos _)
  rw [← p2_add] at h1
  exact Nat.lt_trans h1 (p2_lt (by omega))
theorem div512_of {x : Nat} {n : Int} (h : key x = some (n * U)) (hn : n.natAbs < 9007199254740992) : ∃ q, floatBits .quo .f64 x w512 = some q ∧ key q = some (n * V) :=
  key_div512 (q := n.natAbs) (e := 1065) h (int_small hn) (by rw [U_V, Int.mul_assoc]) (by unfold V; rw [Int.natAbs_mul, Int.natAbs_natCast]) (by rw [p2_53]; exact hn) (by omega)
theorem ediv_bound {a : Int} (h : -(8589934592 * U) ≤ a) (h' : a ≤ 8589934592 * U) : -4398046511104 ≤ a * 512 / U ∧ a * 512 / U ≤ 4398046511104 := by
  have hU := U_pos
  constructor
  · apply (Int.le_ediv_iff_mul_le hU).2; omega
  · apply Int.ediv_le_of_le_mul hU; omega
/-- cut down to parts of 512, as the program does it. -/
theorem fine_key {x : Nat} {a : Int} (hx : key x = some a) (h : -(8589934592 * U) ≤ a) (h' : a ≤ 8589934592 * U) :
    ∃ m, floatBits .mul .f64 x w512 = some m ∧ key m = some (a * 512) ∧ ∃ q, floatBits .quo .f64 (floorBits m) w512 = some q ∧ key q = some (a * 512 / U * V) := by
  obtain ⟨m, hm, hk⟩ := key_mul512 hx (abs_small h h')
  obtain ⟨h0, h1⟩ := ediv_bound h h'
  have hb : (a * 512).natAbs < p2 2150 := by
    have h2 := abs_small h h'
    have h3 : a.natAbs * 512 < p2 1200 * p2 9 := by rw [show p2 9 = 512 by rw [← p2_is]]; omega
    rw [← p2_add] at h3
    rw [Int.natAbs_mul]
    exact Nat.lt_trans h3 (p2_lt (by omega))
  have hf := key_floor hk hb
  obtain ⟨q, hq, hqk⟩ := div512_of hf (by omega)
  exact ⟨m, hm, hk, q, hq, hqk⟩
/-- a whole number, as the document takes it: cut towards nought, one less where that is too much. -/
theorem tdiv_facts (a : Int) {c : Int} (hc : 0 < c) : (c * 0 ≤ a → a.tdiv c = a / c) ∧ (a / c = a.tdiv c ∨ a / c = a.tdiv c - 1) ∧ (a < a.tdiv c * c ↔ a / c = a.tdiv c - 1) := by
  have h1 := Int.mul_tdiv_add_tmod a c
  have h2 := Int.mul_ediv_add_emod a c
  have h3 := Int.emod_nonneg a (show c ≠ 0 by omega)
  have h4 := Int.emod_lt_of_pos a hc
  rcases Int.lt_or_le a 0 with ha | ha
  · have hle : -c < a.tmod c ∧ a.tmod c ≤ 0 := by
      have e : a.tmod c = -((-a).tmod c) := by rw [← Int.neg_tmod, Int.neg_neg]
      have g1 := Int.tmod_nonneg c (show 0 ≤ -a by omega)
      have g2 := Int.tmod_lt_of_pos (-a) hc
      omega
    generalize a.tdiv c = q at *
    generalize a / c = r at *
    generalize a.tmod c = s at *
    generalize a % c = t at *
    have hd : c * (q - r) = t - s := by rw [Int.mul_sub]; omega
    have hqr : r = q ∨ r = q - 1 := by
      have g1 : c * (q - r) < c * 2 := by omega
      have g2 : c * (-1) < c * (q - r) := by omega
      have g3 := Int.lt_of_mul_lt_mul_left g1 (by omega)
      have g4 := Int.lt_of_mul_lt_mul_left g2 (by omega)
      omega
    refine ⟨fun h => by omega, hqr, ?_⟩
    rw [Int.mul_comm q c]
    constructor
    · intro h
      rcases hqr with e | e
      · subst e; omega
      · exact e
    · intro h
      subst h
      have : c * (q - 1) = c * q - c := by rw [Int.mul_sub, Int.mul_one]
      omega
  · have e := Int.tdiv_eq_ediv_of_nonneg (b := c) ha
    refine ⟨fun _ => e, .inl e.symm, ?_⟩
    rw [e]
    constructor
    · intro h
      rw [Int.mul_comm] at h
      omega
    · intro h; omega
theorem whole_key {x : Nat} {a : Int} (hx : key x = some a) (hb : a.natAbs < p2 1250) (h0 : -9007199254740991 ≤ a / U) (h1 : a / U ≤ 9007199254740990) :
    ∃ n, floatToIntVal .f64 x .i64 = some n ∧ key (floatOfInt .f64 n) = some (n * U) ∧ n.natAbs < 9007199254740992 ∧ ((n * U > a ∧ a / U = n - 1) ∨ (n * U ≤ a ∧ a / U = n)) := by
  obtain ⟨f1, f2, f3⟩ := tdiv_facts a U_pos
  have hn : (a.tdiv U).natAbs < 9007199254740992 := by omega
  refine ⟨a.tdiv U, int_key hx (Nat.lt_trans hb (p2_lt (by omega))) (by omega) (by omega), key_ofInt _ hn, hn, ?_⟩
  by_cases h : a < a.tdiv U * U
  · exact .inl ⟨h, f3.1 h⟩
  · refine .inr ⟨by omega, ?_⟩
    rcases f2 with e | e
    · exact e
    · exact absurd (f3.2 e) h
/-! ### what they come to -/
def partsOf (a : Int) : Int := if a < -(8589934592 * U) then -4398046511104 else if 8589934592 * U < a then 4398046511104 else a * 512 / U
theorem partsOf_bound (a : Int) : -4398046511104 ≤ partsOf a ∧ partsOf a ≤ 4398046511104 := by
  unfold partsOf
  split
  · omega
  · split
    · omega
    · exact ediv_bound (by omega) (by omega)
theorem partsOf_mono {a b : Int} (h : a ≤ b) : partsOf a ≤ partsOf b := by
  have hU := U_pos
  unfold partsOf
  by_cases h1 : a < -(8589934592 * U)
  · rw [if_pos h1]
    exact (partsOf_bound b).1
  · rw [if_neg h1, if_neg (show ¬ b < _ by omega)]
    by_cases h2 : 8589934592 * U < b
    · rw [if_pos h2]
      have := (partsOf_bound a).2
      unfold partsOf at this
      rw [if_neg h1] at this
      exact this
    · rw [if_neg h2, if_neg (by omega)]
      exact Int.ediv_le_ediv hU (by omega)
/-- a time between two seconds, cut down to a second. -/
def clampTo (lo hi top : Int) (a : Int) : Int := if a < lo * U then lo else if hi * U ≤ a then top else a / U
theorem clamp_bound {lo hi top a : Int} (h0 : lo ≤ top) (h1 : hi - 1 ≤ top) : lo ≤ clampTo lo hi top a ∧ clampTo lo hi top a ≤ top := by
  have hU := U_pos
  unfold clampTo
  split
  · omega
  · split
    · omega
    · have h2 : lo ≤ a / U := (Int.le_ediv_iff_mul_le hU).2 (by omega)
      have h3 : a / U < hi := (Int.ediv_lt_iff_lt_mul hU).2 (by omega)
      omega
theorem clamp_mono {lo hi top a b : Int} (h0 : lo ≤ top) (h1 : hi - 1 ≤ top) (h : a ≤ b) : clampTo lo hi top a ≤ clampTo lo hi top b := by
  have hU := U_pos
  have ha := clamp_bound (a := a) h0 h1
  have hb := clamp_bound (a := b) h0 h1
  by_cases h2 : a < lo * U
  · have e : clampTo lo hi top a = lo := if_pos h2
    omega
  · by_cases h3 : hi * U ≤ b
    · have e : clampTo lo hi top b = top := by unfold clampTo; rw [if_neg (by omega), if_pos h3]
      omega
    · unfold clampTo
      rw [if_neg h2, if_neg (by omega), if_neg (by omega), if_neg h3]
      exact Int.ediv_le_ediv hU h
end Go.Proofs.YtfmfikodnpnblaaDoor.FltClk
