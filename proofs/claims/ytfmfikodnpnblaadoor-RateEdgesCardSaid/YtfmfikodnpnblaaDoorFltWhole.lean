/- Doubles that are whole numbers: sums, products, quotients that are whole. No program here. -/
import Derived.Test.YtfmfikodnpnblaaDoorFltOk
set_option linter.unusedVariables false
set_option linter.unusedSimpArgs false
namespace Go.Proofs.YtfmfikodnpnblaaDoor.FltWhole
open Ieee Go.Proofs.YtfmfikodnpnblaaDoorW.PrintWords Go.Proofs.YtfmfikodnpnblaaDoor.Flt Go.Proofs.YtfmfikodnpnblaaDoor.FltClk Go.Proofs.YtfmfikodnpnblaaDoor.FltAdd Go.Proofs.YtfmfikodnpnblaaDoor.FltInj Go.Proofs.YtfmfikodnpnblaaDoor.FltExact Go.Proofs.YtfmfikodnpnblaaDoor.FltOk
/-- x is the whole number n (a nought of either sign is 0). -/
def Wk (x : Nat) (n : Int) : Prop := key x = some (n * U)
theorem wk_int (n : Int) (h : n.natAbs < 9007199254740992) : Wk (floatOfInt .f64 n) n := key_ofInt n h
theorem abs_U (n : Int) : (n * U).natAbs = n.natAbs * p2 1074 := by rw [Int.natAbs_mul]; unfold U; rw [Int.natAbs_natCast]
theorem Wk.fin {x : Nat} {n : Int} (h : Wk x n) (hn : n.natAbs < 9007199254740992) : Real_ x := key_fin h (int_small hn)
theorem wk_add {x y : Nat} {a b : Int} (hx : Wk x a) (hy : Wk y b) (ha : a.natAbs < 4503599627370496) (hb : b.natAbs < 4503599627370496) : fvalid .add x y = true ∧ Wk (fop .add x y) (a + b) := by
  obtain ⟨r, h1, h2⟩ := key_add hx hy (int_small (by omega)) (int_small (by omega)) (q := (a + b).natAbs) (e := 1074) (by rw [← Int.add_mul, abs_U]) (by rw [p2_53]; omega) (by omega)
  obtain ⟨g1, g2⟩ := fop_of h1
  exact ⟨g1, by rw [g2]; show key r = _; rw [h2, Int.add_mul]⟩
theorem wk_sub {x y : Nat} {a b : Int} (hx : Wk x a) (hy : Wk y b) (ha : a.natAbs < 4503599627370496) (hb : b.natAbs < 4503599627370496) : fvalid .sub x y = true ∧ Wk (fop .sub x y) (a - b) := by
  obtain ⟨r, h1, h2⟩ := key_sub hx hy (int_small (by omega)) (int_small (by omega)) (q := (a - b).natAbs) (e := 1074) (by rw [← Int.sub_mul, abs_U]) (by rw [p2_53]; omega) (by omega)
  obtain ⟨g1, g2⟩ := fop_of h1
  exact ⟨g1, by rw [g2]; show key r = _; rw [h2, Int.sub_mul]⟩
theorem units_sign {s : Bool} {m : Nat} {i : Int} {a : Int} (h : a * U = units s m i) (h0 : a ≠ 0) : s = decide (a < 0) := by
  have hUp := U_pos
  unfold units at h
  generalize m * p2 (i + 1074).toNat = g at h
  cases s
  · by_cases h1 : a < 0
    · have := Int.mul_neg_of_neg_of_pos h1 hUp
      simp at h; omega
    · rw [decide_eq_false h1]
  · by_cases h1 : a < 0
    · rw [decide_eq_true h1]
    · have := Int.mul_pos (show 0 < a by omega) hUp
      simp at h; omega
/-- the sign of a product, a quotient. -/
theorem sign_of {s t : Bool} {a b c : Int} (hs : a ≠ 0 → s = decide (a < 0)) (ht : b ≠ 0 → t = decide (b < 0)) (h0 : c ≠ 0 → a ≠ 0 ∧ b ≠ 0) (hc : c ≠ 0 → ((a < 0 ↔ b < 0) → 0 < c) ∧ (¬ (a < 0 ↔ b < 0) → c < 0)) :
    (if (s ^^ t) = true then -((c.natAbs * p2 1074 : Nat) : Int) else ((c.natAbs * p2 1074 : Nat) : Int)) = c * U := by
  have hUe : (p2 1074 : Int) = U := rfl
  by_cases h : c = 0
  · subst h; simp
  · obtain ⟨a0, b0⟩ := h0 h
    have hcc := hc h
    rw [hs a0, ht b0, Int.natCast_mul, hUe]
    by_cases h1 : a < 0 <;> by_cases h2 : b < 0 <;> simp only [h1, h2, decide_true, decide_false, Bool.xor_true, Bool.xor_false, Bool.not_true, Bool.not_false, Bool.false_eq_true, if_true, if_false]
    · rw [show ((c.natAbs : Nat) : Int) = c by have : 0 < c := hcc.1 ⟨fun _ => h2, fun _ => h1⟩; omega]
    · rw [show ((c.natAbs : Nat) : Int) = -c by have : c < 0 := hcc.2 (fun g => h2 (g.1 h1)); omega, Int.neg_mul, Int.neg_neg]
    · rw [show ((c.natAbs : Nat) : Int) = -c by have : c < 0 := hcc.2 (fun g => h1 (g.2 h2)); omega, Int.neg_mul, Int.neg_neg]
    · rw [show ((c.natAbs : Nat) : Int) = c by have : 0 < c := hcc.1 ⟨fun g => absurd g h1, fun g => absurd g h2⟩; omega]
theorem wk_mul {x y : Nat} {a b : Int} (hx : Wk x a) (hy : Wk y b) (ha : a.natAbs < 9007199254740992) (hb : b.natAbs < 9007199254740992) (hc : (a * b).natAbs < 9007199254740992) : fvalid .mul x y = true ∧ Wk (fop .mul x y) (a * b) := by
  obtain ⟨s, m, i, ex, i0, _, _, _, hxa⟩ := key_number hx (int_small ha)
  obtain ⟨t, n, j, ey, j0, _, _, _, hyb⟩ := key_number hy (int_small hb)
  have hmul : floatBits .mul .f64 x y = some (double.nearest (s ^^ t) (m * n) (i + j)) := by
    show Format.mul double _ _ = _
    unfold Format.mul
    rw [ex, ey]
    rfl
  have ua : (a * U).natAbs = m * p2 (i + 1074).toNat := by rw [hxa, units_abs]
  have ub : (b * U).natAbs = n * p2 (j + 1074).toNat := by rw [hyb, units_abs]
  rw [abs_U] at ua ub
  obtain ⟨g1, g2⟩ := fop_of hmul
  refine ⟨g1, ?_⟩
  rw [g2]
  show keyD (double.read (double.nearest (s ^^ t) (m * n) (i + j))) = _
  rw [nearest_key (s ^^ t) (m * n) (i + j) ((a * b).natAbs * p2 1074) ((i + 1074).toNat + (j + 1074).toNat) 1074 (a * b).natAbs 1074 (by omega) (by
    rw [p2_add, Int.natAbs_mul]
    calc m * n * (p2 (i + 1074).toNat * p2 (j + 1074).toNat) = (m * p2 (i + 1074).toNat) * (n * p2 (j + 1074).toNat) := by simp only [Nat.mul_assoc, Nat.mul_comm, Nat.mul_left_comm]
      _ = (a.natAbs * p2 1074) * (b.natAbs * p2 1074) := by rw [ua, ub]
      _ = a.natAbs * b.natAbs * p2 1074 * p2 1074 := by simp only [Nat.mul_assoc, Nat.mul_comm, Nat.mul_left_comm]) rfl (by rw [p2_53]; exact hc) (by omega)]
  congr 1
  refine sign_of (units_sign hxa) (units_sign hyb) (fun h => ⟨fun e => h (by rw [e, Int.zero_mul]), fun e => h (by rw [e, Int.mul_zero])⟩) (fun h => ?_)
  have h1 : a ≠ 0 := fun e => h (by rw [e, Int.zero_mul])
  have h2 : b ≠ 0 := fun e => h (by rw [e, Int.mul_zero])
  by_cases a0 : a < 0 <;> by_cases b0 : b < 0
  · exact ⟨fun _ => Int.mul_pos_of_neg_of_neg a0 b0, fun g => absurd ⟨fun _ => b0, fun _ => a0⟩ g⟩
  · exact ⟨fun g => absurd (g.1 a0) b0, fun _ => Int.mul_neg_of_neg_of_pos a0 (show 0 < b by omega)⟩
  · exact ⟨fun g => absurd (g.2 b0) a0, fun _ => Int.mul_neg_of_pos_of_neg (show 0 < a by omega) b0⟩
  · exact ⟨fun _ => Int.mul_pos (by omega) (by omega), fun g => absurd ⟨fun h => absurd h a0, fun h => absurd h b0⟩ g⟩
theorem wk_quo {x y : Nat} {q d : Int} (hx : Wk x (q * d)) (hy : Wk y d) (h0 : d ≠ 0) (hq : (q * d).natAbs < 9007199254740992) (hd : d.natAbs < 9007199254740992) : fvalid .quo x y = true ∧ Wk (fop .quo x y) q := by
  obtain ⟨s, m, i, ex, i0, _, hm, _, hxa⟩ := key_number hx (int_small hq)
  obtain ⟨t, n, j, ey, j0, _, hn, _, hyb⟩ := key_number hy (int_small hd)
  have ua : ((q * d) * U).natAbs = m * p2 (i + 1074).toNat := by rw [hxa, units_abs]
  have ub : (d * U).natAbs = n * p2 (j + 1074).toNat := by rw [hyb, units_abs]
  rw [abs_U] at ua ub
  have P0 := p2_pos 1074
  have hqa : q.natAbs < 9007199254740992 := by
    rw [Int.natAbs_mul] at hq
    exact Nat.lt_of_le_of_lt (Nat.le_mul_of_pos_right _ (by omega)) hq
  have hn0 : n ≠ 0 := by
    rintro rfl
    rw [Nat.zero_mul] at ub
    rcases Nat.mul_eq_zero.1 ub with h | h <;> omega
  obtain ⟨I, hI⟩ : ∃ I, (i + 1074).toNat = I := ⟨_, rfl⟩
  obtain ⟨J, hJ⟩ : ∃ J, (j + 1074).toNat = J := ⟨_, rfl⟩
  rw [hI] at ua
  rw [hJ] at ub
  have main : m * p2 I = q.natAbs * n * p2 J := by
    rw [← ua, Int.natAbs_mul, Nat.mul_assoc, ub, Nat.mul_assoc]
  obtain ⟨more, hmore⟩ : ∃ more : Nat, more = 54 + n.log2 - m.log2 := ⟨_, rfl⟩
  have lm : m.log2 ≤ 52 := by
    by_cases h : m = 0
    · rw [h]; decide
    · have := log_lt (k := 53) (by rw [p2_53]; exact hm) h; omega
  -- the dividend is a whole number of divisors
  have hdiv : ∃ Q, m * p2 more = Q * n := by
    by_cases hm0 : m = 0
    · exact ⟨0, by rw [hm0]; simp⟩
    rcases Nat.lt_or_ge J I with h | h
    · have hle : I - J ≤ more := by
        have e1 : m * p2 (I - J) = q.natAbs * n := by
          have e2 : m * p2 (I - J) * p2 J = q.natAbs * n * p2 J := by rw [Nat.mul_assoc, ← p2_add, show I - J + J = I by omega, main]
          exact Nat.eq_of_mul_eq_mul_right (p2_pos J) e2
        have e3 := log_le hm0
        have e4 := lt_log n
        have e5 : q.natAbs * n ≤ p2 53 * n := Nat.mul_le_mul_right _ (by rw [p2_53]; omega)
        have e6 : p2 53 * n < p2 53 * p2 (n.log2 + 1) := Nat.mul_lt_mul_of_pos_left e4 (p2_pos 53)
        have e7 : p2 m.log2 * p2 (I - J) ≤ m * p2 (I - J) := Nat.mul_le_mul_right _ e3
        rw [← p2_add] at e6 e7
        rcases Nat.lt_or_ge more (I - J) with g | g
        · exfalso
          have := p2_le (show 53 + (n.log2 + 1) ≤ m.log2 + (I - J) by omega)
          omega
        · exact g
      refine ⟨q.natAbs * p2 (more - (I - J)), ?_⟩
      have e2 : m * p2 more * p2 I = q.natAbs * p2 (more - (I - J)) * n * p2 I := by
        calc m * p2 more * p2 I = m * p2 I * p2 more := by simp only [Nat.mul_assoc, Nat.mul_comm, Nat.mul_left_comm]
          _ = q.natAbs * n * (p2 J * p2 more) := by rw [main, Nat.mul_assoc]
          _ = q.natAbs * n * (p2 (more - (I - J)) * p2 I) := by rw [← p2_add, ← p2_add, show J + more = more - (I - J) + I by omega]
          _ = q.natAbs * p2 (more - (I - J)) * n * p2 I := by simp only [Nat.mul_assoc, Nat.mul_comm, Nat.mul_left_comm]
      exact Nat.eq_of_mul_eq_mul_right (p2_pos I) e2
    · refine ⟨q.natAbs * p2 (J - I + more), ?_⟩
      have e2 : m * p2 more * p2 I = q.natAbs * p2 (J - I + more) * n * p2 I := by
        calc m * p2 more * p2 I = m * p2 I * p2 more := by simp only [Nat.mul_assoc, Nat.mul_comm, Nat.mul_left_comm]
          _ = q.natAbs * n * (p2 J * p2 more) := by rw [main, Nat.mul_assoc]
          _ = q.natAbs * n * (p2 (J - I + more) * p2 I) := by rw [← p2_add, ← p2_add, show J + more = J - I + more + I by omega]
          _ = q.natAbs * p2 (J - I + more) * n * p2 I := by simp only [Nat.mul_assoc, Nat.mul_comm, Nat.mul_left_comm]
      exact Nat.eq_of_mul_eq_mul_right (p2_pos I) e2
  obtain ⟨Q, hQ⟩ := hdiv
  have hquo : (Datum.number s m i).quotient (52 + 2) (Datum.number t n j) = some (.number (s ^^ t) (2 * Q) (i - j - more - 1)) := by
    show (if n = 0 then (if m = 0 then none else some (Datum.infinity (s ^^ t))) else some (Datum.number (s ^^ t) (2 * ((m <<< (52 + 2 + n.log2 - m.log2)) / n) + ((m <<< (52 + 2 + n.log2 - m.log2)) % n != 0).toNat) (i - j - ((52 + 2 + n.log2 - m.log2 : Nat) : Int) - 1))) = _
    rw [if_neg hn0, show 52 + 2 + n.log2 - m.log2 = more by omega, Nat.shiftLeft_eq, p2_is, hQ, Nat.mul_div_cancel _ (by omega), Nat.mul_mod_left]
    simp
  have hf : floatBits .quo .f64 x y = some (double.nearest (s ^^ t) (2 * Q) (i - j - more - 1)) := by
    show Format.div double x y = _
    unfold Format.div
    rw [ex, ey]
    show ((Datum.number s m i).quotient (52 + 2) (Datum.number t n j)).map double.write = _
    rw [hquo]
    rfl
  obtain ⟨g1, g2⟩ := fop_of hf
  refine ⟨g1, ?_⟩
  rw [g2]
  have p1 : p2 1 = 2 := by rw [← p2_is]
  have hQI : Q * p2 I = q.natAbs * p2 J * p2 more := by
    have e : Q * p2 I * n = q.natAbs * p2 J * p2 more * n := by
      calc Q * p2 I * n = Q * n * p2 I := by simp only [Nat.mul_assoc, Nat.mul_comm, Nat.mul_left_comm]
        _ = m * p2 I * p2 more := by rw [← hQ]; simp only [Nat.mul_assoc, Nat.mul_comm, Nat.mul_left_comm]
        _ = q.natAbs * p2 J * p2 more * n := by rw [main]; simp only [Nat.mul_assoc, Nat.mul_comm, Nat.mul_left_comm]
    exact Nat.eq_of_mul_eq_mul_right (by omega) e
  show keyD (double.read (double.nearest (s ^^ t) (2 * Q) (i - j - more - 1))) = _
  rw [nearest_key (s ^^ t) (2 * Q) (i - j - more - 1) (q.natAbs * p2 1074) (I + 1074) (J + more + 1) q.natAbs 1074 (by omega) (by
    rw [p2_add, p2_add, p2_add, p1]
    calc 2 * Q * (p2 I * p2 1074) = Q * p2 I * (2 * p2 1074) := by simp only [Nat.mul_assoc, Nat.mul_comm, Nat.mul_left_comm]
      _ = q.natAbs * p2 1074 * (p2 J * p2 more * 2) := by rw [hQI]; simp only [Nat.mul_assoc, Nat.mul_comm, Nat.mul_left_comm]) rfl (by rw [p2_53]; exact hqa) (by omega)]
  congr 1
  refine sign_of (units_sign hxa) (units_sign hyb) (fun h => ⟨fun e => ?_, h0⟩) (fun h => ?_)
  · rcases Int.mul_eq_zero.1 e with e | e
    · exact h e
    · exact h0 e
  · by_cases q0 : q < 0 <;> by_cases d0 : d < 0
    · have := Int.mul_pos_of_neg_of_neg q0 d0
      exact ⟨fun g => absurd (g.2 d0) (by omega), fun _ => q0⟩
    · have := Int.mul_neg_of_neg_of_pos q0 (show 0 < d by omega)
      exact ⟨fun g => absurd (g.1 this) d0, fun _ => q0⟩
    · have := Int.mul_neg_of_pos_of_neg (show 0 < q by omega) d0
      exact ⟨fun _ => by omega, fun g => absurd ⟨fun _ => d0, fun _ => this⟩ g⟩
    · have := Int.mul_pos (show 0 < q by omega) (show 0 < d by omega)
      exact ⟨fun _ => by omega, fun g => absurd ⟨fun h => absurd h (by omega), fun h => absurd h d0⟩ g⟩
/-- order of whole numbers. -/
theorem wk_order {x y : Nat} {a b : Int} (hx : Wk x a) (hy : Wk y b) : FloatKind.f64.format.order x y = some (compare a b) := by
  show double.order x y = _
  rw [order_key hx hy, cmp_scale _ _ _ U_pos]
end Go.Proofs.YtfmfikodnpnblaaDoor.FltWhole
