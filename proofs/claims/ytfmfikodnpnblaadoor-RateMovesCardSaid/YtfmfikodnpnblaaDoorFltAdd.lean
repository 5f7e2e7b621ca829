/- Sums and differences of doubles that are exact. No program here. -/
import Derived.Test.YtfmfikodnpnblaaDoorFltClk
set_option linter.unusedVariables false
set_option linter.unusedSimpArgs false
namespace Go.Proofs.YtfmfikodnpnblaaDoor.FltAdd
open Ieee Go.Proofs.YtfmfikodnpnblaaDoor.Flt Go.Proofs.YtfmfikodnpnblaaDoor.FltClk

theorem sum_key (s t : Bool) (m n : Nat) (i j : Int) (hi : -1074 ≤ i) (hj : -1074 ≤ j) (c : Int) (q e : Nat) (hc : c = units s m i + units t n j) (hq : c.natAbs = q * p2 e) (hq1 : q < p2 53) (he : e ≤ 2045) :
    ∃ d, Datum.sum (.number s m i) (.number t n j) = some d ∧ keyD (double.read (double.write d)) = some c := by
  refine ⟨_, rfl, ?_⟩
  show keyD (double.read (double.nearest _ _ _)) = _
  have p0 : p2 0 = 1 := by rw [← p2_is]
  obtain ⟨b, hb⟩ : ∃ b, min i j = b := ⟨_, rfl⟩
  have hb0 : -1074 ≤ b := by omega
  rw [hb]
  rw [units_base s m hb0 (show b ≤ i by omega), units_base t n hb0 (show b ≤ j by omega), ← Int.add_mul] at hc
  generalize signed s m (i - b).toNat + signed t n (j - b).toNat = T at *
  have hP : (0 : Int) < (p2 (b + 1074).toNat : Nat) := by have := p2_pos (b + 1074).toNat; omega
  have hmag : T.natAbs * p2 (b + 1074).toNat = c.natAbs * p2 0 := by
    rw [hc, Int.natAbs_mul, Int.natAbs_natCast, p0, Nat.mul_one]
  rw [nearest_key _ T.natAbs b c.natAbs (b + 1074).toNat 0 q e (by omega) hmag hq hq1 he]
  congr 1
  rcases Int.lt_trichotomy T 0 with h | h | h
  · have hcn : c < 0 := by rw [hc]; exact Int.mul_neg_of_neg_of_pos h hP
    rw [if_neg (show ¬ T = 0 by omega), if_pos (by simpa using h)]
    omega
  · have hc0 : c = 0 := by rw [hc, h, Int.zero_mul]
    rw [hc0]
    split <;> simp
  · have hcp : 0 < c := by rw [hc]; exact Int.mul_pos h hP
    rw [if_neg (show ¬ T = 0 by omega), if_neg (by simp; omega)]
    omega
theorem key_add {x y : Nat} {a b : Int} {q e : Nat} (hx : key x = some a) (hy : key y = some b) (ha : a.natAbs < p2 2150) (hb : b.natAbs < p2 2150) (hq : (a + b).natAbs = q * p2 e) (hq1 : q < p2 53) (he : e ≤ 2045) :
    ∃ r, floatBits .add .f64 x y = some r ∧ key r = some (a + b) := by
  obtain ⟨s, m, i, ex, h0, h1, h2, h3, hxa⟩ := key_number hx ha
  obtain ⟨t, n, j, ey, g0, g1, g2, g3, hyb⟩ := key_number hy hb
  obtain ⟨d, hd, hk⟩ := sum_key s t m n i j h0 g0 (a + b) q e (by rw [hxa, hyb]) hq hq1 he
  refine ⟨double.write d, ?_, hk⟩
  show Format.add double x y = _
  unfold Format.add
  rw [ex, ey, hd]
  rfl
theorem units_neg (s : Bool) (m : Nat) (i : Int) : units (!s) m i = - units s m i := by
  unfold units
  cases s <;> simp
theorem key_sub {x y : Nat} {a b : Int} {q e : Nat} (hx : key x = some a) (hy : key y = some b) (ha : a.natAbs < p2 2150) (hb : b.natAbs < p2 2150) (hq : (a - b).natAbs = q * p2 e) (hq1 : q < p2 53) (he : e ≤ 2045) :
    ∃ r, floatBits .sub .f64 x y = some r ∧ key r = some (a - b) := by
  obtain ⟨s, m, i, ex, h0, h1, h2, h3, hxa⟩ := key_number hx ha
  obtain ⟨t, n, j, ey, g0, g1, g2, g3, hyb⟩ := key_number hy hb
  obtain ⟨d, hd, hk⟩ := sum_key s (!t) m n i j h0 g0 (a - b) q e (by rw [units_neg, hxa, hyb]; rfl) hq hq1 he
  refine ⟨double.write d, ?_, hk⟩
  show Format.sub double x y = _
  unfold Format.sub
  rw [ex, ey]
  show Option.map double.write (Datum.sum (.number s m i) (.number (!t) n j)) = _
  rw [hd]
  rfl
/-- whole parts of 512. -/
theorem p_abs (n : Int) : (n * V).natAbs = n.natAbs * p2 1065 := by unfold V; rw [Int.natAbs_mul, Int.natAbs_natCast]
theorem p_small {n : Int} (h : n.natAbs < 9007199254740992) : (n * V).natAbs < p2 2150 := by
  rw [p_abs]
  rw [← p2_53] at h
  have h1 : n.natAbs * p2 1065 < p2 53 * p2 1065 := Nat.mul_lt_mul_of_pos_right h (p2_pos _)
  rw [← p2_add] at h1
  exact Nat.lt_trans h1 (p2_lt (by omega))
theorem add_parts {x y : Nat} {n m : Int} (hx : key x = some (n * V)) (hy : key y = some (m * V)) (hn : n.natAbs < 4503599627370496) (hm : m.natAbs < 4503599627370496) :
    ∃ r, floatBits .add .f64 x y = some r ∧ key r = some ((n + m) * V) := by
  obtain ⟨r, h1, h2⟩ := key_add hx hy (p_small (by omega)) (p_small (by omega)) (q := (n + m).natAbs) (e := 1065) (by rw [← Int.add_mul, p_abs]) (by rw [p2_53]; omega) (by omega)
  exact ⟨r, h1, by rw [h2, ← Int.add_mul]⟩
theorem sub_parts {x y : Nat} {n m : Int} (hx : key x = some (n * V)) (hy : key y = some (m * V)) (hn : n.natAbs < 4503599627370496) (hm : m.natAbs < 4503599627370496) :
    ∃ r, floatBits .sub .f64 x y = some r ∧ key r = some ((n - m) * V) := by
  obtain ⟨r, h1, h2⟩ := key_sub hx hy (p_small (by omega)) (p_small (by omega)) (q := (n - m).natAbs) (e := 1065) (by rw [← Int.sub_mul, p_abs]) (by rw [p2_53]; omega) (by omega)
  exact ⟨r, h1, by rw [h2, ← Int.sub_mul]⟩
end Go.Proofs.YtfmfikodnpnblaaDoor.FltAdd
