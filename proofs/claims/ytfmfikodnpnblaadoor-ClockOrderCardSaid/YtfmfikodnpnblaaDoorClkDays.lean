/- What the printed functions on days come to: the plain calendar. -/
import Derived.Test.YtfmfikodnpnblaaDoorPClk1
import Derived.Test.YtfmfikodnpnblaaDoorCal
set_option linter.unusedVariables false
set_option linter.unusedSimpArgs false
namespace Go.Proofs.YtfmfikodnpnblaaDoor.ClkDays
open Go.RowKit Go.Proofs Go.Proofs.YtfmfikodnpnblaaDoorW.PrintWords Go.Proofs.YtfmfikodnpnblaaDoor.PClk1 Go.Proofs.YtfmfikodnpnblaaDoor.ClkDate Go.Proofs.YtfmfikodnpnblaaDoor.Cal Go.Proofs.YtfmfikodnpnblaaDoor.Civil

theorem w64 {n : Int} (h : -9223372036854775808 ≤ n ∧ n ≤ 9223372036854775807) : wrap64 n = n := by unfold wrap64; omega
theorem tdiv_pos {a c : Int} (ha : 0 ≤ a) : Int.tdiv a c = a / c := Int.tdiv_eq_ediv_of_nonneg ha
theorem tmod_pos {a c : Int} (ha : 0 ≤ a) : Int.tmod a c = a % c := Int.tmod_eq_emod_of_nonneg ha
/-- cut down, and the rest. -/
theorem down_eq (a b : Int) (hb : 1 ≤ b) (hb' : b ≤ 1000000) (ha : -1000000000000000000 ≤ a ∧ a ≤ 1000000000000000000) : clock_down.f a b = some (a / b, a % b) := by
  have h1 := Int.mul_tdiv_add_tmod a b
  have h2 := Int.mul_ediv_add_emod a b
  have h3 := Int.emod_nonneg a (show b ≠ 0 by omega)
  have h4 := Int.emod_lt_of_pos a (show 0 < b by omega)
  have h5 : -1000000000000000001 ≤ a / b ∧ a / b ≤ 1000000000000000000 := by
    constructor
    · have : -1000000000000000000 ≤ a / b := (Int.le_ediv_iff_mul_le (by omega)).2 (by
        have : (-1000000000000000000 : Int) * b ≤ -1000000000000000000 * 1 := Int.mul_le_mul_of_nonpos_left (by omega) (by omega)
        omega)
      omega
    · rcases Int.lt_or_le a 0 with h | h
      · have := Int.ediv_neg_of_neg_of_pos h (show 0 < b by omega); omega
      · exact Int.le_trans (Int.ediv_le_self _ h) ha.2
  unfold clock_down.f
  rw [if_neg (by omega)]
  rcases Int.lt_or_le a 0 with h | h
  · have e1 : Int.tmod a b = -((-a) % b) := by
      have : a = -(-a) := by omega
      rw [this, Int.neg_tmod, tmod_pos (by omega), Int.neg_neg]
    have g1 := Int.emod_nonneg (-a) (show b ≠ 0 by omega)
    have g2 := Int.emod_lt_of_pos (-a) (show 0 < b by omega)
    by_cases h0 : Int.tmod a b < 0
    · rw [if_pos h0]
      have hq : a.tdiv b = a / b + 1 := by
        have hd : b * (a.tdiv b - a / b) = a % b - a.tmod b := by rw [Int.mul_sub]; omega
        have g3 : b * (a.tdiv b - a / b) < b * 2 := by omega
        have g4 : b * 0 < b * (a.tdiv b - a / b) := by omega
        have g5 := Int.lt_of_mul_lt_mul_left g3 (by omega)
        have g6 := Int.lt_of_mul_lt_mul_left g4 (by omega)
        omega
      have hr : a.tmod b + b = a % b := by
        have : b * (a / b + 1) = b * (a / b) + b := by rw [Int.mul_add, Int.mul_one]
        rw [hq, this] at h1
        omega
      rw [hr, hq, w64 (n := a / b + 1) (by omega), w64 (n := a / b + 1 - 1) (by omega), w64 (n := a % b) (by omega), show a / b + 1 - 1 = a / b by omega]
    · rw [if_neg h0]
      have hz : a.tmod b = 0 := by omega
      have hz2 : a % b = 0 := by
        have : (-a) % b = 0 := by omega
        exact Int.emod_eq_zero_of_dvd ((Int.dvd_neg).1 (Int.dvd_of_emod_eq_zero this))
      have hq : a.tdiv b = a / b := by
        rw [hz] at h1
        rw [hz2] at h2
        exact Int.eq_of_mul_eq_mul_left (show b ≠ 0 by omega) (by omega)
      rw [hz, hz2, hq, w64 (by omega)]
  · rw [tmod_pos h, tdiv_pos h, if_neg (by omega), w64 (by omega)]

theorem days_eq (y m d : Int) (hy : -1000000 ≤ y ∧ y ≤ 1000000) (hm : 1 ≤ m ∧ m ≤ 12) (hd : -1000 ≤ d ∧ d ≤ 1000) : clock_days.f y m d = some (dayNum y m d) := by
  unfold clock_days.f
  obtain ⟨k, hk⟩ : ∃ k, (m + 9) % 12 = k := ⟨_, rfl⟩
  have ek : Int.tmod (wrap64 (m + 9)) 12 = k := by rw [w64 (by omega), tmod_pos (by omega), hk]
  have hk0 : 0 ≤ k ∧ k ≤ 11 := by omega
  have e1 : wrap64 (153 * k) = 153 * k := w64 (by omega)
  have e2 : wrap64 (153 * k + 2) = 153 * k + 2 := w64 (by omega)
  have e3 : Int.tdiv (153 * k + 2) 5 = (153 * k + 2) / 5 := tdiv_pos (by omega)
  rw [ek, e1, e2, e3]
  have main : ∀ Y : Int, -1000001 ≤ Y → Y ≤ 1000000 → wrap64 ((wrap64 ((wrap64 ((wrap64 ((wrap64 ((wrap64 (Y / 400 * 146097)) + (wrap64 (Y % 400 * 365)))) + (wrap64 (Int.tdiv (Y % 400) 4)))) - (wrap64 (Int.tdiv (Y % 400) 100)))) + (wrap64 ((wrap64 ((wrap64 ((153 * k + 2) / 5)) + d)) - 1)))) - 719468) = Y / 400 * 146097 + Y % 400 * 365 + Y % 400 / 4 - Y % 400 / 100 + ((153 * k + 2) / 5 + d - 1) - 719468 := by
    intro Y h1 h2
    rw [tdiv_pos (by omega), tdiv_pos (by omega)]
    obtain ⟨q, hq⟩ : ∃ q, (153 * k + 2) / 5 = q := ⟨_, rfl⟩
    have hq2 : 0 ≤ q ∧ q ≤ 400 := by omega
    rw [hq]
    clear hq e1 e2 e3 ek hk
    rw [w64 (n := Y / 400 * 146097) (by omega), w64 (n := Y % 400 * 365) (by omega), w64 (n := Y % 400 / 4) (by omega), w64 (n := Y % 400 / 100) (by omega), w64 (n := q) (by omega), w64 (n := q + d) (by omega), w64 (n := q + d - 1) (by omega),
      w64 (n := Y / 400 * 146097 + Y % 400 * 365) (by omega), w64 (n := Y / 400 * 146097 + Y % 400 * 365 + Y % 400 / 4) (by omega), w64 (n := Y / 400 * 146097 + Y % 400 * 365 + Y % 400 / 4 - Y % 400 / 100) (by omega), w64 (n := Y / 400 * 146097 + Y % 400 * 365 + Y % 400 / 4 - Y % 400 / 100 + (q + d - 1)) (by omega), w64 (by omega)]
  unfold dayNum
  rw [hk]
  by_cases hc : m ≤ 2
  · rw [if_pos hc, w64 (by omega), down_eq _ _ (by omega) (by omega) (by omega), Option.bind_some]
    dsimp only
    rw [main (y - 1) (by omega) (by omega)]
    simp only [if_pos hc]
  · rw [if_neg hc, down_eq _ _ (by omega) (by omega) (by omega), Option.bind_some]
    dsimp only
    rw [main y (by omega) (by omega)]
    simp only [if_neg hc]
theorem Days_eq (y m d : Int) (hy : -100000 ≤ y ∧ y ≤ 100000) (hm : 1 ≤ m ∧ m ≤ 12) (hd : 1 ≤ d ∧ d ≤ 31) : clock_Days.f y m d = some (dayNum y m d) := by
  unfold clock_Days.f
  rw [if_neg (by omega), if_neg (by omega), if_neg (by omega), if_neg (by omega), if_neg (by omega), if_neg (by omega), days_eq y m d (by omega) hm (by omega)]
  rfl
/-- within fair bounds. -/
theorem dayNum_bound (y m d : Int) (hy : -1000000 ≤ y ∧ y ≤ 1000000) (hm : 1 ≤ m ∧ m ≤ 12) (hd : -1000 ≤ d ∧ d ≤ 1000) : -400000000 ≤ dayNum y m d ∧ dayNum y m d ≤ 400000000 := by
  unfold dayNum
  split <;> omega
theorem leap_eq (y : Int) : stevedoreref4_leap.f y = some (decide (leap y)) := by
  have h (c : Int) (hc : c ≠ 0) : (Int.tmod y c = 0 ↔ y % c = 0) := by rw [← Int.dvd_iff_emod_eq_zero, ← Int.dvd_iff_tmod_eq_zero]
  unfold stevedoreref4_leap.f
  by_cases h4 : y % 4 = 0
  · rw [if_pos ((h 4 (by decide)).2 h4)]
    by_cases h100 : y % 100 = 0
    · rw [if_pos ((h 100 (by decide)).2 h100)]
      congr 1
      by_cases h400 : y % 400 = 0
      · rw [(h 400 (by decide)).2 h400, decide_eq_true (show leap y from ⟨h4, .inr h400⟩)]; rfl
      · rw [decide_eq_false (show ¬ leap y by rintro ⟨_, h | h⟩ <;> contradiction)]
        exact beq_eq_false_iff_ne.2 (fun e => h400 ((h 400 (by decide)).1 e))
    · rw [if_neg (fun e => h100 ((h 100 (by decide)).1 e)), decide_eq_true (show leap y from ⟨h4, .inl h100⟩)]
  · rw [if_neg (fun e => h4 ((h 4 (by decide)).1 e)), decide_eq_false (show ¬ leap y from fun e => h4 e.1)]
theorem Month_eq (y m : Int) (hm : 1 ≤ m ∧ m ≤ 12) : stevedoreref4_Month.f y m = some (mlen y m) := by
  unfold stevedoreref4_Month.f mlen
  rw [leap_eq]
  simp only [Option.bind_some, show wrap64 (m - 1) = m - 1 from w64 (by omega)]
  rcases months hm.1 hm.2 with rfl | rfl | rfl | rfl | rfl | rfl | rfl | rfl | rfl | rfl | rfl | rfl
  all_goals try rfl
  by_cases h : leap y
  · simp only [h, decide_true, if_true]
    show some (wrap64 (28 + 1)) = some 29
    rw [w64 (by omega)]; rfl
  · simp only [h, decide_false, if_false]; rfl
end Go.Proofs.YtfmfikodnpnblaaDoor.ClkDays
