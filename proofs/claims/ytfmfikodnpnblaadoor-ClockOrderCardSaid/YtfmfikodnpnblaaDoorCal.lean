/- Days, dates and their seconds, plainly: a day of each date, a date of each day, in their order. No program here. -/
import Derived.Test.YtfmfikodnpnblaaDoorCivil
set_option linter.unusedVariables false
set_option linter.unusedSimpArgs false
namespace Go.Proofs.YtfmfikodnpnblaaDoor.Cal
open Go.Proofs.YtfmfikodnpnblaaDoor.Civil

def leap (y : Int) : Prop := y % 4 = 0 ∧ (y % 100 ≠ 0 ∨ y % 400 = 0)
instance (y : Int) : Decidable (leap y) := by unfold leap; infer_instance
/-- how many days lie between 1970-01-01 and a date. -/
def dayNum (y m d : Int) : Int :=
  (if m ≤ 2 then y - 1 else y) / 400 * 146097 + (if m ≤ 2 then y - 1 else y) % 400 * 365 + (if m ≤ 2 then y - 1 else y) % 400 / 4 - (if m ≤ 2 then y - 1 else y) % 400 / 100
    + ((153 * ((m + 9) % 12) + 2) / 5 + d - 1) - 719468
/-- how many days a month has. -/
def mlen (y m : Int) : Int :=
  if m = 2 then (if leap y then 29 else 28) else if m = 4 ∨ m = 6 ∨ m = 9 ∨ m = 11 then 30 else 31

theorem months {m : Int} (h0 : 1 ≤ m) (h1 : m ≤ 12) : m = 1 ∨ m = 2 ∨ m = 3 ∨ m = 4 ∨ m = 5 ∨ m = 6 ∨ m = 7 ∨ m = 8 ∨ m = 9 ∨ m = 10 ∨ m = 11 ∨ m = 12 := by omega
theorem era_400 (y m d : Int) : dayNum (y + 400) m d - dayNum y m d = 146097 := by
  unfold dayNum
  generalize (153 * ((m + 9) % 12) + 2) / 5 = q
  split <;> omega
theorem year_len (y : Int) : dayNum (y + 1) 1 1 - dayNum y 1 1 = if leap y then 366 else 365 := by
  unfold dayNum
  simp only [show (1 : Int) ≤ 2 by decide, if_true]
  by_cases h : leap y
  · rw [if_pos h]; unfold leap at h; omega
  · rw [if_neg h]; unfold leap at h; omega
theorem month_len (y m : Int) (h0 : 1 ≤ m) (h1 : m ≤ 12) : (if m < 12 then dayNum y (m + 1) 1 else dayNum (y + 1) 1 1) - dayNum y m 1 = mlen y m := by
  unfold dayNum mlen
  rcases months h0 h1 with rfl | rfl | rfl | rfl | rfl | rfl | rfl | rfl | rfl | rfl | rfl | rfl
  all_goals simp only [Int.reduceLT, Int.reduceLE, Int.reduceAdd, Int.reduceMul, Int.reduceDiv, Int.reduceMod, Int.reduceEq, if_true, if_false, or_true, or_false, true_or, false_or, or_self]
  all_goals first | omega | skip
  by_cases h : leap y
  · rw [if_pos h]; unfold leap at h; omega
  · rw [if_neg h]; unfold leap at h; omega
theorem day_step (y m a b : Int) : dayNum y m a - dayNum y m b = a - b := by
  unfold dayNum
  omega

/-! ### the date of a day -/
def era (n : Int) : Int := (n + 719468) / 146097
def oday (n : Int) : Nat := ((n + 719468) % 146097).toNat
def yoe (n : Int) : Nat := gq (oday n) / 365
def doy (n : Int) : Nat := oday n - st (yoe n)
def mon (n : Int) : Nat := (5 * doy n + 2) / 153
def dayOf (n : Int) : Nat := doy n - (153 * mon n + 2) / 5 + 1
def yearOf (n : Int) : Int := yoe n + era n * 400 + if 10 ≤ mon n then 1 else 0
def monthOf (n : Int) : Int := if 10 ≤ mon n then (mon n : Int) - 9 else mon n + 3

theorem day_facts (n : Int) : (oday n : Int) = (n + 719468) % 146097 ∧ oday n ≤ 146096 ∧ yoe n ≤ 399 ∧ st (yoe n) ≤ oday n ∧ (yoe n < 399 → oday n < st (yoe n + 1)) := by
  have h : oday n ≤ 146096 := by unfold oday; omega
  have hy := year_of (oday n) h
  exact ⟨by unfold oday; omega, h, hy⟩
theorem doy_le (n : Int) : doy n ≤ 365 := by
  obtain ⟨_, h1, h2, h3, h4⟩ := day_facts n
  unfold doy
  generalize yoe n = y at *
  generalize oday n = o at *
  unfold st at *
  by_cases hy : y < 399
  · have := h4 hy; omega
  · obtain rfl : y = 399 := by omega
    omega
theorem mon_le (n : Int) : mon n ≤ 11 := by have := doy_le n; unfold mon; omega
theorem month_range (n : Int) : 1 ≤ monthOf n ∧ monthOf n ≤ 12 := by have := mon_le n; unfold monthOf; split <;> omega
theorem day_pos (n : Int) : 1 ≤ dayOf n := by unfold dayOf; omega
theorem mon_doy (n : Int) : (153 * mon n + 2) / 5 ≤ doy n ∧ doy n < (153 * (mon n + 1) + 2) / 5 := by
  unfold mon
  generalize doy n = i
  omega
theorem day_le (n : Int) : dayOf n ≤ 31 := by
  have h := mon_doy n
  have h2 := mon_le n
  unfold dayOf
  omega
theorem dayNum_date (n : Int) : dayNum (yearOf n) (monthOf n) (dayOf n) = n := by
  obtain ⟨h0, h1, h2, h3, h4⟩ := day_facts n
  have hm := mon_le n
  have hd := mon_doy n
  have hdo : (dayOf n : Int) = (doy n : Int) - (153 * (mon n : Int) + 2) / 5 + 1 := by unfold dayOf; omega
  have ho : (oday n : Int) = (st (yoe n) : Int) + doy n := by unfold doy; omega
  have hst : (st (yoe n) : Int) = 365 * (yoe n : Int) + (yoe n : Int) / 4 - (yoe n : Int) / 100 := by unfold st; omega
  have he : n + 719468 = era n * 146097 + oday n := by rw [h0]; unfold era; omega
  unfold dayNum yearOf monthOf
  by_cases hc : 10 ≤ mon n
  · simp only [if_pos hc]
    rw [if_pos (by omega)]
    rw [show (yoe n : Int) + era n * 400 + 1 - 1 = yoe n + era n * 400 by omega]
    have e1 : ((yoe n : Int) + era n * 400) / 400 = era n := by omega
    have e2 : ((yoe n : Int) + era n * 400) % 400 = yoe n := by omega
    rw [e1, e2, show ((mon n : Int) - 9 + 9) % 12 = mon n by omega, hdo]
    omega
  · simp only [if_neg hc]
    rw [if_neg (by omega)]
    have e1 : ((yoe n : Int) + era n * 400 + 0) / 400 = era n := by omega
    have e2 : ((yoe n : Int) + era n * 400 + 0) % 400 = yoe n := by omega
    rw [e1, e2, show ((mon n : Int) + 3 + 9) % 12 = mon n by omega, hdo]
    omega

/-! ### its order -/
/-- a number that rises with the date. -/
def code (n : Int) : Int := yearOf n * 512 + monthOf n * 32 + dayOf n
theorem code_lt {a b : Int} (h : a < b) : code a < code b := by
  obtain ⟨a0, a1, a2, a3, a4⟩ := day_facts a
  obtain ⟨b0, b1, b2, b3, b4⟩ := day_facts b
  have am := mon_le a
  have bm := mon_le b
  have ad := mon_doy a
  have bd := mon_doy b
  have ea : a + 719468 = era a * 146097 + oday a := by rw [a0]; unfold era; omega
  have eb : b + 719468 = era b * 146097 + oday b := by rw [b0]; unfold era; omega
  have la := day_le a
  have lb := day_le b
  have pa := day_pos a
  have pb := day_pos b
  -- the year, the day in it
  have h1 : (yoe a : Int) + era a * 400 < yoe b + era b * 400 ∨ ((yoe a : Int) + era a * 400 = yoe b + era b * 400 ∧ doy a < doy b) := by
    rcases Int.lt_or_le (era a) (era b) with hl | hl
    · left; omega
    · have he : era a = era b := by omega
      have ho : oday a < oday b := by rw [he] at ea; omega
      have hy : yoe a ≤ yoe b := by
        unfold yoe
        exact Nat.div_le_div_right (gq_le (by omega) b1)
      rcases Nat.lt_or_ge (yoe a) (yoe b) with hl2 | hl2
      · left; omega
      · right
        have hye : yoe a = yoe b := by omega
        refine ⟨by rw [he, hye], ?_⟩
        unfold doy
        rw [hye] at a3 ⊢
        omega
  have h2 : ((yoe a : Int) + era a * 400) * 12 + mon a < ((yoe b : Int) + era b * 400) * 12 + mon b ∨ (((yoe a : Int) + era a * 400) * 12 + mon a = ((yoe b : Int) + era b * 400) * 12 + mon b ∧ dayOf a < dayOf b) := by
    rcases h1 with h | ⟨h, h'⟩
    · left; omega
    · have hm : mon a ≤ mon b := by unfold mon; omega
      rcases Nat.lt_or_ge (mon a) (mon b) with hl | hl
      · left; omega
      · right
        have hme : mon a = mon b := by omega
        refine ⟨by omega, ?_⟩
        unfold dayOf
        rw [hme] at ad ⊢
        omega
  unfold code yearOf monthOf
  generalize (yoe a : Int) + era a * 400 = A at *
  generalize (yoe b : Int) + era b * 400 = B at *
  generalize dayOf a = x at *
  generalize dayOf b = z at *
  generalize mon a = p at *
  generalize mon b = q at *
  by_cases ha : 10 ≤ p <;> by_cases hb : 10 ≤ q <;> simp only [ha, hb, if_true, if_false] <;> omega
theorem code_le {a b : Int} (h : a ≤ b) : code a ≤ code b := by
  rcases Int.lt_or_le a b with h1 | h1
  · exact Int.le_of_lt (code_lt h1)
  · rw [show a = b by omega]; exact Int.le_refl _

/-! ### there and back -/
theorem st_mono {a b : Nat} (h : a ≤ b) : st a ≤ st b := by
  induction h with
  | refl => exact Nat.le_refl _
  | step _ ih => exact Nat.le_trans ih (by unfold st; omega)
theorem yoe_is (n : Int) (y : Nat) (hy : y ≤ 399) (h1 : st y ≤ oday n) (h2 : y < 399 → oday n < st (y + 1)) : yoe n = y := by
  obtain ⟨a0, a1, a2, a3, a4⟩ := day_facts n
  rcases Nat.lt_trichotomy (yoe n) y with h | h | h
  · have := a4 (by omega)
    have := st_mono (show yoe n + 1 ≤ y by omega)
    omega
  · exact h
  · have := h2 (by omega)
    have := st_mono (show y + 1 ≤ yoe n by omega)
    omega
theorem date_dayNum (y m d : Int) (h0 : 1 ≤ m) (h1 : m ≤ 12) (h2 : 1 ≤ d) (h3 : d ≤ mlen y m) : yearOf (dayNum y m d) = y ∧ monthOf (dayNum y m d) = m ∧ (dayOf (dayNum y m d) : Int) = d := by
  -- the year from March on
  obtain ⟨Y, hY⟩ : ∃ Y, (if m ≤ 2 then y - 1 else y) = Y := ⟨_, rfl⟩
  obtain ⟨k, hk⟩ : ∃ k : Nat, (m + 9) % 12 = k := ⟨((m + 9) % 12).toNat, by omega⟩
  obtain ⟨i, hi⟩ : ∃ i : Nat, (153 * (k : Int) + 2) / 5 + d - 1 = i := ⟨((153 * (k : Int) + 2) / 5 + d - 1).toNat, by omega⟩
  obtain ⟨c, hc⟩ : ∃ c : Nat, Y % 400 = c := ⟨(Y % 400).toNat, by omega⟩
  have hk11 : k ≤ 11 := by omega
  have hc399 : c ≤ 399 := by omega
  have hlen : i < (153 * (k + 1) + 2) / 5 ∧ (k = 11 → i ≤ 365 ∧ (i = 365 → (c + 1) % 4 = 0 ∧ ((c + 1) % 100 ≠ 0 ∨ c = 399))) := by
    unfold mlen at h3
    rcases months h0 h1 with rfl | rfl | rfl | rfl | rfl | rfl | rfl | rfl | rfl | rfl | rfl | rfl <;>
      simp only [Int.reduceLT, Int.reduceLE, Int.reduceAdd, Int.reduceMul, Int.reduceDiv, Int.reduceMod, Int.reduceEq, if_true, if_false, or_true, or_false, true_or, false_or, or_self] at h3 hY hk <;>
      first | omega | skip
    by_cases h : leap y
    · rw [if_pos h] at h3; unfold leap at h; omega
    · rw [if_neg h] at h3; unfold leap at h; omega
  have hst : (st c : Int) = 365 * (c : Int) + (c : Int) / 4 - (c : Int) / 100 := by unfold st; omega
  have hst1 : (st (c + 1) : Int) = 365 * ((c : Int) + 1) + ((c : Int) + 1) / 4 - ((c : Int) + 1) / 100 := by unfold st; omega
  have hn : dayNum y m d + 719468 = Y / 400 * 146097 + (st c + i) := by
    unfold dayNum
    rw [hY, hk, hc, hst]
    omega
  have hsmall : st c + i ≤ 146096 ∧ (c < 399 → st c + i < st (c + 1)) := by
    unfold st at hst hst1 ⊢
    omega
  generalize hN : dayNum y m d = n at hn
  have ho : oday n = st c + i := by unfold oday; rw [hn]; omega
  have he : era n = Y / 400 := by unfold era; rw [hn]; omega
  have hyo : yoe n = c := yoe_is n c hc399 (by omega) (fun h => by have := hsmall.2 h; omega)
  have hdo : doy n = i := by unfold doy; rw [ho, hyo]; omega
  have hmo : mon n = k := by
    unfold mon
    rw [hdo]
    have h5 : (153 * k + 2) / 5 ≤ i := by omega
    have h6 := hlen.1
    omega
  have hda : (dayOf n : Int) = d := by unfold dayOf; rw [hdo, hmo]; omega
  refine ⟨?_, ?_, hda⟩
  · unfold yearOf
    rw [hyo, he, hmo]
    clear hlen hi hdo hmo hda hsmall hN hn
    rcases months h0 h1 with h | h | h | h | h | h | h | h | h | h | h | h <;> subst h <;> simp only [Int.reduceLE, if_true, if_false] at hY <;> split <;> omega
  · unfold monthOf
    rw [hmo]
    clear hlen hi hdo hmo hda hsmall hN hn
    rcases months h0 h1 with h | h | h | h | h | h | h | h | h | h | h | h <;> split <;> omega
end Go.Proofs.YtfmfikodnpnblaaDoor.Cal
