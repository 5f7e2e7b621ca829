/- Days, dates and their seconds, plainly; what the printed functions on them, the program's and the document's, come to. -/
import Derived.Test.YtfmfikodnpnblaaGreatDoorPClk1x
import Derived.Test.YtfmfikodnpnblaaGreatDoorPClkBx
import Derived.Test.YtfmfikodnpnblaaGreatDoorPClkRx
import Derived.Test.YtfmfikodnpnblaaGreatDoorPClkQx
set_option linter.unusedVariables false
set_option linter.unusedSimpArgs false
namespace Go.Proofs.YtfmfikodnpnblaaGreatDoor.Civil

def gq (o : Nat) : Nat := o - o / 1460 + o / 36524 - o / 146096
def st (y : Nat) : Nat := 365 * y + y / 4 - y / 100
theorem gq_step (o : Nat) (h : o < 146096) : gq o ≤ gq (o + 1) := by
  unfold gq
  by_cases h1 : o + 1 = 146096
  · obtain rfl : o = 146095 := by omega
    decide
  · omega
theorem gq_mono (o : Nat) : ∀ k : Nat, o + k ≤ 146096 → gq o ≤ gq (o + k)
  | 0, _ => Nat.le_refl _
  | k + 1, h => Nat.le_trans (gq_mono o k (by omega)) (gq_step (o + k) (by omega))
theorem gq_le {a b : Nat} (h : a ≤ b) (hb : b ≤ 146096) : gq a ≤ gq b := by
  have := gq_mono a (b - a) (by omega)
  rwa [show a + (b - a) = b by omega] at this
def okYear (y : Nat) : Bool := decide (365 * y ≤ gq (st y)) && decide (gq (st (y + 1) - 1) < 365 * (y + 1)) && decide (st y < st (y + 1))
theorem years_ok : (List.range 400).all okYear = true := by decide +kernel
theorem last_ok : gq 146096 < 365 * 400 ∧ 365 * 399 ≤ gq 146096 ∧ st 400 = 146096 := by decide
/-- the year of a day (of 146097, from March on). -/
theorem year_of (o : Nat) (h : o ≤ 146096) : gq o / 365 ≤ 399 ∧ st (gq o / 365) ≤ o ∧ (gq o / 365 < 399 → o < st (gq o / 365 + 1)) := by
  have hall : ∀ y, y < 400 → 365 * y ≤ gq (st y) ∧ gq (st (y + 1) - 1) < 365 * (y + 1) ∧ st y < st (y + 1) := fun y hy => by
    have := List.all_eq_true.1 years_ok y (List.mem_range.2 hy)
    unfold okYear at this
    simp only [Bool.and_eq_true, decide_eq_true_eq] at this
    exact ⟨this.1.1, this.1.2, this.2⟩
  have hst : ∀ y, y ≤ 400 → st y ≤ 146096 := by
    intro y hy
    unfold st
    omega
  -- the year whose days these are
  have hex : ∀ n, n ≤ 400 → o < st n → ∃ y, y < n ∧ st y ≤ o ∧ o < st (y + 1) := by
    intro n
    induction n with
    | zero => intro _ h0; unfold st at h0; omega
    | succ n ih =>
      intro hn h0
      rcases Nat.lt_or_ge o (st n) with h1 | h1
      · obtain ⟨y, a, b⟩ := ih (by omega) h1
        exact ⟨y, by omega, b⟩
      · exact ⟨n, by omega, h1, h0⟩
  rcases Nat.lt_or_ge o 146096 with hlt | hge
  · obtain ⟨y, hy, h1, h2⟩ := hex 400 (Nat.le_refl _) (by rw [last_ok.2.2]; exact hlt)
    obtain ⟨g1, g2, g3⟩ := hall y hy
    have m1 := gq_le h1 h
    have m2 := gq_le (show o ≤ st (y + 1) - 1 by omega) (by have := hst (y + 1) (by omega); omega)
    have e : gq o / 365 = y := by omega
    rw [e]
    exact ⟨by omega, h1, fun _ => h2⟩
  · obtain rfl : o = 146096 := by omega
    have e : gq 146096 / 365 = 399 := by have := last_ok; omega
    rw [e]
    exact ⟨by omega, by decide, fun h => absurd h (by omega)⟩
end Go.Proofs.YtfmfikodnpnblaaGreatDoor.Civil
namespace Go.Proofs.YtfmfikodnpnblaaGreatDoor.Cal
open Go.Proofs.YtfmfikodnpnblaaGreatDoor.Civil

def leap (y : Int) : Prop := y % 4 = 0 ∧ (y % 100 ≠ 0 ∨ y % 400 = 0)
instance (y : Int) : Decidable (leap y) := by unfold leap; infer_instance
/-- how many days lie between 1970-01-01 and a date. -/
def dayNum (y m d : Int) : Int :=
  (if m ≤ 2 then y - 1 else y) / 400 * 146097 + (if m ≤ 2 then y - 1 else y) % 400 * 365 + (if m ≤ 2 then y - 1 else y) % 400 / 4 - (if m ≤ 2 then y - 1 else y) % 400 / 100
    + ((153 * ((m + 9) % 12) + 2) / 5 + d - 1) - 719468
/-- how many days a month has. -/
def mlen (y m : Int) : Int :=
  if m = 2 then (if leap y then 29 else 28) else if m = 4 ∨ m = 6 ∨ m = 9 ∨ m = 11 then 30 else 31

theorem months {m : Int} (h0 : 1 ≤ m) (h1 : m ≤ 12) : m = 1 ∨ m = 2 ∨ m = 3 ∨ m = 4 ∨ m = 5 ∨ m = 6 ∨ m = 7 ∨ m = 8 ∨ m = 9 ∨ m = 10 ∨ m = 11 ∨ m = 12 := by omega
theorem era_400 (y m d : Int) : dayNum (y + 400) m d - dayNum y m d = 146097 := by
  unfold dayNum
  generalize (153 * ((m + 9) % 12) + 2) / 5 = q
  split <;> omega
theorem year_len (y : Int) : dayNum (y + 1) 1 1 - dayNum y 1 1 = if leap y then 366 else 365 := by
  unfold dayNum
  simp only [show (1 : Int) ≤ 2 by decide, if_true]
  by_cases h : leap y
  · rw [if_pos h]; unfold leap at h; omega
  · rw [if_neg h]; unfold leap at h; omega
theorem month_len (y m : Int) (h0 : 1 ≤ m) (h1 : m ≤ 12) : (if m < 12 then dayNum y (m + 1) 1 else dayNum (y + 1) 1 1) - dayNum y m 1 = mlen y m := by
  unfold dayNum mlen
  rcases months h0 h1 with rfl | rfl | rfl | rfl | rfl | rfl | rfl | rfl | rfl | rfl | rfl | rfl
  all_goals simp only [Int.reduceLT, Int.reduceLE, Int.reduceAdd, Int.reduceMul, Int.reduceDiv, Int.reduceMod, Int.reduceEq, if_true, if_false, or_true, or_false, true_or, false_or, or_self]
  all_goals first | omega | skip
  by_cases h : leap y
  · rw [if_pos h]; unfold leap at h; omega
  · rw [if_neg h]; unfold leap at h; omega
theorem day_step (y m a b : Int) : dayNum y m a - dayNum y m b = a - b := by
  unfold dayNum
  omega

/-! ### the date of a day -/
def era (n : Int) : Int := (n + 719468) / 146097
def oday (n : Int) : Nat := ((n + 719468) % 146097).toNat
def yoe (n : Int) : Nat := gq (oday n) / 365
def doy (n : Int) : Nat := oday n - st (yoe n)
def mon (n : Int) : Nat := (5 * doy n + 2) / 153
def dayOf (n : Int) : Nat := doy n - (153 * mon n + 2) / 5 + 1
def yearOf (n : Int) : Int := yoe n + era n * 400 + if 10 ≤ mon n then 1 else 0
def monthOf (n : Int) : Int := if 10 ≤ mon n then (mon n : Int) - 9 else mon n + 3

theorem day_facts (n : Int) : (oday n : Int) = (n + 719468) % 146097 ∧ oday n ≤ 146096 ∧ yoe n ≤ 399 ∧ st (yoe n) ≤ oday n ∧ (yoe n < 399 → oday n < st (yoe n + 1)) := by
  have h : oday n ≤ 146096 := by unfold oday; omega
  have hy := year_of (oday n) h
  exact ⟨by unfold oday; omega, h, hy⟩
theorem doy_le (n : Int) : doy n ≤ 365 := by
  obtain ⟨_, h1, h2, h3, h4⟩ := day_facts n
  unfold doy
  generalize yoe n = y at *
  generalize oday n = o at *
  unfold st at *
  by_cases hy : y < 399
  · have := h4 hy; omega
  · obtain rfl : y = 399 := by omega
    omega
theorem mon_le (n : Int) : mon n ≤ 11 := by have := doy_le n; unfold mon; omega
theorem month_range (n : Int) : 1 ≤ monthOf n ∧ monthOf n ≤ 12 := by have := mon_le n; unfold monthOf; split <;> omega
theorem day_pos (n : Int) : 1 ≤ dayOf n := by unfold dayOf; omega
theorem mon_doy (n : Int) : (153 * mon n + 2) / 5 ≤ doy n ∧ doy n < (153 * (mon n + 1) + 2) / 5 := by
  unfold mon
  generalize doy n = i
  omega
theorem day_le (n : Int) : dayOf n ≤ 31 := by
  have h := mon_doy n
  have h2 := mon_le n
  unfold dayOf
  omega
theorem dayNum_date (n : Int) : dayNum (yearOf n) (monthOf n) (dayOf n) = n := by
  obtain ⟨h0, h1, h2, h3, h4⟩ := day_facts n
  have hm := mon_le n
  have hd := mon_doy n
  have hdo : (dayOf n : Int) = (doy n : Int) - (153 * (mon n : Int) + 2) / 5 + 1 := by unfold dayOf; omega
  have ho : (oday n : Int) = (st (yoe n) : Int) + doy n := by unfold doy; omega
  have hst : (st (yoe n) : Int) = 365 * (yoe n : Int) + (yoe n : Int) / 4 - (yoe n : Int) / 100 := by unfold st; omega
  have he : n + 719468 = era n * 146097 + oday n := by rw [h0]; unfold era; omega
  unfold dayNum yearOf monthOf
  by_cases hc : 10 ≤ mon n
  · simp only [if_pos hc]
    rw [if_pos (by omega)]
    rw [show (yoe n : Int) + era n * 400 + 1 - 1 = yoe n + era n * 400 by omega]
    have e1 : ((yoe n : Int) + era n * 400) / 400 = era n := by omega
    have e2 : ((yoe n : Int) + era n * 400) % 400 = yoe n := by omega
    rw [e1, e2, show ((mon n : Int) - 9 + 9) % 12 = mon n by omega, hdo]
    omega
  · simp only [if_neg hc]
    rw [if_neg (by omega)]
    have e1 : ((yoe n : Int) + era n * 400 + 0) / 400 = era n := by omega
    have e2 : ((yoe n : Int) + era n * 400 + 0) % 400 = yoe n := by omega
    rw [e1, e2, show ((mon n : Int) + 3 + 9) % 12 = mon n by omega, hdo]
    omega

/-! ### its order -/
/-- a number that rises with the date. -/
def code (n : Int) : Int := yearOf n * 512 + monthOf n * 32 + dayOf n
theorem code_lt {a b : Int} (h : a < b) : code a < code b := by
  obtain ⟨a0, a1, a2, a3, a4⟩ := day_facts a
  obtain ⟨b0, b1, b2, b3, b4⟩ := day_facts b
  have am := mon_le a
  have bm := mon_le b
  have ad := mon_doy a
  have bd := mon_doy b
  have ea : a + 719468 = era a * 146097 + oday a := by rw [a0]; unfold era; omega
  have eb : b + 719468 = era b * 146097 + oday b := by rw [b0]; unfold era; omega
  have la := day_le a
  have lb := day_le b
  have pa := day_pos a
  have pb := day_pos b
  -- the year, the day in it
  have h1 : (yoe a : Int) + era a * 400 < yoe b + era b * 400 ∨ ((yoe a : Int) + era a * 400 = yoe b + era b * 400 ∧ doy a < doy b) := by
    rcases Int.lt_or_le (era a) (era b) with hl | hl
    · left; omega
    · have he : era a = era b := by omega
      have ho : oday a < oday b := by rw [he] at ea; omega
      have hy : yoe a ≤ yoe b := by
        unfold yoe
        exact Nat.div_le_div_right (gq_le (by omega) b1)
      rcases Nat.lt_or_ge (yoe a) (yoe b) with hl2 | hl2
      · left; omega
      · right
        have hye : yoe a = yoe b := by omega
        refine ⟨by rw [he, hye], ?_⟩
        unfold doy
        rw [hye] at a3 ⊢
        omega
  have h2 : ((yoe a : Int) + era a * 400) * 12 + mon a < ((yoe b : Int) + era b * 400) * 12 + mon b ∨ (((yoe a : Int) + era a * 400) * 12 + mon a = ((yoe b : Int) + era b * 400) * 12 + mon b ∧ dayOf a < dayOf b) := by
    rcases h1 with h | ⟨h, h'⟩
    · left; omega
    · have hm : mon a ≤ mon b := by unfold mon; omega
      rcases Nat.lt_or_ge (mon a) (mon b) with hl | hl
      · left; omega
      · right
        have hme : mon a = mon b := by omega
        refine ⟨by omega, ?_⟩
        unfold dayOf
        rw [hme] at ad ⊢
        omega
  unfold code yearOf monthOf
  generalize (yoe a : Int) + era a * 400 = A at *
  generalize (yoe b : Int) + era b * 400 = B at *
  generalize dayOf a = x at *
  generalize dayOf b = z at *
  generalize mon a = p at *
  generalize mon b = q at *
  by_cases ha : 10 ≤ p <;> by_cases hb : 10 ≤ q <;> simp only [ha, hb, if_true, if_false] <;> omega
theorem code_le {a b : Int} (h : a ≤ b) : code a ≤ code b := by
  rcases Int.lt_or_le a b with h1 | h1
  · exact Int.le_of_lt (code_lt h1)
  · rw [show a = b by omega]; exact Int.le_refl _

/-! ### there and back -/
theorem st_mono {a b : Nat} (h : a ≤ b) : st a ≤ st b := by
  induction h with
  | refl => exact Nat.le_refl _
  | step _ ih => exact Nat.le_trans ih (by unfold st; omega)
theorem yoe_is (n : Int) (y : Nat) (hy : y ≤ 399) (h1 : st y ≤ oday n) (h2 : y < 399 → oday n < st (y + 1)) : yoe n = y := by
  obtain ⟨a0, a1, a2, a3, a4⟩ := day_facts n
  rcases Nat.lt_trichotomy (yoe n) y with h | h | h
  · have := a4 (by omega)
    have := st_mono (show yoe n + 1 ≤ y by omega)
    omega
  · exact h
  · have := h2 (by omega)
    have := st_mono (show y + 1 ≤ yoe n by omega)
    omega
theorem date_dayNum (y m d : Int) (h0 : 1 ≤ m) (h1 : m ≤ 12) (h2 : 1 ≤ d) (h3 : d ≤ mlen y m) : yearOf (dayNum y m d) = y ∧ monthOf (dayNum y m d) = m ∧ (dayOf (dayNum y m d) : Int) = d := by
  -- the year from March on
  obtain ⟨Y, hY⟩ : ∃ Y, (if m ≤ 2 then y - 1 else y) = Y := ⟨_, rfl⟩
  obtain ⟨k, hk⟩ : ∃ k : Nat, (m + 9) % 12 = k := ⟨((m + 9) % 12).toNat, by omega⟩
  obtain ⟨i, hi⟩ : ∃ i : Nat, (153 * (k : Int) + 2) / 5 + d - 1 = i := ⟨((153 * (k : Int) + 2) / 5 + d - 1).toNat, by omega⟩
  obtain ⟨c, hc⟩ : ∃ c : Nat, Y % 400 = c := ⟨(Y % 400).toNat, by omega⟩
  have hk11 : k ≤ 11 := by omega
  have hc399 : c ≤ 399 := by omega
  have hlen : i < (153 * (k + 1) + 2) / 5 ∧ (k = 11 → i ≤ 365 ∧ (i = 365 → (c + 1) % 4 = 0 ∧ ((c + 1) % 100 ≠ 0 ∨ c = 399))) := by
    unfold mlen at h3
    rcases months h0 h1 with rfl | rfl | rfl | rfl | rfl | rfl | rfl | rfl | rfl | rfl | rfl | rfl <;>
      simp only [Int.reduceLT, Int.reduceLE, Int.reduceAdd, Int.reduceMul, Int.reduceDiv, Int.reduceMod, Int.reduceEq, if_true, if_false, or_true, or_false, true_or, false_or, or_self] at h3 hY hk <;>
      first | omega | skip
    by_cases h : leap y
    · rw [if_pos h] at h3; unfold leap at h; omega
    · rw [if_neg h] at h3; unfold leap at h; omega
  have hst : (st c : Int) = 365 * (c : Int) + (c : Int) / 4 - (c : Int) / 100 := by unfold st; omega
  have hst1 : (st (c + 1) : Int) = 365 * ((c : Int) + 1) + ((c : Int) + 1) / 4 - ((c : Int) + 1) / 100 := by unfold st; omega
  have hn : dayNum y m d + 719468 = Y / 400 * 146097 + (st c + i) := by
    unfold dayNum
    rw [hY, hk, hc, hst]
    omega
  have hsmall : st c + i ≤ 146096 ∧ (c < 399 → st c + i < st (c + 1)) := by
    unfold st at hst hst1 ⊢
    omega
  generalize hN : dayNum y m d = n at hn
  have ho : oday n = st c + i := by unfold oday; rw [hn]; omega
  have he : era n = Y / 400 := by unfold era; rw [hn]; omega
  have hyo : yoe n = c := yoe_is n c hc399 (by omega) (fun h => by have := hsmall.2 h; omega)
  have hdo : doy n = i := by unfold doy; rw [ho, hyo]; omega
  have hmo : mon n = k := by
    unfold mon
    rw [hdo]
    have h5 : (153 * k + 2) / 5 ≤ i := by omega
    have h6 := hlen.1
    omega
  have hda : (dayOf n : Int) = d := by unfold dayOf; rw [hdo, hmo]; omega
  refine ⟨?_, ?_, hda⟩
  · unfold yearOf
    rw [hyo, he, hmo]
    clear hlen hi hdo hmo hda hsmall hN hn
    rcases months h0 h1 with h | h | h | h | h | h | h | h | h | h | h | h <;> subst h <;> simp only [Int.reduceLE, if_true, if_false] at hY <;> split <;> omega
  · unfold monthOf
    rw [hmo]
    clear hlen hi hdo hmo hda hsmall hN hn
    rcases months h0 h1 with h | h | h | h | h | h | h | h | h | h | h | h <;> split <;> omega
end Go.Proofs.YtfmfikodnpnblaaGreatDoor.Cal
namespace Go.Proofs.YtfmfikodnpnblaaGreatDoor.ClkDays
open Go.RowKit Go.Proofs Go.Proofs.YtfmfikodnpnblaaGreatDoorW.PrintWords Go.Proofs.YtfmfikodnpnblaaGreatDoor.PClk1 Go.Proofs.YtfmfikodnpnblaaGreatDoor.ClkDate Go.Proofs.YtfmfikodnpnblaaGreatDoor.Cal Go.Proofs.YtfmfikodnpnblaaGreatDoor.Civil

theorem w64 {n : Int} (h : -9223372036854775808 ≤ n ∧ n ≤ 9223372036854775807) : wrap64 n = n := by unfold wrap64; omega
theorem tdiv_pos {a c : Int} (ha : 0 ≤ a) : Int.tdiv a c = a / c := Int.tdiv_eq_ediv_of_nonneg ha
theorem tmod_pos {a c : Int} (ha : 0 ≤ a) : Int.tmod a c = a % c := Int.tmod_eq_emod_of_nonneg ha
/-- cut down, and the rest. -/
theorem down_eq (a b : Int) (hb : 1 ≤ b) (hb' : b ≤ 1000000) (ha : -1000000000000000000 ≤ a ∧ a ≤ 1000000000000000000) : clock_down.f a b = some (a / b, a % b) := by
  have h1 := Int.mul_tdiv_add_tmod a b
  have h2 := Int.mul_ediv_add_emod a b
  have h3 := Int.emod_nonneg a (show b ≠ 0 by omega)
  have h4 := Int.emod_lt_of_pos a (show 0 < b by omega)
  have h5 : -1000000000000000001 ≤ a / b ∧ a / b ≤ 1000000000000000000 := by
    constructor
    · have : -1000000000000000000 ≤ a / b := (Int.le_ediv_iff_mul_le (by omega)).2 (by
        have : (-1000000000000000000 : Int) * b ≤ -1000000000000000000 * 1 := Int.mul_le_mul_of_nonpos_left (by omega) (by omega)
        omega)
      omega
    · rcases Int.lt_or_le a 0 with h | h
      · have := Int.ediv_neg_of_neg_of_pos h (show 0 < b by omega); omega
      · exact Int.le_trans (Int.ediv_le_self _ h) ha.2
  unfold clock_down.f
  rw [if_neg (by omega)]
  rcases Int.lt_or_le a 0 with h | h
  · have e1 : Int.tmod a b = -((-a) % b) := by
      have : a = -(-a) := by omega
      rw [this, Int.neg_tmod, tmod_pos (by omega), Int.neg_neg]
    have g1 := Int.emod_nonneg (-a) (show b ≠ 0 by omega)
    have g2 := Int.emod_lt_of_pos (-a) (show 0 < b by omega)
    by_cases h0 : Int.tmod a b < 0
    · rw [if_pos h0]
      have hq : a.tdiv b = a / b + 1 := by
        have hd : b * (a.tdiv b - a / b) = a % b - a.tmod b := by rw [Int.mul_sub]; omega
        have g3 : b * (a.tdiv b - a / b) < b * 2 := by omega
        have g4 : b * 0 < b * (a.tdiv b - a / b) := by omega
        have g5 := Int.lt_of_mul_lt_mul_left g3 (by omega)
        have g6 := Int.lt_of_mul_lt_mul_left g4 (by omega)
        omega
      have hr : a.tmod b + b = a % b := by
        have : b * (a / b + 1) = b * (a / b) + b := by rw [Int.mul_add, Int.mul_one]
        rw [hq, this] at h1
        omega
      rw [hr, hq, w64 (n := a / b + 1) (by omega), w64 (n := a / b + 1 - 1) (by omega), w64 (n := a % b) (by omega), show a / b + 1 - 1 = a / b by omega]
    · rw [if_neg h0]
      have hz : a.tmod b = 0 := by omega
      have hz2 : a % b = 0 := by
        have : (-a) % b = 0 := by omega
        exact Int.emod_eq_zero_of_dvd ((Int.dvd_neg).1 (Int.dvd_of_emod_eq_zero this))
      have hq : a.tdiv b = a / b := by
        rw [hz] at h1
        rw [hz2] at h2
        exact Int.eq_of_mul_eq_mul_left (show b ≠ 0 by omega) (by omega)
      rw [hz, hz2, hq, w64 (by omega)]
  · rw [tmod_pos h, tdiv_pos h, if_neg (by omega), w64 (by omega)]

theorem days_eq (y m d : Int) (hy : -1000000 ≤ y ∧ y ≤ 1000000) (hm : 1 ≤ m ∧ m ≤ 12) (hd : -1000 ≤ d ∧ d ≤ 1000) : clock_days.f y m d = some (dayNum y m d) := by
  unfold clock_days.f
  obtain ⟨k, hk⟩ : ∃ k, (m + 9) % 12 = k := ⟨_, rfl⟩
  have ek : Int.tmod (wrap64 (m + 9)) 12 = k := by rw [w64 (by omega), tmod_pos (by omega), hk]
  have hk0 : 0 ≤ k ∧ k ≤ 11 := by omega
  have e1 : wrap64 (153 * k) = 153 * k := w64 (by omega)
  have e2 : wrap64 (153 * k + 2) = 153 * k + 2 := w64 (by omega)
  have e3 : Int.tdiv (153 * k + 2) 5 = (153 * k + 2) / 5 := tdiv_pos (by omega)
  rw [ek, e1, e2, e3]
  have main : ∀ Y : Int, -1000001 ≤ Y → Y ≤ 1000000 → wrap64 ((wrap64 ((wrap64 ((wrap64 ((wrap64 ((wrap64 (Y / 400 * 146097)) + (wrap64 (Y % 400 * 365)))) + (wrap64 (Int.tdiv (Y % 400) 4)))) - (wrap64 (Int.tdiv (Y % 400) 100)))) + (wrap64 ((wrap64 ((wrap64 ((153 * k + 2) / 5)) + d)) - 1)))) - 719468) = Y / 400 * 146097 + Y % 400 * 365 + Y % 400 / 4 - Y % 400 / 100 + ((153 * k + 2) / 5 + d - 1) - 719468 := by
    intro Y h1 h2
    rw [tdiv_pos (by omega), tdiv_pos (by omega)]
    obtain ⟨q, hq⟩ : ∃ q, (153 * k + 2) / 5 = q := ⟨_, rfl⟩
    have hq2 : 0 ≤ q ∧ q ≤ 400 := by omega
    rw [hq]
    clear hq e1 e2 e3 ek hk
    rw [w64 (n := Y / 400 * 146097) (by omega), w64 (n := Y % 400 * 365) (by omega), w64 (n := Y % 400 / 4) (by omega), w64 (n := Y % 400 / 100) (by omega), w64 (n := q) (by omega), w64 (n := q + d) (by omega), w64 (n := q + d - 1) (by omega),
      w64 (n := Y / 400 * 146097 + Y % 400 * 365) (by omega), w64 (n := Y / 400 * 146097 + Y % 400 * 365 + Y % 400 / 4) (by omega), w64 (n := Y / 400 * 146097 + Y % 400 * 365 + Y % 400 / 4 - Y % 400 / 100) (by omega), w64 (n := Y / 400 * 146097 + Y % 400 * 365 + Y % 400 / 4 - Y % 400 / 100 + (q + d - 1)) (by omega), w64 (by omega)]
  unfold dayNum
  rw [hk]
  by_cases hc : m ≤ 2
  · rw [if_pos hc, w64 (by omega), down_eq _ _ (by omega) (by omega) (by omega), Option.bind_some]
    dsimp only
    rw [main (y - 1) (by omega) (by omega)]
    simp only [if_pos hc]
  · rw [if_neg hc, down_eq _ _ (by omega) (by omega) (by omega), Option.bind_some]
    dsimp only
    rw [main y (by omega) (by omega)]
    simp only [if_neg hc]
theorem Days_eq (y m d : Int) (hy : -100000 ≤ y ∧ y ≤ 100000) (hm : 1 ≤ m ∧ m ≤ 12) (hd : 1 ≤ d ∧ d ≤ 31) : clock_Days.f y m d = some (dayNum y m d) := by
  unfold clock_Days.f
  rw [if_neg (by omega), if_neg (by omega), if_neg (by omega), if_neg (by omega), if_neg (by omega), if_neg (by omega), days_eq y m d (by omega) hm (by omega)]
  rfl
/-- within fair bounds. -/
theorem dayNum_bound (y m d : Int) (hy : -1000000 ≤ y ∧ y ≤ 1000000) (hm : 1 ≤ m ∧ m ≤ 12) (hd : -1000 ≤ d ∧ d ≤ 1000) : -400000000 ≤ dayNum y m d ∧ dayNum y m d ≤ 400000000 := by
  unfold dayNum
  split <;> omega
end Go.Proofs.YtfmfikodnpnblaaGreatDoor.ClkDays
namespace Go.Proofs.YtfmfikodnpnblaaGreatDoor.ClkMonth
open Go.RowKit Go.Proofs Go.Proofs.YtfmfikodnpnblaaGreatDoorW.PrintWords Go.Proofs.YtfmfikodnpnblaaGreatDoor.PClkR Go.Proofs.YtfmfikodnpnblaaGreatDoor.ClkDays Go.Proofs.YtfmfikodnpnblaaGreatDoor.Cal

theorem leap_eq (y : Int) : stevedoreref4_leap.f y = some (decide (leap y)) := by
  have h (c : Int) (hc : c ≠ 0) : (Int.tmod y c = 0 ↔ y % c = 0) := by rw [← Int.dvd_iff_emod_eq_zero, ← Int.dvd_iff_tmod_eq_zero]
  unfold stevedoreref4_leap.f
  by_cases h4 : y % 4 = 0
  · rw [if_pos ((h 4 (by decide)).2 h4)]
    by_cases h100 : y % 100 = 0
    · rw [if_pos ((h 100 (by decide)).2 h100)]
      congr 1
      by_cases h400 : y % 400 = 0
      · rw [(h 400 (by decide)).2 h400, decide_eq_true (show leap y from ⟨h4, .inr h400⟩)]; rfl
      · rw [decide_eq_false (show ¬ leap y by rintro ⟨_, h | h⟩ <;> contradiction)]
        exact beq_eq_false_iff_ne.2 (fun e => h400 ((h 400 (by decide)).1 e))
    · rw [if_neg (fun e => h100 ((h 100 (by decide)).1 e)), decide_eq_true (show leap y from ⟨h4, .inl h100⟩)]
  · rw [if_neg (fun e => h4 ((h 4 (by decide)).1 e)), decide_eq_false (show ¬ leap y from fun e => h4 e.1)]
theorem Month_eq (y m : Int) (hm : 1 ≤ m ∧ m ≤ 12) : stevedoreref4_Month.f y m = some (mlen y m) := by
  unfold stevedoreref4_Month.f mlen
  rw [leap_eq]
  simp only [Option.bind_some, show wrap64 (m - 1) = m - 1 from w64 (by omega)]
  rcases months hm.1 hm.2 with rfl | rfl | rfl | rfl | rfl | rfl | rfl | rfl | rfl | rfl | rfl | rfl
  all_goals try rfl
  by_cases h : leap y
  · simp only [h, decide_true, if_true]
    show some (wrap64 (28 + 1)) = some 29
    rw [w64 (by omega)]; rfl
  · simp only [h, decide_false, if_false]; rfl
end Go.Proofs.YtfmfikodnpnblaaGreatDoor.ClkMonth
namespace Go.Proofs.YtfmfikodnpnblaaGreatDoor.ClkDateEq
open Go.RowKit Go.Proofs Go.Proofs.YtfmfikodnpnblaaGreatDoorW.PrintWords Go.Proofs.YtfmfikodnpnblaaGreatDoor.PClk1 Go.Proofs.YtfmfikodnpnblaaGreatDoor.ClkDate Go.Proofs.YtfmfikodnpnblaaGreatDoor.ClkLib Go.Proofs.YtfmfikodnpnblaaGreatDoor.ClkDays Go.Proofs.YtfmfikodnpnblaaGreatDoor.Cal Go.Proofs.YtfmfikodnpnblaaGreatDoor.Civil

def dateOf (s : Int) : Int × Int × Int × Int × Int × Int :=
  (yearOf (s / 86400), monthOf (s / 86400), dayOf (s / 86400), s % 86400 / 3600, s % 86400 / 60 % 60, s % 86400 % 60)
set_option maxHeartbeats 4000000 in
theorem Date_eq (k : Nat) (s : Int) (hk : 1 ≤ k) (h0 : -1099511627776 ≤ s) (h1 : s ≤ 1099511627776) : clock_Date.f k s = some (dateOf s) := by
  obtain ⟨k, rfl⟩ : ∃ j, k = j + 1 := ⟨k - 1, by omega⟩
  unfold clock_Date.f dateOf
  rw [if_neg (by omega), decide_eq_false (by omega), clock_Date.j0, if_neg (by decide), down_eq _ _ (by omega) (by omega) (by omega), Option.bind_some]
  obtain ⟨n, hn⟩ : ∃ n, s / 86400 = n := ⟨_, rfl⟩
  obtain ⟨r, hr⟩ : ∃ r, s % 86400 = r := ⟨_, rfl⟩
  have hnb : -20000000 ≤ n ∧ n ≤ 20000000 := by omega
  have hrb : 0 ≤ r ∧ r < 86400 := by omega
  dsimp only
  rw [hn, hr]
  clear hn hr
  rw [w64 (n := n + 719468) (by omega), down_eq _ _ (by omega) (by omega) (by omega), Option.bind_some]
  dsimp only
  obtain ⟨f0, f1, f2, f3, f4⟩ := day_facts n
  have fi := doy_le n
  have fm := mon_le n
  obtain ⟨fd0, fd1⟩ := mon_doy n
  rw [← f0]
  obtain ⟨e, he⟩ : ∃ e, (n + 719468) / 146097 = e := ⟨_, rfl⟩
  have heb : -1000 ≤ e ∧ e ≤ 1000 := by omega
  have hera : era n = e := he
  rw [he]
  clear he f0
  -- the steps' names
  have hg : (gq (oday n) : Int) = (oday n : Int) - (oday n : Int) / 1460 + (oday n : Int) / 36524 - (oday n : Int) / 146096 := by unfold gq; omega
  have hy : (yoe n : Int) = (gq (oday n) : Int) / 365 := by unfold yoe; omega
  have hst : (st (yoe n) : Int) = 365 * (yoe n : Int) + (yoe n : Int) / 4 - (yoe n : Int) / 100 := by unfold st; omega
  have hi : (doy n : Int) = (oday n : Int) - st (yoe n) := by unfold doy; omega
  have hm : (mon n : Int) = (5 * (doy n : Int) + 2) / 153 := by unfold mon; omega
  have hd : (dayOf n : Int) = (doy n : Int) - (153 * (mon n : Int) + 2) / 5 + 1 := by unfold dayOf; omega
  unfold yearOf monthOf
  rw [hera]
  have hcond : (10 ≤ mon n) ↔ ((mon n : Int) ≥ 10) := by omega
  simp only [hcond]
  have bY : (0 : Int) ≤ yoe n ∧ (yoe n : Int) ≤ 399 := by omega
  have bS : (0 : Int) ≤ st (yoe n) ∧ (st (yoe n) : Int) ≤ 146096 := by omega
  have bI : (0 : Int) ≤ doy n ∧ (doy n : Int) ≤ 365 := by omega
  have bM : (0 : Int) ≤ mon n ∧ (mon n : Int) ≤ 11 := by omega
  have ob : (0 : Int) ≤ oday n ∧ (oday n : Int) ≤ 146096 := by omega
  clear f1 f2 f3 f4 fi fm fd0 fd1 hera hcond h0 h1
  generalize (dayOf n : Int) = D at *
  generalize (mon n : Int) = M at *
  generalize (doy n : Int) = I at *
  generalize (st (yoe n) : Int) = S at *
  generalize (yoe n : Int) = Y at *
  generalize (gq (oday n) : Int) = G at *
  generalize (oday n : Int) = o at *
  have e1 : wrap64 (Int.tdiv o 1460) = o / 1460 := by rw [tdiv_pos ob.1, w64 (by omega)]
  have e2 : wrap64 (o - o / 1460) = o - o / 1460 := w64 (by omega)
  have e3 : wrap64 (Int.tdiv o 36524) = o / 36524 := by rw [tdiv_pos ob.1, w64 (by omega)]
  have e4 : wrap64 (o - o / 1460 + o / 36524) = o - o / 1460 + o / 36524 := w64 (by omega)
  have e5 : wrap64 (Int.tdiv o 146096) = o / 146096 := by rw [tdiv_pos ob.1, w64 (by omega)]
  have e6 : wrap64 (o - o / 1460 + o / 36524 - o / 146096) = G := by rw [hg, w64 (by omega)]
  have e7 : wrap64 (Int.tdiv G 365) = Y := by rw [tdiv_pos (by omega), w64 (by omega), hy]
  have e8 : wrap64 (365 * Y) = 365 * Y := w64 (by omega)
  have e9 : wrap64 (Int.tdiv Y 4) = Y / 4 := by rw [tdiv_pos bY.1, w64 (by omega)]
  have e10 : wrap64 (365 * Y + Y / 4) = 365 * Y + Y / 4 := w64 (by omega)
  have e11 : wrap64 (Int.tdiv Y 100) = Y / 100 := by rw [tdiv_pos bY.1, w64 (by omega)]
  have e12 : wrap64 (365 * Y + Y / 4 - Y / 100) = S := by rw [hst, w64 (by omega)]
  have e13 : wrap64 (o - S) = I := by rw [hi, w64 (by omega)]
  have e14 : wrap64 (5 * I) = 5 * I := w64 (by omega)
  have e15 : wrap64 (5 * I + 2) = 5 * I + 2 := w64 (by omega)
  have e16 : wrap64 (Int.tdiv (5 * I + 2) 153) = M := by rw [tdiv_pos (by omega), w64 (by omega), hm]
  have e17 : wrap64 (153 * M) = 153 * M := w64 (by omega)
  have e18 : wrap64 (153 * M + 2) = 153 * M + 2 := w64 (by omega)
  have e19 : wrap64 (Int.tdiv (153 * M + 2) 5) = (153 * M + 2) / 5 := by rw [tdiv_pos (by omega), w64 (by omega)]
  have e20 : wrap64 (I - (153 * M + 2) / 5) = I - (153 * M + 2) / 5 := w64 (by omega)
  have e21 : wrap64 (I - (153 * M + 2) / 5 + 1) = D := by rw [hd, w64 (by omega)]
  have e22 : wrap64 (e * 400) = e * 400 := w64 (by omega)
  have e23 : wrap64 (Y + e * 400) = Y + e * 400 := w64 (by omega)
  have e24 : wrap64 (Y + e * 400 + 1) = Y + e * 400 + 1 := w64 (by omega)
  have e25 : wrap64 (M - 9) = M - 9 := w64 (by omega)
  have e26 : wrap64 (M + 3) = M + 3 := w64 (by omega)
  have e27 : wrap64 (Int.tdiv r 3600) = r / 3600 := by rw [tdiv_pos hrb.1, w64 (by omega)]
  have e28 : wrap64 (Int.tdiv r 60) = r / 60 := by rw [tdiv_pos hrb.1, w64 (by omega)]
  have e29 : Int.tmod (r / 60) 60 = r / 60 % 60 := tmod_pos (by omega)
  have e30 : Int.tmod r 60 = r % 60 := tmod_pos hrb.1
  simp only [e1, e2, e3, e4, e5, e6, e7, e8, e9, e10, e11, e12, e13, e14, e15, e16, e17, e18, e19, e20, e21, e22, e23, e24, e25, e26, e27, e28, e29, e30]
  by_cases h : M ≥ 10
  · rw [if_pos h, if_pos h, if_pos h]
  · rw [if_neg h, if_neg h, if_neg h, Int.add_zero]

end Go.Proofs.YtfmfikodnpnblaaGreatDoor.ClkDateEq
namespace Go.Proofs.YtfmfikodnpnblaaGreatDoor.ClkSecs
open Go.RowKit Go.Proofs Go.Proofs.YtfmfikodnpnblaaGreatDoorW.PrintWords Go.Proofs.YtfmfikodnpnblaaGreatDoor.PClk1 Go.Proofs.YtfmfikodnpnblaaGreatDoor.PClkB Go.Proofs.YtfmfikodnpnblaaGreatDoor.ClkDate Go.Proofs.YtfmfikodnpnblaaGreatDoor.ClkLib Go.Proofs.YtfmfikodnpnblaaGreatDoor.ClkDays Go.Proofs.YtfmfikodnpnblaaGreatDoor.Cal Go.Proofs.YtfmfikodnpnblaaGreatDoor.ClkDateEq

theorem long_eq (y m : Int) (hy : -1000 ≤ y ∧ y ≤ 100000) (hm : 1 ≤ m ∧ m ≤ 12) : clock_long.f y m = some (mlen y m) := by
  unfold clock_long.f
  have h := month_len y m hm.1 hm.2
  by_cases hc : m = 12
  · subst hc; rfl
  · have b1 := dayNum_bound y (m + 1) 1 (by omega) (by omega) (by omega)
    have b2 := dayNum_bound y m 1 (by omega) (by omega) (by omega)
    rw [if_pos (by omega)] at h
    rw [if_neg hc, w64 (n := m + 1) (by omega), days_eq y (m + 1) 1 (by omega) (by omega) (by omega), Option.bind_some, days_eq y m 1 (by omega) hm (by omega), Option.bind_some, w64 (by omega), h]
def okDate (y m d h i s : Int) : Prop := 1 ≤ y ∧ y ≤ 9999 ∧ 1 ≤ m ∧ m ≤ 12 ∧ 1 ≤ d ∧ d ≤ mlen y m ∧ 0 ≤ h ∧ h ≤ 23 ∧ 0 ≤ i ∧ i ≤ 59 ∧ 0 ≤ s ∧ s ≤ 59
instance (y m d h i s : Int) : Decidable (okDate y m d h i s) := by unfold okDate; infer_instance
def secs (y m d h i s : Int) : Int := dayNum y m d * 86400 + h * 3600 + i * 60 + s
theorem mlen_le (y m : Int) : 28 ≤ mlen y m ∧ mlen y m ≤ 31 := by
  unfold mlen
  split
  · split <;> omega
  · split <;> omega
theorem Seconds_eq (k : Nat) (y m d h i s : Int) (hk : 1 ≤ k) : clock_Seconds.f k y m d h i s = some (if okDate y m d h i s then (secs y m d h i s, true) else (0, false)) := by
  obtain ⟨k, rfl⟩ : ∃ j, k = j + 1 := ⟨k - 1, by omega⟩
  have bad : clock_Seconds.j0 (k + 1) true y m d h i s = some (0, false) := by rw [clock_Seconds.j0, if_pos rfl]
  unfold clock_Seconds.f
  by_cases g1 : y < 1
  · rw [if_pos g1, bad, if_neg (by unfold okDate; omega)]
  rw [if_neg g1]
  by_cases g2 : y > 9999
  · rw [if_pos g2, bad, if_neg (by unfold okDate; omega)]
  rw [if_neg g2]
  by_cases g3 : m < 1
  · rw [if_pos g3, bad, if_neg (by unfold okDate; omega)]
  rw [if_neg g3]
  by_cases g4 : m > 12
  · rw [if_pos g4, bad, if_neg (by unfold okDate; omega)]
  rw [if_neg g4]
  by_cases g5 : d < 1
  · rw [if_pos g5, bad, if_neg (by unfold okDate; omega)]
  rw [if_neg g5, long_eq y m (by omega) (by omega), Option.bind_some]
  by_cases g6 : d > mlen y m
  · rw [decide_eq_true g6, bad, if_neg (by unfold okDate; omega)]
  rw [decide_eq_false g6, clock_Seconds.j0, if_neg (by decide)]
  by_cases g7 : h < 0
  · rw [if_pos g7, if_neg (by unfold okDate; omega)]
  rw [if_neg g7]
  by_cases g8 : h > 23
  · rw [if_pos g8, if_neg (by unfold okDate; omega)]
  rw [if_neg g8]
  by_cases g9 : i < 0
  · rw [if_pos g9, if_neg (by unfold okDate; omega)]
  rw [if_neg g9]
  by_cases g10 : i > 59
  · rw [if_pos g10, if_neg (by unfold okDate; omega)]
  rw [if_neg g10]
  by_cases g11 : s < 0
  · rw [if_pos g11, if_neg (by unfold okDate; omega)]
  rw [if_neg g11]
  by_cases g12 : s > 59
  · rw [if_pos g12, if_neg (by unfold okDate; omega)]
  have hl := mlen_le y m
  have b := dayNum_bound y m d (by omega) (by omega) (by omega)
  rw [if_neg g12, days_eq y m d (by omega) (by omega) (by omega), Option.bind_some, if_pos (by unfold okDate; omega)]
  unfold secs
  rw [w64 (n := dayNum y m d * 86400) (by omega), w64 (n := h * 3600) (by omega), w64 (n := i * 60) (by omega), w64 (n := dayNum y m d * 86400 + h * 3600) (by omega), w64 (n := dayNum y m d * 86400 + h * 3600 + i * 60) (by omega), w64 (by omega)]

theorem day_mlen (n : Int) : (dayOf n : Int) ≤ mlen (yearOf n) (monthOf n) := by
  rcases Int.lt_or_le (mlen (yearOf n) (monthOf n)) (dayOf n) with h | h
  · exfalso
    obtain ⟨m0, m1⟩ := month_range n
    have hd := day_le n
    have hl := mlen_le (yearOf n) (monthOf n)
    have hml := month_len (yearOf n) (monthOf n) m0 m1
    have hn := dayNum_date n
    have hs := day_step (yearOf n) (monthOf n) (dayOf n) 1
    by_cases hc : monthOf n < 12
    · rw [if_pos hc] at hml
      have hl2 := mlen_le (yearOf n) (monthOf n + 1)
      have hs2 := day_step (yearOf n) (monthOf n + 1) (dayOf n - mlen (yearOf n) (monthOf n)) 1
      have e : dayNum (yearOf n) (monthOf n + 1) (dayOf n - mlen (yearOf n) (monthOf n)) = n := by omega
      have hb := date_dayNum (yearOf n) (monthOf n + 1) (dayOf n - mlen (yearOf n) (monthOf n)) (by omega) (by omega) (by omega) (by omega)
      rw [e] at hb
      omega
    · rw [if_neg hc] at hml
      have hl2 := mlen_le (yearOf n + 1) 1
      have hs2 := day_step (yearOf n + 1) 1 (dayOf n - mlen (yearOf n) (monthOf n)) 1
      have e : dayNum (yearOf n + 1) 1 (dayOf n - mlen (yearOf n) (monthOf n)) = n := by omega
      have hb := date_dayNum (yearOf n + 1) 1 (dayOf n - mlen (yearOf n) (monthOf n)) (by omega) (by omega) (by omega) (by omega)
      rw [e] at hb
      omega
  · exact h
end Go.Proofs.YtfmfikodnpnblaaGreatDoor.ClkSecs
namespace Go.Proofs.YtfmfikodnpnblaaGreatDoor.ClkRefDays
open Go.RowKit Go.Proofs Go.Proofs.YtfmfikodnpnblaaGreatDoorW.PrintWords Go.Proofs.YtfmfikodnpnblaaGreatDoor.PClk1 Go.Proofs.YtfmfikodnpnblaaGreatDoor.PClkR Go.Proofs.YtfmfikodnpnblaaGreatDoor.PClkQ Go.Proofs.YtfmfikodnpnblaaGreatDoor.ClkDate Go.Proofs.YtfmfikodnpnblaaGreatDoor.ClkDays Go.Proofs.YtfmfikodnpnblaaGreatDoor.ClkMonth Go.Proofs.YtfmfikodnpnblaaGreatDoor.ClkDateEq Go.Proofs.YtfmfikodnpnblaaGreatDoor.ClkSecs Go.Proofs.YtfmfikodnpnblaaGreatDoor.Cal Go.Proofs.YtfmfikodnpnblaaGreatDoor.Civil

theorem floor_eq (a b : Int) (hb : 1 ≤ b) (hb' : b ≤ 1000000) (ha : -1000000000000000000 ≤ a ∧ a ≤ 1000000000000000000) : stevedoreref4_floor.f a b = some (a / b) := by
  have h := down_eq a b hb hb' ha
  unfold clock_down.f at h
  unfold stevedoreref4_floor.f
  rw [if_neg (by omega)] at h ⊢
  split
  · rename_i h0
    rw [if_pos h0] at h
    simp only [Option.some.injEq, Prod.mk.injEq] at h
    rw [h.1]
  · rename_i h0
    rw [if_neg h0] at h
    simp only [Option.some.injEq, Prod.mk.injEq] at h
    rw [h.1]
def aheadN (y : Int) : Int := y * 365 + (y - 1) / 4 - (y - 1) / 100 + (y - 1) / 400 + 1
theorem ahead_eq (y : Int) (hy : -1000000 ≤ y ∧ y ≤ 1000000) : stevedoreref4_ahead.f y = some (aheadN y) := by
  unfold stevedoreref4_ahead.f aheadN
  rw [w64 (n := y - 1) (by omega), floor_eq _ 4 (by decide) (by decide) (by omega), Option.bind_some, floor_eq _ 100 (by decide) (by decide) (by omega), Option.bind_some, floor_eq _ 400 (by decide) (by decide) (by omega), Option.bind_some]
  rw [w64 (n := y * 365) (by omega), w64 (n := y * 365 + (y - 1) / 4) (by omega), w64 (n := y * 365 + (y - 1) / 4 - (y - 1) / 100) (by omega), w64 (n := y * 365 + (y - 1) / 4 - (y - 1) / 100 + (y - 1) / 400) (by omega), w64 (by omega)]
theorem ahead_day (y : Int) : aheadN y - aheadN 1970 = dayNum y 1 1 := by
  have e : aheadN 1970 = 719528 := by decide
  rw [e]
  unfold aheadN dayNum
  simp only [show (1 : Int) ≤ 2 by decide, if_true]
  omega
theorem Days2_eq (y : Int) (hy : -1000000 ≤ y ∧ y ≤ 1000000) : stevedoreref4_Days2.f y = some (dayNum y 1 1) := by
  have b := dayNum_bound y 1 1 hy (by omega) (by omega)
  unfold stevedoreref4_Days2.f
  rw [ahead_eq y hy, Option.bind_some, ahead_eq 1970 (by omega), Option.bind_some, ahead_day, w64 (by omega)]
theorem Days_l : ∀ (j : Nat) (k : Nat) (y m d i : Int), i = m - j → 1 ≤ i → m ≤ 12 → j + 1 ≤ k → -100000 ≤ y ∧ y ≤ 100000 → 1 ≤ d ∧ d ≤ 31 → stevedoreref4_Days.l0 k y m d (dayNum y i 1) i = some (dayNum y m d)
  | 0, k + 1, y, m, d, i, hi, h1, hm, hk, hy, hd => by
    have hi' : i = m := by omega
    subst hi'
    have b := dayNum_bound y i 1 (by omega) (by omega) (by omega)
    have s := day_step y i d 1
    rw [stevedoreref4_Days.l0, if_neg (by omega), w64 (n := dayNum y i 1 + d) (by omega), w64 (by omega)]
    congr 1
    omega
  | j + 1, k + 1, y, m, d, i, hi, h1, hm, hk, hy, hd => by
    have b := dayNum_bound y i 1 (by omega) (by omega) (by omega)
    have hl := mlen_le y i
    have hml := month_len y i h1 (by omega)
    rw [if_pos (by omega)] at hml
    rw [stevedoreref4_Days.l0, if_pos (by omega), Month_eq y i (by omega), Option.bind_some, w64 (n := dayNum y i 1 + mlen y i) (by omega), w64 (n := i + 1) (by omega), show dayNum y i 1 + mlen y i = dayNum y (i + 1) 1 by omega]
    exact Days_l j k y m d (i + 1) (by omega) (by omega) hm (by omega) hy hd
def okDay (y m d : Int) : Prop := -100000 ≤ y ∧ y ≤ 100000 ∧ 1 ≤ m ∧ m ≤ 12 ∧ 1 ≤ d ∧ d ≤ 31
instance (y m d : Int) : Decidable (okDay y m d) := by unfold okDay; infer_instance
theorem refDays_eq (k : Nat) (y m d : Int) (hk : 20 ≤ k) : stevedoreref4_Days.f k y m d = some (if okDay y m d then dayNum y m d else 0) := by
  obtain ⟨k, rfl⟩ : ∃ j, k = j + 1 := ⟨k - 1, by omega⟩
  have bad : stevedoreref4_Days.j0 (k + 1) y m d true = some 0 := by rw [stevedoreref4_Days.j0, if_pos rfl]
  unfold stevedoreref4_Days.f
  by_cases g1 : y < -100000
  · rw [if_pos g1, bad, if_neg (by unfold okDay; omega)]
  rw [if_neg g1]
  by_cases g2 : y > 100000
  · rw [if_pos g2, bad, if_neg (by unfold okDay; omega)]
  rw [if_neg g2]
  by_cases g3 : m < 1
  · rw [if_pos g3, bad, if_neg (by unfold okDay; omega)]
  rw [if_neg g3]
  by_cases g4 : m > 12
  · rw [if_pos g4, bad, if_neg (by unfold okDay; omega)]
  rw [if_neg g4]
  by_cases g5 : d < 1
  · rw [if_pos g5, bad, if_neg (by unfold okDay; omega)]
  rw [if_neg g5]
  by_cases g6 : d > 31
  · rw [decide_eq_true g6, bad, if_neg (by unfold okDay; omega)]
  have b := dayNum_bound y 1 1 (by omega) (by omega) (by omega)
  rw [decide_eq_false g6, stevedoreref4_Days.j0, if_neg (by decide), ahead_eq y (by omega), Option.bind_some, ahead_eq 1970 (by omega), Option.bind_some, ahead_day, w64 (n := dayNum y 1 1) (by omega), if_pos (show okDay y m d by unfold okDay; omega)]
  exact Days_l (m - 1).toNat k y m d 1 (by omega) (by omega) (by omega) (by omega) (by omega) (by omega)
theorem Days_is (y m d : Int) : clock_Days.f y m d = some (if okDay y m d then dayNum y m d else 0) := by
  by_cases h : okDay y m d
  · rw [if_pos h, Days_eq y m d ⟨h.1, h.2.1⟩ ⟨h.2.2.1, h.2.2.2.1⟩ ⟨h.2.2.2.2.1, h.2.2.2.2.2⟩]
  · rw [if_neg h]
    unfold okDay at h
    unfold clock_Days.f
    by_cases g1 : y < -100000
    · rw [if_pos g1]
    rw [if_neg g1]
    by_cases g2 : y > 100000
    · rw [if_pos g2]
    rw [if_neg g2]
    by_cases g3 : m < 1
    · rw [if_pos g3]
    rw [if_neg g3]
    by_cases g4 : m > 12
    · rw [if_pos g4]
    rw [if_neg g4]
    by_cases g5 : d < 1
    · rw [if_pos g5]
    rw [if_neg g5, if_pos (by omega)]

/-! ### Date -/
theorem jan_mono {a b : Int} (h : a ≤ b) : dayNum a 1 1 ≤ dayNum b 1 1 := by
  obtain ⟨j, rfl⟩ : ∃ j : Nat, b = a + j := ⟨(b - a).toNat, by omega⟩
  clear h
  induction j with
  | zero => simp
  | succ j ih =>
    have hl := year_len (a + j)
    have : dayNum (a + j) 1 1 ≤ dayNum (a + j + 1) 1 1 := by split at hl <;> omega
    rw [show a + ((j + 1 : Nat) : Int) = a + j + 1 by omega]
    omega
theorem first_mono (y : Int) : ∀ (j : Nat) (a : Int), 1 ≤ a → a + j ≤ 12 → dayNum y a 1 ≤ dayNum y (a + j) 1
  | 0, a, _, _ => by simp
  | j + 1, a, h, h' => by
    have ih := first_mono y j a h (by omega)
    have hml := month_len y (a + j) (by omega) (by omega)
    have hl := mlen_le y (a + j)
    rw [if_pos (by omega)] at hml
    rw [show a + ((j + 1 : Nat) : Int) = a + j + 1 by omega]
    omega
theorem first_le {y a b : Int} (h : a ≤ b) (h0 : 1 ≤ a) (h1 : b ≤ 12) : dayNum y a 1 ≤ dayNum y b 1 := by
  have := first_mono y (b - a).toNat a h0 (by omega)
  rwa [show a + ((b - a).toNat : Int) = b by omega] at this
theorem year_span (n : Int) : dayNum (yearOf n) 1 1 ≤ n ∧ n < dayNum (yearOf n + 1) 1 1 := by
  obtain ⟨m0, m1⟩ := month_range n
  have hd0 := day_pos n
  have hdm := day_mlen n
  have hdn := dayNum_date n
  have hs := day_step (yearOf n) (monthOf n) (dayOf n) 1
  have h1 := first_le (y := yearOf n) m0 (by omega) m1
  refine ⟨by omega, ?_⟩
  have hml := month_len (yearOf n) (monthOf n) m0 m1
  by_cases hc : monthOf n < 12
  · rw [if_pos hc] at hml
    have h2 := first_le (y := yearOf n) (a := monthOf n + 1) (b := 12) (by omega) (by omega) (by omega)
    have hml2 := month_len (yearOf n) 12 (by omega) (by omega)
    rw [if_neg (by omega)] at hml2
    have hl := mlen_le (yearOf n) 12
    omega
  · rw [if_neg hc] at hml
    omega
theorem l2_eq (n r : Int) (hn : -20000000 ≤ n ∧ n ≤ 20000000) (hr : 0 ≤ r ∧ r < 86400) : ∀ (j k : Nat) (i : Int), i = monthOf n - j → 1 ≤ i → j + 1 ≤ k →
    stevedoreref4_Date.l2 k (n - dayNum (yearOf n) i 1) r (yearOf n) i = some (yearOf n, monthOf n, (dayOf n : Int), r / 3600, r / 60 % 60, r % 60)
  | 0, k + 1, i, hi, h1, hk => by
    have hi' : i = monthOf n := by omega
    subst hi'
    obtain ⟨m0, m1⟩ := month_range n
    have hd0 := day_pos n
    have hd1 := day_le n
    have hdm := day_mlen n
    have hdn := dayNum_date n
    have hs := day_step (yearOf n) (monthOf n) (dayOf n) 1
    rw [stevedoreref4_Date.l2, Month_eq _ _ ⟨m0, m1⟩, Option.bind_some, if_neg (by omega), w64 (n := n - dayNum (yearOf n) (monthOf n) 1 + 1) (by omega), tdiv_pos hr.1, w64 (n := r / 3600) (by omega), tdiv_pos hr.1, w64 (n := r / 60) (by omega), tmod_pos (by omega), tmod_pos hr.1]
    congr 4
    omega
  | j + 1, k + 1, i, hi, h1, hk => by
    obtain ⟨m0, m1⟩ := month_range n
    have hd0 := day_pos n
    have hdn := dayNum_date n
    have hs := day_step (yearOf n) (monthOf n) (dayOf n) 1
    have hml := month_len (yearOf n) i h1 (by omega)
    rw [if_pos (by omega)] at hml
    have hle := first_le (y := yearOf n) (a := i + 1) (b := monthOf n) (by omega) (by omega) m1
    obtain ⟨_, _, f2, _, _⟩ := day_facts n
    have he : -200 ≤ era n ∧ era n ≤ 200 := by unfold era; omega
    have hyb : -1000000 ≤ yearOf n ∧ yearOf n ≤ 1000000 := by unfold yearOf; split <;> omega
    have b1 := dayNum_bound (yearOf n) i 1 hyb (by omega) (by omega)
    have b2 := dayNum_bound (yearOf n) (i + 1) 1 hyb (by omega) (by omega)
    rw [stevedoreref4_Date.l2, Month_eq _ _ (by omega), Option.bind_some, if_pos (by omega), Option.bind_some, w64 (n := n - dayNum (yearOf n) i 1 - mlen (yearOf n) i) (by omega), w64 (n := i + 1) (by omega),
      show n - dayNum (yearOf n) i 1 - mlen (yearOf n) i = n - dayNum (yearOf n) (i + 1) 1 by omega]
    exact l2_eq n r hn hr j k (i + 1) (by omega) (by omega) (by omega)
theorem year_fair {n : Int} (hn : -20000000 ≤ n ∧ n ≤ 20000000) : -90000 ≤ yearOf n ∧ yearOf n ≤ 90000 := by
  obtain ⟨_, _, f2, _, _⟩ := day_facts n
  have he : -200 ≤ era n ∧ era n ≤ 200 := by unfold era; omega
  unfold yearOf
  split <;> omega
theorem l1_eq (k : Nat) (n r : Int) (hn : -20000000 ≤ n ∧ n ≤ 20000000) (hr : 0 ≤ r ∧ r < 86400) (hk : 15 ≤ k) :
    stevedoreref4_Date.l1 k n r (yearOf n) = some (yearOf n, monthOf n, (dayOf n : Int), r / 3600, r / 60 % 60, r % 60) := by
  obtain ⟨k, rfl⟩ : ∃ j, k = j + 1 := ⟨k - 1, by omega⟩
  have hy := year_fair hn
  have hs := year_span n
  have b := dayNum_bound (yearOf n) 1 1 (by omega) (by omega) (by omega)
  obtain ⟨m0, m1⟩ := month_range n
  rw [stevedoreref4_Date.l1, Days2_eq _ (by omega), Option.bind_some, if_neg (by omega), Option.bind_some, w64 (by omega)]
  exact l2_eq n r hn hr (monthOf n - 1).toNat k 1 (by omega) (by omega) (by omega)
theorem l0_eq (n r : Int) (hn : -20000000 ≤ n ∧ n ≤ 20000000) (hr : 0 ≤ r ∧ r < 86400) : ∀ (j k : Nat) (y : Int), y = yearOf n - j → j ≤ 300 → j + 20 ≤ k →
    stevedoreref4_Date.l0 k n r y = some (yearOf n, monthOf n, (dayOf n : Int), r / 3600, r / 60 % 60, r % 60)
  | 0, k + 1, y, hy, _, hk => by
    have hf := year_fair hn
    have hs := year_span n
    have hy' : y = yearOf n := by omega
    subst hy'
    rw [stevedoreref4_Date.l0, w64 (n := yearOf n + 1) (by omega), Days2_eq _ (by omega), Option.bind_some, if_neg (by omega)]
    exact l1_eq k n r hn hr (by omega)
  | j + 1, k + 1, y, hy, hj, hk => by
    have hf := year_fair hn
    have hs := year_span n
    have hm := jan_mono (a := y + 1) (b := yearOf n) (by omega)
    rw [stevedoreref4_Date.l0, w64 (n := y + 1) (by omega), Days2_eq _ (by omega), Option.bind_some, if_pos (by omega)]
    exact l0_eq n r hn hr j k (y + 1) (by omega) (by omega) (by omega)
theorem start_near {n q : Int} (hn : -13000000 ≤ n ∧ n ≤ 13000000) (hq : q = if n < 0 then n / 365 else n / 366) : 1970 + q ≤ yearOf n ∧ yearOf n ≤ 1970 + q + 200 := by
  have hs := year_span n
  have e0 := ahead_day (1970 + q)
  have e1 := ahead_day (1970 + q + 201)
  have ec : aheadN 1970 = 719528 := by decide
  rw [ec] at e0 e1
  unfold aheadN at e0 e1
  have h0 : dayNum (1970 + q) 1 1 ≤ n := by
    clear e1
    split at hq
    · omega
    · have hq3 : q = 0 ∨ q = 1 ∨ 2 ≤ q := by omega
      rcases hq3 with g | g | g
      · rw [g] at e0 ⊢
        have e : (1970 + 0 - 1 : Int) / 4 = 492 ∧ (1970 + 0 - 1 : Int) / 100 = 19 ∧ (1970 + 0 - 1 : Int) / 400 = 4 := by decide
        rw [e.1, e.2.1, e.2.2] at e0
        omega
      · rw [g] at e0 ⊢
        have e : (1970 + 1 - 1 : Int) / 4 = 492 ∧ (1970 + 1 - 1 : Int) / 100 = 19 ∧ (1970 + 1 - 1 : Int) / 400 = 4 := by decide
        rw [e.1, e.2.1, e.2.2] at e0
        omega
      · omega
  have h1 : n < dayNum (1970 + q + 201) 1 1 := by
    split at hq <;> omega
  constructor
  · rcases Int.lt_or_le (yearOf n) (1970 + q) with h | h
    · have := jan_mono (a := yearOf n + 1) (b := 1970 + q) (by omega); omega
    · exact h
  · rcases Int.lt_or_le (1970 + q + 200) (yearOf n) with h | h
    · have := jan_mono (a := 1970 + q + 201) (b := yearOf n) (by omega); omega
    · exact h
theorem refDate_eq (k : Nat) (s : Int) (hk : 300 ≤ k) (h0 : -1099511627776 ≤ s) (h1 : s ≤ 1099511627776) : stevedoreref4_Date.f k s = some (dateOf s) := by
  obtain ⟨k, rfl⟩ : ∃ j, k = j + 2 := ⟨k - 2, by omega⟩
  have hn : -13000000 ≤ s / 86400 ∧ s / 86400 ≤ 13000000 := by omega
  have hr : 0 ≤ s % 86400 ∧ s % 86400 < 86400 := by omega
  have hsr : s - s / 86400 * 86400 = s % 86400 := by omega
  unfold stevedoreref4_Date.f dateOf
  rw [if_neg (by omega), decide_eq_false (by omega), stevedoreref4_Date.j0, if_neg (by decide), floor_eq s 86400 (by decide) (by decide) (by omega), Option.bind_some]
  generalize s / 86400 = n at *
  rw [floor_eq n 366 (by decide) (by decide) (by omega), Option.bind_some, w64 (n := n * 86400) (by omega), hsr, w64 (n := s % 86400) (by omega)]
  generalize s % 86400 = r at *
  by_cases hneg : n < 0
  · obtain ⟨g0, g1⟩ := start_near hn (q := n / 365) (by rw [if_pos hneg])
    rw [if_pos hneg, floor_eq n 365 (by decide) (by decide) (by omega), Option.bind_some, w64 (n := 1970 + n / 365) (by omega), stevedoreref4_Date.j1]
    exact l0_eq n r (by omega) hr (yearOf n - (1970 + n / 365)).toNat k _ (by omega) (by omega) (by omega)
  · obtain ⟨g0, g1⟩ := start_near hn (q := n / 366) (by rw [if_neg hneg])
    rw [if_neg hneg, w64 (n := 1970 + n / 366) (by omega), stevedoreref4_Date.j1]
    exact l0_eq n r (by omega) hr (yearOf n - (1970 + n / 366)).toNat k _ (by omega) (by omega) (by omega)
theorem refDate_out (k : Nat) (s : Int) (hk : 1 ≤ k) (h : s < -1099511627776 ∨ s > 1099511627776) : stevedoreref4_Date.f k s = some (0, 0, 0, 0, 0, 0) := by
  obtain ⟨k, rfl⟩ : ∃ j, k = j + 1 := ⟨k - 1, by omega⟩
  unfold stevedoreref4_Date.f
  by_cases g : s < -1099511627776
  · rw [if_pos g, stevedoreref4_Date.j0, if_pos rfl]
  · rw [if_neg g, decide_eq_true (by omega), stevedoreref4_Date.j0, if_pos rfl]
theorem Date_out (k : Nat) (s : Int) (hk : 1 ≤ k) (h : s < -1099511627776 ∨ s > 1099511627776) : clock_Date.f k s = some (0, 0, 0, 0, 0, 0) := by
  obtain ⟨k, rfl⟩ : ∃ j, k = j + 1 := ⟨k - 1, by omega⟩
  unfold clock_Date.f
  by_cases g : s < -1099511627776
  · rw [if_pos g, clock_Date.j0, if_pos rfl]
  · rw [if_neg g, decide_eq_true (by omega), clock_Date.j0, if_pos rfl]

/-! ### Seconds -/
theorem refSeconds_eq (k : Nat) (y m d h i s : Int) (hk : 20 ≤ k) : stevedoreref4_Seconds.f k y m d h i s = some (if okDate y m d h i s then (secs y m d h i s, true) else (0, false)) := by
  unfold stevedoreref4_Seconds.f
  by_cases g1 : y < 1
  · rw [if_pos g1, if_neg (by unfold okDate; omega)]
  rw [if_neg g1]
  by_cases g2 : y > 9999
  · rw [if_pos g2, if_neg (by unfold okDate; omega)]
  rw [if_neg g2]
  by_cases g3 : m < 1
  · rw [if_pos g3, if_neg (by unfold okDate; omega)]
  rw [if_neg g3]
  by_cases g4 : m > 12
  · rw [if_pos g4, if_neg (by unfold okDate; omega)]
  rw [if_neg g4]
  by_cases g5 : d < 1
  · rw [if_pos g5, if_neg (by unfold okDate; omega)]
  rw [if_neg g5, Month_eq y m (by omega), Option.bind_some]
  by_cases g6 : d > mlen y m
  · rw [if_pos g6, if_neg (by unfold okDate; omega)]
  rw [if_neg g6]
  by_cases g7 : h < 0
  · rw [if_pos g7, if_neg (by unfold okDate; omega)]
  rw [if_neg g7]
  by_cases g8 : h > 23
  · rw [if_pos g8, if_neg (by unfold okDate; omega)]
  rw [if_neg g8]
  by_cases g9 : i < 0
  · rw [if_pos g9, if_neg (by unfold okDate; omega)]
  rw [if_neg g9]
  by_cases g10 : i > 59
  · rw [if_pos g10, if_neg (by unfold okDate; omega)]
  rw [if_neg g10]
  by_cases g11 : s < 0
  · rw [if_pos g11, if_neg (by unfold okDate; omega)]
  rw [if_neg g11]
  by_cases g12 : s > 59
  · rw [if_pos g12, if_neg (by unfold okDate; omega)]
  have hl := mlen_le y m
  have b := dayNum_bound y m d (by omega) (by omega) (by omega)
  rw [if_neg g12, refDays_eq k y m d hk, Option.bind_some, if_pos (show okDay y m d by unfold okDay; omega), if_pos (show okDate y m d h i s by unfold okDate; omega)]
  unfold secs
  rw [w64 (n := dayNum y m d * 86400) (by omega), w64 (n := h * 3600) (by omega), w64 (n := i * 60) (by omega), w64 (n := dayNum y m d * 86400 + h * 3600) (by omega), w64 (n := dayNum y m d * 86400 + h * 3600 + i * 60) (by omega), w64 (by omega)]
end Go.Proofs.YtfmfikodnpnblaaGreatDoor.ClkRefDays
