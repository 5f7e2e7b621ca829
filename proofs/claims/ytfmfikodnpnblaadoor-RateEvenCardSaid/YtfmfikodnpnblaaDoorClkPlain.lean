/- The calendar's numbers, plainly: years of 365 days and a quarter, months from March on. No program here. -/
import Derived.Test.YtfmfikodnpnblaaDoorBase
import Derived.Test.YtfmfikodnpnblaaDoorFlt
import Derived.Lib.ItoaNum
import Derived.Lib.TrimByte
import Derived.Lib.ItoaLen
import Derived.Lib.IndexLaws
import Derived.Test.YtfmfikodnpnblaaDoorPClk1x
set_option linter.unusedVariables false
set_option linter.unusedSimpArgs false
namespace Go.Proofs.YtfmfikodnpnblaaDoor.Civil

def gq (o : Nat) : Nat := o - o / 1460 + o / 36524 - o / 146096
def st (y : Nat) : Nat := 365 * y + y / 4 - y / 100
theorem gq_step (o : Nat) (h : o < 146096) : gq o ≤ gq (o + 1) := by
  unfold gq
  by_cases h1 : o + 1 = 146096
  · obtain rfl : o = 146095 := by omega
    decide
  · omega
theorem gq_mono (o : Nat) : ∀ k : Nat, o + k ≤ 146096 → gq o ≤ gq (o + k)
  | 0, _ => Nat.le_refl _
  | k + 1, h => Nat.le_trans (gq_mono o k (by omega)) (gq_step (o + k) (by omega))
theorem gq_le {a b : Nat} (h : a ≤ b) (hb : b ≤ 146096) : gq a ≤ gq b := by
  have := gq_mono a (b - a) (by omega)
  rwa [show a + (b - a) = b by omega] at this
def okYear (y : Nat) : Bool := decide (365 * y ≤ gq (st y)) && decide (gq (st (y + 1) - 1) < 365 * (y + 1)) && decide (st y < st (y + 1))
theorem years_ok : (List.range 400).all okYear = true := by decide +kernel
theorem last_ok : gq 146096 < 365 * 400 ∧ 365 * 399 ≤ gq 146096 ∧ st 400 = 146096 := by decide
/-- the year of a day (of 146097, from March on). -/
theorem year_of (o : Nat) (h : o ≤ 146096) : gq o / 365 ≤ 399 ∧ st (gq o / 365) ≤ o ∧ (gq o / 365 < 399 → o < st (gq o / 365 + 1)) := by
  have hall : ∀ y, y < 400 → 365 * y ≤ gq (st y) ∧ gq (st (y + 1) - 1) < 365 * (y + 1) ∧ st y < st (y + 1) := fun y hy => by
    have := List.all_eq_true.1 years_ok y (List.mem_range.2 hy)
    unfold okYear at this
    simp only [Bool.and_eq_true, decide_eq_true_eq] at this
    exact ⟨this.1.1, this.1.2, this.2⟩
  have hst : ∀ y, y ≤ 400 → st y ≤ 146096 := by
    intro y hy
    unfold st
    omega
  -- the year whose days these are
  have hex : ∀ n, n ≤ 400 → o < st n → ∃ y, y < n ∧ st y ≤ o ∧ o < st (y + 1) := by
    intro n
    induction n with
    | zero => intro _ h0; unfold st at h0; omega
    | succ n ih =>
      intro hn h0
      rcases Nat.lt_or_ge o (st n) with h1 | h1
      · obtain ⟨y, a, b⟩ := ih (by omega) h1
        exact ⟨y, by omega, b⟩
      · exact ⟨n, by omega, h1, h0⟩
  rcases Nat.lt_or_ge o 146096 with hlt | hge
  · obtain ⟨y, hy, h1, h2⟩ := hex 400 (Nat.le_refl _) (by rw [last_ok.2.2]; exact hlt)
    obtain ⟨g1, g2, g3⟩ := hall y hy
    have m1 := gq_le h1 h
    have m2 := gq_le (show o ≤ st (y + 1) - 1 by omega) (by have := hst (y + 1) (by omega); omega)
    have e : gq o / 365 = y := by omega
    rw [e]
    exact ⟨by omega, h1, fun _ => h2⟩
  · obtain rfl : o = 146096 := by omega
    have e : gq 146096 / 365 = 399 := by have := last_ok; omega
    rw [e]
    exact ⟨by omega, by decide, fun h => absurd h (by omega)⟩
end Go.Proofs.YtfmfikodnpnblaaDoor.Civil
/- Days, dates and their seconds, plainly: a day of each date, a date of each day, in their order. No program here. -/
namespace Go.Proofs.YtfmfikodnpnblaaDoor.Cal
open Go.Proofs.YtfmfikodnpnblaaDoor.Civil

def leap (y : Int) : Prop := y % 4 = 0 ∧ (y % 100 ≠ 0 ∨ y % 400 = 0)
instance (y : Int) : Decidable (leap y) := by unfold leap; infer_instance
/-- how many days lie between 1970-01-01 and a date. -/
def dayNum (y m d : Int) : Int :=
  (if m ≤ 2 then y - 1 else y) / 400 * 146097 + (if m ≤ 2 then y - 1 else y) % 400 * 365 + (if m ≤ 2 then y - 1 else y) % 400 / 4 - (if m ≤ 2 then y - 1 else y) % 400 / 100
    + ((153 * ((m + 9) % 12) + 2) / 5 + d - 1) - 719468
/-- how many days a month has. -/
def mlen (y m : Int) : Int :=
  if m = 2 then (if leap y then 29 else 28) else if m = 4 ∨ m = 6 ∨ m = 9 ∨ m = 11 then 30 else 31

theorem months {m : Int} (h0 : 1 ≤ m) (h1 : m ≤ 12) : m = 1 ∨ m = 2 ∨ m = 3 ∨ m = 4 ∨ m = 5 ∨ m = 6 ∨ m = 7 ∨ m = 8 ∨ m = 9 ∨ m = 10 ∨ m = 11 ∨ m = 12 := by omega
theorem era_400 (y m d : Int) : dayNum (y + 400) m d - dayNum y m d = 146097 := by
  unfold dayNum
  generalize (153 * ((m + 9) % 12) + 2) / 5 = q
  split <;> omega
theorem year_len (y : Int) : dayNum (y + 1) 1 1 - dayNum y 1 1 = if leap y then 366 else 365 := by
  unfold dayNum
  simp only [show (1 : Int) ≤ 2 by decide, if_true]
  by_cases h : leap y
  · rw [if_pos h]; unfold leap at h; omega
  · rw [if_neg h]; unfold leap at h; omega
theorem month_len (y m : Int) (h0 : 1 ≤ m) (h1 : m ≤ 12) : (if m < 12 then dayNum y (m + 1) 1 else dayNum (y + 1) 1 1) - dayNum y m 1 = mlen y m := by
  unfold dayNum mlen
  rcases months h0 h1 with rfl | rfl | rfl | rfl | rfl | rfl | rfl | rfl | rfl | rfl | rfl | rfl
  all_goals simp only [Int.reduceLT, Int.reduceLE, Int.reduceAdd, Int.reduceMul, Int.reduceDiv, Int.reduceMod, Int.reduceEq, if_true, if_false, or_true, or_false, true_or, false_or, or_self]
  all_goals first | omega | skip
  by_cases h : leap y
  · rw [if_pos h]; unfold leap at h; omega
  · rw [if_neg h]; unfold leap at h; omega
theorem day_step (y m a b : Int) : dayNum y m a - dayNum y m b = a - b := by
  unfold dayNum
  omega

/-! ### the date of a day -/
def era (n : Int) : Int := (n + 719468) / 146097
def oday (n : Int) : Nat := ((n + 719468) % 146097).toNat
def yoe (n : Int) : Nat := gq (oday n) / 365
def doy (n : Int) : Nat := oday n - st (yoe n)
def mon (n : Int) : Nat := (5 * doy n + 2) / 153
def dayOf (n : Int) : Nat := doy n - (153 * mon n + 2) / 5 + 1
def yearOf (n : Int) : Int := yoe n + era n * 400 + if 10 ≤ mon n then 1 else 0
def monthOf (n : Int) : Int := if 10 ≤ mon n then (mon n : Int) - 9 else mon n + 3

theorem day_facts (n : Int) : (oday n : Int) = (n + 719468) % 146097 ∧ oday n ≤ 146096 ∧ yoe n ≤ 399 ∧ st (yoe n) ≤ oday n ∧ (yoe n < 399 → oday n < st (yoe n + 1)) := by
  have h : oday n ≤ 146096 := by unfold oday; omega
  have hy := year_of (oday n) h
  exact ⟨by unfold oday; omega, h, hy⟩
theorem doy_le (n : Int) : doy n ≤ 365 := by
  obtain ⟨_, h1, h2, h3, h4⟩ := day_facts n
  unfold doy
  generalize yoe n = y at *
  generalize oday n = o at *
  unfold st at *
  by_cases hy : y < 399
  · have := h4 hy; omega
  · obtain rfl : y = 399 := by omega
    omega
theorem mon_le (n : Int) : mon n ≤ 11 := by have := doy_le n; unfold mon; omega
theorem month_range (n : Int) : 1 ≤ monthOf n ∧ monthOf n ≤ 12 := by have := mon_le n; unfold monthOf; split <;> omega
theorem day_pos (n : Int) : 1 ≤ dayOf n := by unfold dayOf; omega
theorem mon_doy (n : Int) : (153 * mon n + 2) / 5 ≤ doy n ∧ doy n < (153 * (mon n + 1) + 2) / 5 := by
  unfold mon
  generalize doy n = i
  omega
theorem day_le (n : Int) : dayOf n ≤ 31 := by
  have h := mon_doy n
  have h2 := mon_le n
  unfold dayOf
  omega
theorem dayNum_date (n : Int) : dayNum (yearOf n) (monthOf n) (dayOf n) = n := by
  obtain ⟨h0, h1, h2, h3, h4⟩ := day_facts n
  have hm := mon_le n
  have hd := mon_doy n
  have hdo : (dayOf n : Int) = (doy n : Int) - (153 * (mon n : Int) + 2) / 5 + 1 := by unfold dayOf; omega
  have ho : (oday n : Int) = (st (yoe n) : Int) + doy n := by unfold doy; omega
  have hst : (st (yoe n) : Int) = 365 * (yoe n : Int) + (yoe n : Int) / 4 - (yoe n : Int) / 100 := by unfold st; omega
  have he : n + 719468 = era n * 146097 + oday n := by rw [h0]; unfold era; omega
  unfold dayNum yearOf monthOf
  by_cases hc : 10 ≤ mon n
  · simp only [if_pos hc]
    rw [if_pos (by omega)]
    rw [show (yoe n : Int) + era n * 400 + 1 - 1 = yoe n + era n * 400 by omega]
    have e1 : ((yoe n : Int) + era n * 400) / 400 = era n := by omega
    have e2 : ((yoe n : Int) + era n * 400) % 400 = yoe n := by omega
    rw [e1, e2, show ((mon n : Int) - 9 + 9) % 12 = mon n by omega, hdo]
    omega
  · simp only [if_neg hc]
    rw [if_neg (by omega)]
    have e1 : ((yoe n : Int) + era n * 400 + 0) / 400 = era n := by omega
    have e2 : ((yoe n : Int) + era n * 400 + 0) % 400 = yoe n := by omega
    rw [e1, e2, show ((mon n : Int) + 3 + 9) % 12 = mon n by omega, hdo]
    omega

/-! ### its order -/
/-- a number that rises with the date. -/
def code (n : Int) : Int := yearOf n * 512 + monthOf n * 32 + dayOf n
theorem code_lt {a b : Int} (h : a < b) : code a < code b := by
  obtain ⟨a0, a1, a2, a3, a4⟩ := day_facts a
  obtain ⟨b0, b1, b2, b3, b4⟩ := day_facts b
  have am := mon_le a
  have bm := mon_le b
  have ad := mon_doy a
  have bd := mon_doy b
  have ea : a + 719468 = era a * 146097 + oday a := by rw [a0]; unfold era; omega
  have eb : b + 719468 = era b * 146097 + oday b := by rw [b0]; unfold era; omega
  have la := day_le a
  have lb := day_le b
  have pa := day_pos a
  have pb := day_pos b
  -- the year, the day in it
  have h1 : (yoe a : Int) + era a * 400 < yoe b + era b * 400 ∨ ((yoe a : Int) + era a * 400 = yoe b + era b * 400 ∧ doy a < doy b) := by
    rcases Int.lt_or_le (era a) (era b) with hl | hl
    · left; omega
    · have he : era a = era b := by omega
      have ho : oday a < oday b := by rw [he] at ea; omega
      have hy : yoe a ≤ yoe b := by
        unfold yoe
        exact Nat.div_le_div_right (gq_le (by omega) b1)
      rcases Nat.lt_or_ge (yoe a) (yoe b) with hl2 | hl2
      · left; omega
      · right
        have hye : yoe a = yoe b := by omega
        refine ⟨by rw [he, hye], ?_⟩
        unfold doy
        rw [hye] at a3 ⊢
        omega
  have h2 : ((yoe a : Int) + era a * 400) * 12 + mon a < ((yoe b : Int) + era b * 400) * 12 + mon b ∨ (((yoe a : Int) + era a * 400) * 12 + mon a = ((yoe b : Int) + era b * 400) * 12 + mon b ∧ dayOf a < dayOf b) := by
    rcases h1 with h | ⟨h, h'⟩
    · left; omega
    · have hm : mon a ≤ mon b := by unfold mon; omega
      rcases Nat.lt_or_ge (mon a) (mon b) with hl | hl
      · left; omega
      · right
        have hme : mon a = mon b := by omega
        refine ⟨by omega, ?_⟩
        unfold dayOf
        rw [hme] at ad ⊢
        omega
  unfold code yearOf monthOf
  generalize (yoe a : Int) + era a * 400 = A at *
  generalize (yoe b : Int) + era b * 400 = B at *
  generalize dayOf a = x at *
  generalize dayOf b = z at *
  generalize mon a = p at *
  generalize mon b = q at *
  by_cases ha : 10 ≤ p <;> by_cases hb : 10 ≤ q <;> simp only [ha, hb, if_true, if_false] <;> omega
theorem code_le {a b : Int} (h : a ≤ b) : code a ≤ code b := by
  rcases Int.lt_or_le a b with h1 | h1
  · exact Int.le_of_lt (code_lt h1)
  · rw [show a = b by omega]; exact Int.le_refl _

/-! ### there and back -/
theorem st_mono {a b : Nat} (h : a ≤ b) : st a ≤ st b := by
  induction h with
  | refl => exact Nat.le_refl _
  | step _ ih => exact Nat.le_trans ih (by unfold st; omega)
theorem yoe_is (n : Int) (y : Nat) (hy : y ≤ 399) (h1 : st y ≤ oday n) (h2 : y < 399 → oday n < st (y + 1)) : yoe n = y := by
  obtain ⟨a0, a1, a2, a3, a4⟩ := day_facts n
  rcases Nat.lt_trichotomy (yoe n) y with h | h | h
  · have := a4 (by omega)
    have := st_mono (show yoe n + 1 ≤ y by omega)
    omega
  · exact h
  · have := h2 (by omega)
    have := st_mono (show y + 1 ≤ yoe n by omega)
    omega
theorem date_dayNum (y m d : Int) (h0 : 1 ≤ m) (h1 : m ≤ 12) (h2 : 1 ≤ d) (h3 : d ≤ mlen y m) : yearOf (dayNum y m d) = y ∧ monthOf (dayNum y m d) = m ∧ (dayOf (dayNum y m d) : Int) = d := by
  -- the year from March on
  obtain ⟨Y, hY⟩ : ∃ Y, (if m ≤ 2 then y - 1 else y) = Y := ⟨_, rfl⟩
  obtain ⟨k, hk⟩ : ∃ k : Nat, (m + 9) % 12 = k := ⟨((m + 9) % 12).toNat, by omega⟩
  obtain ⟨i, hi⟩ : ∃ i : Nat, (153 * (k : Int) + 2) / 5 + d - 1 = i := ⟨((153 * (k : Int) + 2) / 5 + d - 1).toNat, by omega⟩
  obtain ⟨c, hc⟩ : ∃ c : Nat, Y % 400 = c := ⟨(Y % 400).toNat, by omega⟩
  have hk11 : k ≤ 11 := by omega
  have hc399 : c ≤ 399 := by omega
  have hlen : i < (153 * (k + 1) + 2) / 5 ∧ (k = 11 → i ≤ 365 ∧ (i = 365 → (c + 1) % 4 = 0 ∧ ((c + 1) % 100 ≠ 0 ∨ c = 399))) := by
    unfold mlen at h3
    rcases months h0 h1 with rfl | rfl | rfl | rfl | rfl | rfl | rfl | rfl | rfl | rfl | rfl | rfl <;>
      simp only [Int.reduceLT, Int.reduceLE, Int.reduceAdd, Int.reduceMul, Int.reduceDiv, Int.reduceMod, Int.reduceEq, if_true, if_false, or_true, or_false, true_or, false_or, or_self] at h3 hY hk <;>
      first | omega | skip
    by_cases h : leap y
    · rw [if_pos h] at h3; unfold leap at h; omega
    · rw [if_neg h] at h3; unfold leap at h; omega
  have hst : (st c : Int) = 365 * (c : Int) + (c : Int) / 4 - (c : Int) / 100 := by unfold st; omega
  have hst1 : (st (c + 1) : Int) = 365 * ((c : Int) + 1) + ((c : Int) + 1) / 4 - ((c : Int) + 1) / 100 := by unfold st; omega
  have hn : dayNum y m d + 719468 = Y / 400 * 146097 + (st c + i) := by
    unfold dayNum
    rw [hY, hk, hc, hst]
    omega
  have hsmall : st c + i ≤ 146096 ∧ (c < 399 → st c + i < st (c + 1)) := by
    unfold st at hst hst1 ⊢
    omega
  generalize hN : dayNum y m d = n at hn
  have ho : oday n = st c + i := by unfold oday; rw [hn]; omega
  have he : era n = Y / 400 := by unfold era; rw [hn]; omega
  have hyo : yoe n = c := yoe_is n c hc399 (by omega) (fun h => by have := hsmall.2 h; omega)
  have hdo : doy n = i := by unfold doy; rw [ho, hyo]; omega
  have hmo : mon n = k := by
    unfold mon
    rw [hdo]
    have h5 : (153 * k + 2) / 5 ≤ i := by omega
    have h6 := hlen.1
    omega
  have hda : (dayOf n : Int) = d := by unfold dayOf; rw [hdo, hmo]; omega
  refine ⟨?_, ?_, hda⟩
  · unfold yearOf
    rw [hyo, he, hmo]
    clear hlen hi hdo hmo hda hsmall hN hn
    rcases months h0 h1 with h | h | h | h | h | h | h | h | h | h | h | h <;> subst h <;> simp only [Int.reduceLE, if_true, if_false] at hY <;> split <;> omega
  · unfold monthOf
    rw [hmo]
    clear hlen hi hdo hmo hda hsmall hN hn
    rcases months h0 h1 with h | h | h | h | h | h | h | h | h | h | h | h <;> split <;> omega
end Go.Proofs.YtfmfikodnpnblaaDoor.Cal
/- Times as doubles, plainly: cut down to parts of 512, to seconds. No program here. -/
namespace Go.Proofs.YtfmfikodnpnblaaDoor.FltClk
open Ieee Go.Proofs.YtfmfikodnpnblaaDoor.Flt

/-- the parts of 512 as units. -/
def V : Int := (p2 1065 : Nat)
theorem V_pos : 0 < V := by unfold V; have := p2_pos 1065; omega
theorem U_V : U = V * 512 := by
  unfold U V
  rw [show (1074 : Nat) = 1065 + 9 by rfl, p2_add, show p2 9 = 512 by rw [← p2_is], Int.natCast_mul]
  rfl
theorem U_small : 8589934592 * U.natAbs < p2 1200 := by
  unfold U
  rw [Int.natAbs_natCast, show (8589934592 : Nat) = p2 33 by rw [← p2_is], ← p2_add]
  exact p2_lt (by omega)
theorem abs_small {a : Int} (h : -(8589934592 * U) ≤ a) (h' : a ≤ 8589934592 * U) : a.natAbs < p2 1200 := by
  have := U_small
  have := U_pos
  omega
theorem small_2150 {n : Nat} (h : n < p2 1200) : n < p2 2150 := Nat.lt_trans h (p2_lt (by omega))
/-- a whole number's units. -/
theorem int_small {n : Int} (h : n.natAbs < 9007199254740992) : (n * U).natAbs < p2 2150 := by
  rw [Int.natAbs_mul]
  unfold U
  rw [Int.natAbs_natCast]
  rw [← p2_53] at h
  have h1 : n.natAbs * p2 1074 < p2 53 * p2 1074 := Nat.mul_lt_mul_of_pos_right h (p2_pos _)
  rw [← p2_add] at h1
  exact Nat.lt_trans h1 (p2_lt (by omega))
theorem div512_of {x : Nat} {n : Int} (h : key x = some (n * U)) (hn : n.natAbs < 9007199254740992) : ∃ q, floatBits .quo .f64 x w512 = some q ∧ key q = some (n * V) :=
  key_div512 (q := n.natAbs) (e := 1065) h (int_small hn) (by rw [U_V, Int.mul_assoc]) (by unfold V; rw [Int.natAbs_mul, Int.natAbs_natCast]) (by rw [p2_53]; exact hn) (by omega)
theorem ediv_bound {a : Int} (h : -(8589934592 * U) ≤ a) (h' : a ≤ 8589934592 * U) : -4398046511104 ≤ a * 512 / U ∧ a * 512 / U ≤ 4398046511104 := by
  have hU := U_pos
  constructor
  · apply (Int.le_ediv_iff_mul_le hU).2; omega
  · apply Int.ediv_le_of_le_mul hU; omega
/-- cut down to parts of 512, as the program does it. -/
theorem fine_key {x : Nat} {a : Int} (hx : key x = some a) (h : -(8589934592 * U) ≤ a) (h' : a ≤ 8589934592 * U) :
    ∃ m, floatBits .mul .f64 x w512 = some m ∧ key m = some (a * 512) ∧ ∃ q, floatBits .quo .f64 (floorBits m) w512 = some q ∧ key q = some (a * 512 / U * V) := by
  obtain ⟨m, hm, hk⟩ := key_mul512 hx (abs_small h h')
  obtain ⟨h0, h1⟩ := ediv_bound h h'
  have hb : (a * 512).natAbs < p2 2150 := by
    have h2 := abs_small h h'
    have h3 : a.natAbs * 512 < p2 1200 * p2 9 := by rw [show p2 9 = 512 by rw [← p2_is]]; omega
    rw [← p2_add] at h3
    rw [Int.natAbs_mul]
    exact Nat.lt_trans h3 (p2_lt (by omega))
  have hf := key_floor hk hb
  obtain ⟨q, hq, hqk⟩ := div512_of hf (by omega)
  exact ⟨m, hm, hk, q, hq, hqk⟩
/-- a whole number, as the document takes it: cut towards nought, one less where that is too much. -/
theorem tdiv_facts (a : Int) {c : Int} (hc : 0 < c) : (c * 0 ≤ a → a.tdiv c = a / c) ∧ (a / c = a.tdiv c ∨ a / c = a.tdiv c - 1) ∧ (a < a.tdiv c * c ↔ a / c = a.tdiv c - 1) := by
  have h1 := Int.mul_tdiv_add_tmod a c
  have h2 := Int.mul_ediv_add_emod a c
  have h3 := Int.emod_nonneg a (show c ≠ 0 by omega)
  have h4 := Int.emod_lt_of_pos a hc
  rcases Int.lt_or_le a 0 with ha | ha
  · have hle : -c < a.tmod c ∧ a.tmod c ≤ 0 := by
      have e : a.tmod c = -((-a).tmod c) := by rw [← Int.neg_tmod, Int.neg_neg]
      have g1 := Int.tmod_nonneg c (show 0 ≤ -a by omega)
      have g2 := Int.tmod_lt_of_pos (-a) hc
      omega
    generalize a.tdiv c = q at *
    generalize a / c = r at *
    generalize a.tmod c = s at *
    generalize a % c = t at *
    have hd : c * (q - r) = t - s := by rw [Int.mul_sub]; omega
    have hqr : r = q ∨ r = q - 1 := by
      have g1 : c * (q - r) < c * 2 := by omega
      have g2 : c * (-1) < c * (q - r) := by omega
      have g3 := Int.lt_of_mul_lt_mul_left g1 (by omega)
      have g4 := Int.lt_of_mul_lt_mul_left g2 (by omega)
      omega
    refine ⟨fun h => by omega, hqr, ?_⟩
    rw [Int.mul_comm q c]
    constructor
    · intro h
      rcases hqr with e | e
      · subst e; omega
      · exact e
    · intro h
      subst h
      have : c * (q - 1) = c * q - c := by rw [Int.mul_sub, Int.mul_one]
      omega
  · have e := Int.tdiv_eq_ediv_of_nonneg (b := c) ha
    refine ⟨fun _ => e, .inl e.symm, ?_⟩
    rw [e]
    constructor
    · intro h
      rw [Int.mul_comm] at h
      omega
    · intro h; omega
theorem whole_key {x : Nat} {a : Int} (hx : key x = some a) (hb : a.natAbs < p2 1250) (h0 : -9007199254740991 ≤ a / U) (h1 : a / U ≤ 9007199254740990) :
    ∃ n, floatToIntVal .f64 x .i64 = some n ∧ key (floatOfInt .f64 n) = some (n * U) ∧ n.natAbs < 9007199254740992 ∧ ((n * U > a ∧ a / U = n - 1) ∨ (n * U ≤ a ∧ a / U = n)) := by
  obtain ⟨f1, f2, f3⟩ := tdiv_facts a U_pos
  have hn : (a.tdiv U).natAbs < 9007199254740992 := by omega
  refine ⟨a.tdiv U, int_key hx (Nat.lt_trans hb (p2_lt (by omega))) (by omega) (by omega), key_ofInt _ hn, hn, ?_⟩
  by_cases h : a < a.tdiv U * U
  · exact .inl ⟨h, f3.1 h⟩
  · refine .inr ⟨by omega, ?_⟩
    rcases f2 with e | e
    · exact e
    · exact absurd (f3.2 e) h
/-! ### what they come to -/
def partsOf (a : Int) : Int := if a < -(8589934592 * U) then -4398046511104 else if 8589934592 * U < a then 4398046511104 else a * 512 / U
theorem partsOf_bound (a : Int) : -4398046511104 ≤ partsOf a ∧ partsOf a ≤ 4398046511104 := by
  unfold partsOf
  split
  · omega
  · split
    · omega
    · exact ediv_bound (by omega) (by omega)
theorem partsOf_mono {a b : Int} (h : a ≤ b) : partsOf a ≤ partsOf b := by
  have hU := U_pos
  unfold partsOf
  by_cases h1 : a < -(8589934592 * U)
  · rw [if_pos h1]
    exact (partsOf_bound b).1
  · rw [if_neg h1, if_neg (show ¬ b < _ by omega)]
    by_cases h2 : 8589934592 * U < b
    · rw [if_pos h2]
      have := (partsOf_bound a).2
      unfold partsOf at this
      rw [if_neg h1] at this
      exact this
    · rw [if_neg h2, if_neg (by omega)]
      exact Int.ediv_le_ediv hU (by omega)
/-- a time between two seconds, cut down to a second. -/
def clampTo (lo hi top : Int) (a : Int) : Int := if a < lo * U then lo else if hi * U ≤ a then top else a / U
theorem clamp_bound {lo hi top a : Int} (h0 : lo ≤ top) (h1 : hi - 1 ≤ top) : lo ≤ clampTo lo hi top a ∧ clampTo lo hi top a ≤ top := by
  have hU := U_pos
  unfold clampTo
  split
  · omega
  · split
    · omega
    · have h2 : lo ≤ a / U := (Int.le_ediv_iff_mul_le hU).2 (by omega)
      have h3 : a / U < hi := (Int.ediv_lt_iff_lt_mul hU).2 (by omega)
      omega
theorem clamp_mono {lo hi top a b : Int} (h0 : lo ≤ top) (h1 : hi - 1 ≤ top) (h : a ≤ b) : clampTo lo hi top a ≤ clampTo lo hi top b := by
  have hU := U_pos
  have ha := clamp_bound (a := a) h0 h1
  have hb := clamp_bound (a := b) h0 h1
  by_cases h2 : a < lo * U
  · have e : clampTo lo hi top a = lo := if_pos h2
    omega
  · by_cases h3 : hi * U ≤ b
    · have e : clampTo lo hi top b = top := by unfold clampTo; rw [if_neg (by omega), if_pos h3]
      omega
    · unfold clampTo
      rw [if_neg h2, if_neg (by omega), if_neg (by omega), if_neg h3]
      exact Int.ediv_le_ediv hU h
end Go.Proofs.YtfmfikodnpnblaaDoor.FltClk
/- Sums and differences of doubles that are exact. No program here. -/
namespace Go.Proofs.YtfmfikodnpnblaaDoor.FltAdd
open Ieee Go.Proofs.YtfmfikodnpnblaaDoor.Flt Go.Proofs.YtfmfikodnpnblaaDoor.FltClk

theorem sum_key (s t : Bool) (m n : Nat) (i j : Int) (hi : -1074 ≤ i) (hj : -1074 ≤ j) (c : Int) (q e : Nat) (hc : c = units s m i + units t n j) (hq : c.natAbs = q * p2 e) (hq1 : q < p2 53) (he : e ≤ 2045) :
    ∃ d, Datum.sum (.number s m i) (.number t n j) = some d ∧ keyD (double.read (double.write d)) = some c := by
  refine ⟨_, rfl, ?_⟩
  show keyD (double.read (double.nearest _ _ _)) = _
  have p0 : p2 0 = 1 := by rw [← p2_is]
  obtain ⟨b, hb⟩ : ∃ b, min i j = b := ⟨_, rfl⟩
  have hb0 : -1074 ≤ b := by omega
  rw [hb]
  rw [units_base s m hb0 (show b ≤ i by omega), units_base t n hb0 (show b ≤ j by omega), ← Int.add_mul] at hc
  generalize signed s m (i - b).toNat + signed t n (j - b).toNat = T at *
  have hP : (0 : Int) < (p2 (b + 1074).toNat : Nat) := by have := p2_pos (b + 1074).toNat; omega
  have hmag : T.natAbs * p2 (b + 1074).toNat = c.natAbs * p2 0 := by
    rw [hc, Int.natAbs_mul, Int.natAbs_natCast, p0, Nat.mul_one]
  rw [nearest_key _ T.natAbs b c.natAbs (b + 1074).toNat 0 q e (by omega) hmag hq hq1 he]
  congr 1
  rcases Int.lt_trichotomy T 0 with h | h | h
  · have hcn : c < 0 := by rw [hc]; exact Int.mul_neg_of_neg_of_pos h hP
    rw [if_neg (show ¬ T = 0 by omega), if_pos (by simpa using h)]
    omega
  · have hc0 : c = 0 := by rw [hc, h, Int.zero_mul]
    rw [hc0]
    split <;> simp
  · have hcp : 0 < c := by rw [hc]; exact Int.mul_pos h hP
    rw [if_neg (show ¬ T = 0 by omega), if_neg (by simp; omega)]
    omega
theorem key_add {x y : Nat} {a b : Int} {q e : Nat} (hx : key x = some a) (hy : key y = some b) (ha : a.natAbs < p2 2150) (hb : b.natAbs < p2 2150) (hq : (a + b).natAbs = q * p2 e) (hq1 : q < p2 53) (he : e ≤ 2045) :
    ∃ r, floatBits .add .f64 x y = some r ∧ key r = some (a + b) := by
  obtain ⟨s, m, i, ex, h0, h1, h2, h3, hxa⟩ := key_number hx ha
  obtain ⟨t, n, j, ey, g0, g1, g2, g3, hyb⟩ := key_number hy hb
  obtain ⟨d, hd, hk⟩ := sum_key s t m n i j h0 g0 (a + b) q e (by rw [hxa, hyb]) hq hq1 he
  refine ⟨double.write d, ?_, hk⟩
  show Format.add double x y = _
  unfold Format.add
  rw [ex, ey, hd]
  rfl
theorem units_neg (s : Bool) (m : Nat) (i : Int) : units (!s) m i = - units s m i := by
  unfold units
  cases s <;> simp
theorem key_sub {x y : Nat} {a b : Int} {q e : Nat} (hx : key x = some a) (hy : key y = some b) (ha : a.natAbs < p2 2150) (hb : b.natAbs < p2 2150) (hq : (a - b).natAbs = q * p2 e) (hq1 : q < p2 53) (he : e ≤ 2045) :
    ∃ r, floatBits .sub .f64 x y = some r ∧ key r = some (a - b) := by
  obtain ⟨s, m, i, ex, h0, h1, h2, h3, hxa⟩ := key_number hx ha
  obtain ⟨t, n, j, ey, g0, g1, g2, g3, hyb⟩ := key_number hy hb
  obtain ⟨d, hd, hk⟩ := sum_key s (!t) m n i j h0 g0 (a - b) q e (by rw [units_neg, hxa, hyb]; rfl) hq hq1 he
  refine ⟨double.write d, ?_, hk⟩
  show Format.sub double x y = _
  unfold Format.sub
  rw [ex, ey]
  show Option.map double.write (Datum.sum (.number s m i) (.number (!t) n j)) = _
  rw [hd]
  rfl
/-- whole parts of 512. -/
theorem p_abs (n : Int) : (n * V).natAbs = n.natAbs * p2 1065 := by unfold V; rw [Int.natAbs_mul, Int.natAbs_natCast]
theorem p_small {n : Int} (h : n.natAbs < 9007199254740992) : (n * V).natAbs < p2 2150 := by
  rw [p_abs]
  rw [← p2_53] at h
  have h1 : n.natAbs * p2 1065 < p2 53 * p2 1065 := Nat.mul_lt_mul_of_pos_right h (p2_pos _)
  rw [← p2_add] at h1
  exact Nat.lt_trans h1 (p2_lt (by omega))
theorem add_parts {x y : Nat} {n m : Int} (hx : key x = some (n * V)) (hy : key y = some (m * V)) (hn : n.natAbs < 4503599627370496) (hm : m.natAbs < 4503599627370496) :
    ∃ r, floatBits .add .f64 x y = some r ∧ key r = some ((n + m) * V) := by
  obtain ⟨r, h1, h2⟩ := key_add hx hy (p_small (by omega)) (p_small (by omega)) (q := (n + m).natAbs) (e := 1065) (by rw [← Int.add_mul, p_abs]) (by rw [p2_53]; omega) (by omega)
  exact ⟨r, h1, by rw [h2, ← Int.add_mul]⟩
theorem sub_parts {x y : Nat} {n m : Int} (hx : key x = some (n * V)) (hy : key y = some (m * V)) (hn : n.natAbs < 4503599627370496) (hm : m.natAbs < 4503599627370496) :
    ∃ r, floatBits .sub .f64 x y = some r ∧ key r = some ((n - m) * V) := by
  obtain ⟨r, h1, h2⟩ := key_sub hx hy (p_small (by omega)) (p_small (by omega)) (q := (n - m).natAbs) (e := 1065) (by rw [← Int.sub_mul, p_abs]) (by rw [p2_53]; omega) (by omega)
  exact ⟨r, h1, by rw [h2, ← Int.sub_mul]⟩
end Go.Proofs.YtfmfikodnpnblaaDoor.FltAdd
/- Decimal numerals and parts of 512, plainly: the digits behind the point. No program here. -/
namespace Go.Proofs.YtfmfikodnpnblaaDoor.Txt
open Go.Lib
def nine (n : Nat) : List UInt8 := (List.range 9).map fun t => UInt8.ofNat (48 + n / 10 ^ (8 - t) % 10)
def tail : Nat → Nat → List UInt8
  | 0, _ => []
  | k + 1, r => if r = 0 then [] else UInt8.ofNat (48 + r * 10 / 512) :: tail k (r * 10 % 512)
theorem all : (List.range 512).all (fun r => trimRightB (nine (r * 1953125)) 48 == tail 9 r) = true := by decide +kernel
theorem nine_is (n : Nat) (h : n < 1000000000) : (decDigits (1000000000 + n)).drop 1 = nine n := by
  have h10 : nDigits (1000000000 + n) = 10 := nDigits_unique 9 _ (by omega) (by omega)
  rw [decDigits_eq, h10]
  unfold nine
  rw [show List.range 10 = 0 :: (List.range 9).map Nat.succ by rfl, List.map_cons, List.drop_one, List.tail_cons, List.map_map]
  refine List.map_congr_left fun t ht => ?_
  have ht := List.mem_range.1 ht
  simp only [Function.comp, dg, Nat.succ_eq_add_one]
  congr 2
  rw [show 10 - 1 - (t + 1) = 8 - t by omega]
  generalize hk : 8 - t = k
  have hk8 : k ≤ 8 := by omega
  obtain ⟨c, hc⟩ : ∃ c, 1000000000 = 10 ^ k * (c * 10) := ⟨10 ^ (8 - k), by rw [← Nat.pow_succ, ← Nat.pow_add, show k + (8 - k + 1) = 9 by omega]⟩
  rw [hc, Nat.mul_add_div (Nat.pow_pos (by decide))]
  omega
end Go.Proofs.YtfmfikodnpnblaaDoor.Txt
/- Pax records, plainly: decimal numbers, a record at a text's front, on lists of bytes. No program here. -/
namespace Go.Proofs.YtfmfikodnpnblaaDoor.PaxSem
open Go.RowKit Go.Proofs Go.Proofs.YtfmfikodnpnblaaDoorW.PrintWords Go.Proofs.YtfmfikodnpnblaaDoor.Base

/-! ### decimal digits -/
def isD (c : UInt8) : Bool := decide (48 ≤ c.toNat) && decide (c.toNat ≤ 57)
def dval (l : List UInt8) : Nat := l.foldl (fun v c => v * 10 + (c.toNat - 48)) 0
/-- what Decimal answers. -/
def decS (l : List UInt8) : Int × Int := if l = [] ∨ l.all isD = false then (0, 2) else if dval l > 4611686018427387904 then (0, 7) else ((dval l : Int), 0)

theorem isD_iff (c : UInt8) : isD c = true ↔ 48 ≤ c.toNat ∧ c.toNat ≤ 57 := by simp [isD]
theorem dval_snoc (l : List UInt8) (c : UInt8) : dval (l ++ [c]) = dval l * 10 + (c.toNat - 48) := by simp [dval]
theorem dval_app_le (p : List UInt8) : ∀ r : List UInt8, dval p ≤ dval (p ++ r)
  | [] => by simp
  | c :: r => by
    have h1 := dval_snoc p c
    have h2 := dval_app_le (p ++ [c]) r
    rw [List.append_assoc, List.singleton_append] at h2
    omega

/-! ### the numeral of a number -/
theorem dg_toNat (n : Nat) (h : n < 10) : (UInt8.ofNat (48 + n)).toNat = 48 + n := by
  rw [UInt8.toNat_ofNat']
  exact Nat.mod_eq_of_lt (by omega)
theorem decDigits_dval (u : Nat) : dval (Lib.decDigits u) = u := by
  induction u using Nat.strongRecOn with
  | _ u ih =>
    rw [Lib.decDigits]
    split
    · rename_i h
      simp only [dval, List.foldl_cons, List.foldl_nil, dg_toNat u h]
      omega
    · rename_i h
      rw [dval_snoc, ih (u / 10) (by omega), dg_toNat (u % 10) (by omega)]
      omega
theorem decDigits_all (u : Nat) : (Lib.decDigits u).all isD = true := by
  induction u using Nat.strongRecOn with
  | _ u ih =>
    rw [Lib.decDigits]
    split
    · rename_i h
      simp only [List.all_cons, List.all_nil, Bool.and_true]
      rw [isD_iff, dg_toNat u h]
      omega
    · rename_i h
      rw [List.all_append, ih (u / 10) (by omega), Bool.true_and]
      simp only [List.all_cons, List.all_nil, Bool.and_true]
      rw [isD_iff, dg_toNat (u % 10) (by omega)]
      omega
theorem decDigits_ne (u : Nat) : Lib.decDigits u ≠ [] := by
  intro h
  have h1 := Lib.decDigits_length u
  rw [h, List.length_nil] at h1
  have h2 := Lib.nDigits_pos u
  omega
theorem head_app {p q : List UInt8} (h : p ≠ []) : (p ++ q).head? = p.head? := by
  cases p with
  | nil => exact absurd rfl h
  | cons a p => rfl
theorem decDigits_head (u : Nat) (h : 0 < u) : (Lib.decDigits u).head? ≠ some 48 := by
  induction u using Nat.strongRecOn with
  | _ u ih =>
    rw [Lib.decDigits]
    split
    · rename_i h'
      simp only [List.head?_cons, ne_eq, Option.some.injEq]
      intro e
      have := congrArg UInt8.toNat e
      rw [dg_toNat u h'] at this
      have h48 : (48 : UInt8).toNat = 48 := rfl
      omega
    · rename_i h'
      rw [head_app (decDigits_ne _)]
      exact ih (u / 10) (by omega) (by omega)
/-- digits without a nought ahead are the numeral of their value. -/
theorem digits_go : ∀ (n : Nat) (l : List UInt8), l.length = n → l.all isD = true → l.head? ≠ some 48 → l ≠ [] → l = Lib.decDigits (dval l) := by
  intro n
  induction n with
  | zero =>
    intro l hl hd hh hne
    exact absurd (List.length_eq_zero_iff.1 hl) hne
  | succ n ih =>
    intro l hl hd hh hne
    obtain ⟨p, c, rfl⟩ : ∃ p c, l = p ++ [c] := ⟨l.dropLast, l.getLast hne, (List.dropLast_concat_getLast hne).symm⟩
    rw [List.all_append, Bool.and_eq_true] at hd
    have hc : isD c = true := by simpa using hd.2
    rw [isD_iff] at hc
    have hcn : UInt8.ofNat (48 + (c.toNat - 48)) = c := by
      rw [show 48 + (c.toNat - 48) = c.toNat by omega]
      exact UInt8.ofNat_toNat
    rw [dval_snoc]
    by_cases hp : p = []
    · subst hp
      have e0 : dval ([] : List UInt8) = 0 := rfl
      have hlt : (0 * 10 + (c.toNat - 48)) < 10 := by omega
      rw [e0, Lib.decDigits, dif_pos hlt, Nat.zero_mul, Nat.zero_add, hcn]
      rfl
    · rw [head_app hp] at hh
      have hi := ih p (by simpa using hl) hd.1 hh hp
      have hpos : 0 < dval p := by
        rcases Nat.eq_zero_or_pos (dval p) with h0 | h0
        · exfalso
          rw [h0, Lib.decDigits_one (by omega)] at hi
          rw [hi] at hh
          exact hh rfl
        · exact h0
      rw [Lib.decDigits, dif_neg (by omega), show (dval p * 10 + (c.toNat - 48)) / 10 = dval p by omega, show (dval p * 10 + (c.toNat - 48)) % 10 = c.toNat - 48 by omega, hcn, ← hi]
/-- digits without a nought ahead are the numeral of their value. -/
theorem digits_are (l : List UInt8) (hd : l.all isD = true) (hh : l.head? ≠ some 48) (hne : l ≠ []) : l = Lib.decDigits (dval l) := digits_go l.length l rfl hd hh hne

theorem nDigits_mono : ∀ (u v : Nat), u ≤ v → Lib.nDigits u ≤ Lib.nDigits v := by
  intro u
  induction u using Nat.strongRecOn with
  | _ u ih =>
    intro v h
    by_cases h1 : u < 10
    · rw [Lib.nDigits_small h1]; exact Lib.nDigits_pos v
    · rw [Lib.nDigits_big (u := u) h1, Lib.nDigits_big (u := v) (by omega)]
      have := ih (u / 10) (by omega) (v / 10) (by omega)
      omega
theorem itoa_mono {a b : Int} (h0 : 0 ≤ a) (h : a ≤ b) : (Lib.itoa a).length ≤ (Lib.itoa b).length := by
  obtain ⟨u, rfl⟩ : ∃ u : Nat, a = u := ⟨a.toNat, by omega⟩
  obtain ⟨v, rfl⟩ : ∃ v : Nat, b = v := ⟨b.toNat, by omega⟩
  rw [Lib.itoa_nonneg, Lib.itoa_nonneg, Lib.decDigits_length, Lib.decDigits_length]
  exact nDigits_mono u v (by omega)

/-! ### the first of a byte -/
theorem index_takeWhile (c : UInt8) : ∀ l : List UInt8, Lib.indexByte l c = if c ∈ l then ((l.takeWhile (· != c)).length : Int) else -1
  | [] => by simp [Lib.indexByte]
  | b :: l => by
    unfold Lib.indexByte
    have ih := index_takeWhile c l
    by_cases h : b = c
    · subst h
      simp
    · have hb : (b == c) = false := beq_eq_false_iff_ne.mpr h
      have hb' : (b != c) = true := bne_iff_ne.mpr h
      have hm : (c ∈ b :: l) ↔ c ∈ l := by simp [List.mem_cons, Ne.symm h]
      rw [hb, ih, List.takeWhile_cons_of_pos (p := fun x => x != c) (by simpa using h)]
      by_cases hl : c ∈ l
      · rw [if_pos hl, if_pos (hm.2 hl)]
        have : ((((l.takeWhile (· != c)).length : Int) == -1) = false) := beq_eq_false_iff_ne.mpr (by omega)
        rw [this]
        simp
      · rw [if_neg hl, if_neg (fun h' => hl (hm.1 h'))]
        simp

/-! ### a record at the front -/
def recTail (s ds X : List UInt8) : Option (List UInt8 × List UInt8 × List UInt8) :=
  if ds = [] ∨ ds.head? = some 48 ∨ s.length < dval ds ∨ dval ds < ds.length + 2 ∨ s[dval ds - 1]? ≠ some 10 then none
  else
    let body := X.take (dval ds - ds.length - 2)
    let key := body.takeWhile (· != 61)
    if key = [] ∨ key.length = body.length then none else some (key, body.drop (key.length + 1), s.drop (dval ds))
def oneS (s : List UInt8) : Option (List UInt8 × List UInt8 × List UInt8) :=
  match s.drop (s.takeWhile isD).length with
  | [] => none
  | b :: X => if b = 32 then recTail s (s.takeWhile isD) X else none

theorem oneS_shorter {s k v r : List UInt8} (h : oneS s = some (k, v, r)) : r.length < s.length := by
  unfold oneS at h
  split at h
  · cases h
  · split at h
    · unfold recTail at h
      split at h
      · cases h
      · rename_i hc
        dsimp only at h
        split at h
        · cases h
        · injection h with h
          injection h with _ h
          injection h with _ h
          subst h
          rw [List.length_drop]
          omega
    · cases h

/-- all the records; the first argument: at most so many. -/
def readS : Nat → List UInt8 → Option (List (List UInt8 × List UInt8))
  | 0, s => if s = [] then some [] else none
  | n + 1, s => if s = [] then some [] else match oneS s with
    | none => none
    | some (k, v, r) => (readS n r).map ((k, v) :: ·)

theorem readS_more : ∀ (n m : Nat) (s : List UInt8), s.length ≤ n → s.length ≤ m → readS n s = readS m s
  | 0, 0, s, hn, hm => rfl
  | 0, m + 1, s, hn, hm => by
    have : s = [] := List.length_eq_zero_iff.1 (by omega)
    subst this
    rw [readS, readS, if_pos rfl, if_pos rfl]
  | n + 1, 0, s, hn, hm => by
    have : s = [] := List.length_eq_zero_iff.1 (by omega)
    subst this
    rw [readS, readS, if_pos rfl, if_pos rfl]
  | n + 1, m + 1, s, hn, hm => by
    rw [readS, readS]
    cases ho : oneS s with
    | none => rfl
    | some t =>
      obtain ⟨k, v, r⟩ := t
      have := oneS_shorter ho
      dsimp only
      rw [readS_more n m r (by omega) (by omega)]

/-! ### a record's text -/
def recL (n : Int) (k v : List UInt8) : List UInt8 := Lib.itoa n ++ 32 :: (k ++ 61 :: (v ++ [10]))
theorem recL_length (n : Int) (k v : List UInt8) : (recL n k v).length = (Lib.itoa n).length + (k.length + v.length + 3) := by
  unfold recL
  simp
  omega
theorem takeWhile_first' {p : UInt8 → Bool} : ∀ (l : List UInt8), l.all p = true → ∀ (c : UInt8) (r : List UInt8), p c = false → (l ++ c :: r).takeWhile p = l
  | [], _, c, r, hc => by simp [hc]
  | a :: l, h, c, r, hc => by
    rw [List.all_cons, Bool.and_eq_true] at h
    rw [List.cons_append, List.takeWhile_cons_of_pos h.1, takeWhile_first' l h.2 c r hc]
theorem all_ne {c : UInt8} {l : List UInt8} (h : c ∉ l) : l.all (· != c) = true := by
  rw [List.all_eq_true]
  intro x hx
  rw [bne_iff_ne]
  rintro rfl
  exact h hx

theorem oneS_rec {n : Nat} {k v r : List UInt8} (hn : (recL n k v).length = n) (hk : k ≠ []) (h61 : (61 : UInt8) ∉ k) : oneS (recL n k v ++ r) = some (k, v, r) := by
  have hpos : 0 < n := by rw [recL_length] at hn; omega
  have hi : Lib.itoa (n : Int) = Lib.decDigits n := Lib.itoa_nonneg n
  have hl := recL_length n k v
  rw [hi] at hl
  have hs : recL n k v ++ r = Lib.decDigits n ++ 32 :: (k ++ 61 :: (v ++ [10]) ++ r) := by
    unfold recL
    rw [hi]
    simp
  have hlen : (recL n k v ++ r).length = n + r.length := by rw [List.length_append, hn]
  have h10 : (recL n k v ++ r)[n - 1]? = some 10 := by
    have e : recL n k v ++ r = (Lib.itoa (n : Int) ++ 32 :: (k ++ 61 :: v)) ++ 10 :: r := by unfold recL; simp
    have el : (Lib.itoa (n : Int) ++ 32 :: (k ++ 61 :: v)).length = n - 1 := by
      rw [hi]
      simp only [List.length_append, List.length_cons]
      omega
    rw [e, List.getElem?_append_right (by omega), el, Nat.sub_self]
    rfl
  have hd0 : recL n k v ++ r = recL n k v ++ r := rfl
  have htw : (recL n k v ++ r).takeWhile isD = Lib.decDigits n := by rw [hs]; exact takeWhile_first' _ (decDigits_all n) 32 _ (by decide)
  have hdr : (recL n k v ++ r).drop (Lib.decDigits n).length = 32 :: (k ++ 61 :: (v ++ [10]) ++ r) := by rw [hs, List.drop_left' rfl]
  have hdn : (recL n k v ++ r).drop n = r := List.drop_left' hn
  unfold oneS
  rw [htw, hdr]
  dsimp only
  rw [if_pos rfl]
  unfold recTail
  rw [decDigits_dval, if_neg]
  · have hbody : (k ++ 61 :: (v ++ [10]) ++ r).take (n - (Lib.decDigits n).length - 2) = k ++ 61 :: v := by
      rw [show k ++ 61 :: (v ++ [10]) ++ r = (k ++ 61 :: v) ++ (10 :: r) by simp]
      exact List.take_left' (by simp; omega)
    dsimp only
    rw [hbody, takeWhile_first' k (all_ne h61) 61 v (by decide), hdn]
    rw [if_neg]
    · congr 3
      rw [List.drop_append, List.drop_of_length_le (by omega), show k.length + 1 - k.length = 1 by omega]
      rfl
    · rintro (h | h)
      · exact hk h
      · simp at h
  · rintro (h | h | h | h | h)
    · exact decDigits_ne n h
    · exact decDigits_head n hpos h
    · omega
    · omega
    · exact h h10

theorem take_split (c : UInt8) (l : List UInt8) (h : (l.takeWhile (· != c)).length ≠ l.length) : l = l.takeWhile (· != c) ++ c :: l.drop ((l.takeWhile (· != c)).length + 1) := by
  induction l with
  | nil => simp at h
  | cons a l ih =>
    by_cases e : a = c
    · subst e
      simp [List.takeWhile]
    · have hp : (fun x => x != c) a = true := by simpa using e
      rw [List.takeWhile_cons_of_pos (p := fun x => x != c) hp] at h ⊢
      rw [List.length_cons, List.length_cons] at h
      rw [List.length_cons, List.drop_succ_cons, List.cons_append, ← ih (by omega)]
theorem not_mem_tw (c : UInt8) (L : List UInt8) : c ∉ L.takeWhile (· != c) := by
  induction L with
  | nil => simp
  | cons a l ih =>
    by_cases e : a = c
    · subst e; simp [List.takeWhile]
    · rw [List.takeWhile_cons_of_pos (by simpa using e)]
      intro h
      rcases List.mem_cons.1 h with h | h
      · exact e h.symm
      · exact ih h
theorem all_tw (p : UInt8 → Bool) (l : List UInt8) : (l.takeWhile p).all p = true := by
  induction l with
  | nil => rfl
  | cons a l ih =>
    cases h : p a with
    | true => rw [List.takeWhile_cons_of_pos h, List.all_cons, h, ih]; rfl
    | false => rw [List.takeWhile_cons_of_neg (by simp [h])]; rfl

theorem oneS_inv {s k v r : List UInt8} (h : oneS s = some (k, v, r)) : ∃ n : Nat, s = recL n k v ++ r ∧ (recL n k v).length = n ∧ k ≠ [] ∧ (61 : UInt8) ∉ k := by
  unfold oneS at h
  have hspl := (List.prefix_iff_eq_append.1 (List.takeWhile_prefix (l := s) isD)).symm
  have hall := all_tw isD s
  generalize s.takeWhile isD = D at h hspl hall
  split at h
  · cases h
  · rename_i b X hX
    split at h
    · rename_i hb
      subst hb
      unfold recTail at h
      split at h
      · cases h
      · rename_i hg
        dsimp only at h
        split at h
        · cases h
        · rename_i hg2
          injection h with h
          injection h with h1 h
          injection h with h2 h3
          have hDn : D ≠ [] := fun e => hg (Or.inl e)
          have hDh : D.head? ≠ some 48 := fun e => hg (Or.inr (Or.inl e))
          have hle : dval D ≤ s.length := by rcases Nat.lt_or_ge s.length (dval D) with e | e; exact absurd (Or.inr (Or.inr (Or.inl e))) hg; exact e
          have hge : D.length + 2 ≤ dval D := by rcases Nat.lt_or_ge (dval D) (D.length + 2) with e | e; exact absurd (Or.inr (Or.inr (Or.inr (Or.inl e)))) hg; exact e
          have h10 : s[dval D - 1]? = some 10 := by
            by_cases e : s[dval D - 1]? = some 10
            · exact e
            · exact absurd (Or.inr (Or.inr (Or.inr (Or.inr e)))) hg
          have hki : k ≠ [] := fun e => hg2 (Or.inl (by rw [h1]; exact e))
          have hDi := digits_are D hall hDh hDn
          have hit : Lib.itoa (dval D : Int) = D := (Lib.itoa_nonneg _).trans hDi.symm
          rw [hX] at hspl
          have hsl : s.length = D.length + (X.length + 1) := by rw [hspl]; simp
          -- the body, the line's end, what is behind
          have hbody := take_split 61 (X.take (dval D - D.length - 2)) (fun e => hg2 (Or.inr e))
          rw [h2, h1] at hbody
          have hXs : X = (X.take (dval D - D.length - 2)) ++ 10 :: r := by
            have hx10 : X[dval D - D.length - 2]? = some 10 := by
              rw [hspl, List.getElem?_append_right (by omega), show dval D - 1 - D.length = (dval D - D.length - 2) + 1 by omega, List.getElem?_cons_succ] at h10
              exact h10
            have hr : X.drop (dval D - D.length - 2 + 1) = r := by
              rw [← h3]
              conv => rhs; rw [hspl]
              obtain ⟨q, hq⟩ : ∃ q, dval D - D.length = q + 2 := ⟨dval D - D.length - 2, by omega⟩
              rw [show dval D - D.length - 2 + 1 = q + 1 by omega, List.drop_append, List.drop_of_length_le (show D.length ≤ dval D by omega), List.nil_append, hq, List.drop_succ_cons]
            obtain ⟨hlt, hge'⟩ := List.getElem?_eq_some_iff.1 hx10
            conv => lhs; rw [← List.take_append_drop (dval D - D.length - 2) X]
            rw [List.drop_eq_getElem_cons hlt, hge', hr]
          have hrec : recL (dval D) k v ++ r = s := by
            unfold recL
            rw [hit, hspl, hXs, hbody]
            simp
          refine ⟨dval D, hrec.symm, ?_, hki, ?_⟩
          · rw [recL_length, hit]
            have e1 := congrArg List.length hbody
            rw [List.length_take, List.length_append, List.length_cons] at e1
            have e2 : dval D - D.length - 2 ≤ X.length := by omega
            omega
          · rw [← h1]
            exact not_mem_tw 61 _
    · cases h
end Go.Proofs.YtfmfikodnpnblaaDoor.PaxSem
/- What the printed functions on days come to: the plain calendar. -/
namespace Go.Proofs.YtfmfikodnpnblaaDoor.ClkDays
open Go.RowKit Go.Proofs Go.Proofs.YtfmfikodnpnblaaDoorW.PrintWords Go.Proofs.YtfmfikodnpnblaaDoor.PClk1 Go.Proofs.YtfmfikodnpnblaaDoor.ClkDate Go.Proofs.YtfmfikodnpnblaaDoor.Cal Go.Proofs.YtfmfikodnpnblaaDoor.Civil

theorem w64 {n : Int} (h : -9223372036854775808 ≤ n ∧ n ≤ 9223372036854775807) : wrap64 n = n := by unfold wrap64; omega
theorem tdiv_pos {a c : Int} (ha : 0 ≤ a) : Int.tdiv a c = a / c := Int.tdiv_eq_ediv_of_nonneg ha
theorem tmod_pos {a c : Int} (ha : 0 ≤ a) : Int.tmod a c = a % c := Int.tmod_eq_emod_of_nonneg ha
/-- cut down, and the rest. -/
theorem down_eq (a b : Int) (hb : 1 ≤ b) (hb' : b ≤ 1000000) (ha : -1000000000000000000 ≤ a ∧ a ≤ 1000000000000000000) : clock_down.f a b = some (a / b, a % b) := by
  have h1 := Int.mul_tdiv_add_tmod a b
  have h2 := Int.mul_ediv_add_emod a b
  have h3 := Int.emod_nonneg a (show b ≠ 0 by omega)
  have h4 := Int.emod_lt_of_pos a (show 0 < b by omega)
  have h5 : -1000000000000000001 ≤ a / b ∧ a / b ≤ 1000000000000000000 := by
    constructor
    · have : -1000000000000000000 ≤ a / b := (Int.le_ediv_iff_mul_le (by omega)).2 (by
        have : (-1000000000000000000 : Int) * b ≤ -1000000000000000000 * 1 := Int.mul_le_mul_of_nonpos_left (by omega) (by omega)
        omega)
      omega
    · rcases Int.lt_or_le a 0 with h | h
      · have := Int.ediv_neg_of_neg_of_pos h (show 0 < b by omega); omega
      · exact Int.le_trans (Int.ediv_le_self _ h) ha.2
  unfold clock_down.f
  rw [if_neg (by omega)]
  rcases Int.lt_or_le a 0 with h | h
  · have e1 : Int.tmod a b = -((-a) % b) := by
      have : a = -(-a) := by omega
      rw [this, Int.neg_tmod, tmod_pos (by omega), Int.neg_neg]
    have g1 := Int.emod_nonneg (-a) (show b ≠ 0 by omega)
    have g2 := Int.emod_lt_of_pos (-a) (show 0 < b by omega)
    by_cases h0 : Int.tmod a b < 0
    · rw [if_pos h0]
      have hq : a.tdiv b = a / b + 1 := by
        have hd : b * (a.tdiv b - a / b) = a % b - a.tmod b := by rw [Int.mul_sub]; omega
        have g3 : b * (a.tdiv b - a / b) < b * 2 := by omega
        have g4 : b * 0 < b * (a.tdiv b - a / b) := by omega
        have g5 := Int.lt_of_mul_lt_mul_left g3 (by omega)
        have g6 := Int.lt_of_mul_lt_mul_left g4 (by omega)
        omega
      have hr : a.tmod b + b = a % b := by
        have : b * (a / b + 1) = b * (a / b) + b := by rw [Int.mul_add, Int.mul_one]
        rw [hq, this] at h1
        omega
      rw [hr, hq, w64 (n := a / b + 1) (by omega), w64 (n := a / b + 1 - 1) (by omega), w64 (n := a % b) (by omega), show a / b + 1 - 1 = a / b by omega]
    · rw [if_neg h0]
      have hz : a.tmod b = 0 := by omega
      have hz2 : a % b = 0 := by
        have : (-a) % b = 0 := by omega
        exact Int.emod_eq_zero_of_dvd ((Int.dvd_neg).1 (Int.dvd_of_emod_eq_zero this))
      have hq : a.tdiv b = a / b := by
        rw [hz] at h1
        rw [hz2] at h2
        exact Int.eq_of_mul_eq_mul_left (show b ≠ 0 by omega) (by omega)
      rw [hz, hz2, hq, w64 (by omega)]
  · rw [tmod_pos h, tdiv_pos h, if_neg (by omega), w64 (by omega)]

theorem days_eq (y m d : Int) (hy : -1000000 ≤ y ∧ y ≤ 1000000) (hm : 1 ≤ m ∧ m ≤ 12) (hd : -1000 ≤ d ∧ d ≤ 1000) : clock_days.f y m d = some (dayNum y m d) := by
  unfold clock_days.f
  obtain ⟨k, hk⟩ : ∃ k, (m + 9) % 12 = k := ⟨_, rfl⟩
  have ek : Int.tmod (wrap64 (m + 9)) 12 = k := by rw [w64 (by omega), tmod_pos (by omega), hk]
  have hk0 : 0 ≤ k ∧ k ≤ 11 := by omega
  have e1 : wrap64 (153 * k) = 153 * k := w64 (by omega)
  have e2 : wrap64 (153 * k + 2) = 153 * k + 2 := w64 (by omega)
  have e3 : Int.tdiv (153 * k + 2) 5 = (153 * k + 2) / 5 := tdiv_pos (by omega)
  rw [ek, e1, e2, e3]
  have main : ∀ Y : Int, -1000001 ≤ Y → Y ≤ 1000000 → wrap64 ((wrap64 ((wrap64 ((wrap64 ((wrap64 ((wrap64 (Y / 400 * 146097)) + (wrap64 (Y % 400 * 365)))) + (wrap64 (Int.tdiv (Y % 400) 4)))) - (wrap64 (Int.tdiv (Y % 400) 100)))) + (wrap64 ((wrap64 ((wrap64 ((153 * k + 2) / 5)) + d)) - 1)))) - 719468) = Y / 400 * 146097 + Y % 400 * 365 + Y % 400 / 4 - Y % 400 / 100 + ((153 * k + 2) / 5 + d - 1) - 719468 := by
    intro Y h1 h2
    rw [tdiv_pos (by omega), tdiv_pos (by omega)]
    obtain ⟨q, hq⟩ : ∃ q, (153 * k + 2) / 5 = q := ⟨_, rfl⟩
    have hq2 : 0 ≤ q ∧ q ≤ 400 := by omega
    rw [hq]
    clear hq e1 e2 e3 ek hk
    rw [w64 (n := Y / 400 * 146097) (by omega), w64 (n := Y % 400 * 365) (by omega), w64 (n := Y % 400 / 4) (by omega), w64 (n := Y % 400 / 100) (by omega), w64 (n := q) (by omega), w64 (n := q + d) (by omega), w64 (n := q + d - 1) (by omega),
      w64 (n := Y / 400 * 146097 + Y % 400 * 365) (by omega), w64 (n := Y / 400 * 146097 + Y % 400 * 365 + Y % 400 / 4) (by omega), w64 (n := Y / 400 * 146097 + Y % 400 * 365 + Y % 400 / 4 - Y % 400 / 100) (by omega), w64 (n := Y / 400 * 146097 + Y % 400 * 365 + Y % 400 / 4 - Y % 400 / 100 + (q + d - 1)) (by omega), w64 (by omega)]
  unfold dayNum
  rw [hk]
  by_cases hc : m ≤ 2
  · rw [if_pos hc, w64 (by omega), down_eq _ _ (by omega) (by omega) (by omega), Option.bind_some]
    dsimp only
    rw [main (y - 1) (by omega) (by omega)]
    simp only [if_pos hc]
  · rw [if_neg hc, down_eq _ _ (by omega) (by omega) (by omega), Option.bind_some]
    dsimp only
    rw [main y (by omega) (by omega)]
    simp only [if_neg hc]
theorem Days_eq (y m d : Int) (hy : -100000 ≤ y ∧ y ≤ 100000) (hm : 1 ≤ m ∧ m ≤ 12) (hd : 1 ≤ d ∧ d ≤ 31) : clock_Days.f y m d = some (dayNum y m d) := by
  unfold clock_Days.f
  rw [if_neg (by omega), if_neg (by omega), if_neg (by omega), if_neg (by omega), if_neg (by omega), if_neg (by omega), days_eq y m d (by omega) hm (by omega)]
  rfl
/-- within fair bounds. -/
theorem dayNum_bound (y m d : Int) (hy : -1000000 ≤ y ∧ y ≤ 1000000) (hm : 1 ≤ m ∧ m ≤ 12) (hd : -1000 ≤ d ∧ d ≤ 1000) : -400000000 ≤ dayNum y m d ∧ dayNum y m d ≤ 400000000 := by
  unfold dayNum
  split <;> omega
end Go.Proofs.YtfmfikodnpnblaaDoor.ClkDays
/- What the printed functions on times come to: whole numbers. -/
namespace Go.Proofs.YtfmfikodnpnblaaDoor.ClkFloat
open Go.RowKit Go.Proofs Go.Proofs.YtfmfikodnpnblaaDoorW.PrintWords Go.Proofs.YtfmfikodnpnblaaDoor.PClk1 Go.Proofs.YtfmfikodnpnblaaDoor.ClkDate Go.Proofs.YtfmfikodnpnblaaDoor.ClkLib Go.Proofs.YtfmfikodnpnblaaDoor.ClkDays Go.Proofs.YtfmfikodnpnblaaDoor.Flt Go.Proofs.YtfmfikodnpnblaaDoor.FltClk

/-! ### words and their order -/
theorem key_lit {x : Nat} (n : Int) (h : n.natAbs < 9007199254740992) (e : floatOfInt .f64 n = x) : key x = some (n * U) := by
  rw [← e]; exact key_ofInt n h
theorem key_zero : key 0 = some 0 := by rw [key_lit 0 (by decide) (by decide +kernel), Int.zero_mul]
theorem key_one : key 4607182418800017408 = some U := by rw [key_lit 1 (by decide) (by decide +kernel), Int.one_mul]
theorem key_33 : key 4755801206503243776 = some (8589934592 * U) := key_lit _ (by decide) (by decide +kernel)
theorem key_n33 : key 13979173243358019584 = some (-(8589934592 * U)) := by rw [key_lit (-8589934592) (by decide) (by decide +kernel), Int.neg_mul]
theorem key_32 : key 4751297606873776128 = some (4294967295 * U) := key_lit _ (by decide) (by decide +kernel)
theorem key_first : key 4734073370679705600 = some (315532800 * U) := key_lit _ (by decide) (by decide +kernel)
theorem key_last : key 4751360366145961984 = some (4354819200 * U) := key_lit _ (by decide) (by decide +kernel)
theorem lit_512 : (4647714815446351872 : Nat) = w512 := by decide +kernel
theorem f64f : FloatKind.f64.format = Ieee.double := rfl

section
variable {x y : Nat} {a b : Int}
theorem ord_lt (hx : key x = some a) (hy : key y = some b) : (FloatKind.f64.format.order x y == some .lt) = decide (a < b) := by
  rw [f64f, order_key hx hy]
  rcases Int.lt_trichotomy a b with h | h | h
  · rw [cmp_lt h, decide_eq_true h]; rfl
  · rw [cmp_eq h, decide_eq_false (by omega)]; rfl
  · rw [cmp_gt h, decide_eq_false (by omega)]; rfl
theorem ord_eq (hx : key x = some a) (hy : key y = some b) : (FloatKind.f64.format.order x y == some .eq) = decide (a = b) := by
  rw [f64f, order_key hx hy]
  rcases Int.lt_trichotomy a b with h | h | h
  · rw [cmp_lt h, decide_eq_false (by omega)]; rfl
  · rw [cmp_eq h, decide_eq_true h]; rfl
  · rw [cmp_gt h, decide_eq_false (by omega)]; rfl
theorem ord_gt (hx : key x = some a) (hy : key y = some b) : (FloatKind.f64.format.order x y == some .gt) = decide (b < a) := by
  rw [f64f, order_key hx hy]
  rcases Int.lt_trichotomy a b with h | h | h
  · rw [cmp_lt h, decide_eq_false (by omega)]; rfl
  · rw [cmp_eq h, decide_eq_false (by omega)]; rfl
  · rw [cmp_gt h, decide_eq_true h]; rfl
theorem ord_ne (hx : key x = some a) (hy : key y = some b) : (FloatKind.f64.format.order x y != some .eq) = decide (a ≠ b) := by
  show (!(FloatKind.f64.format.order x y == some .eq)) = _
  rw [ord_eq hx hy]
  by_cases h : a = b <;> simp [h]
theorem ord_le (hx : key x = some a) (hy : key y = some b) : (FloatKind.f64.format.order x y == some .lt || FloatKind.f64.format.order x y == some .eq) = decide (a ≤ b) := by
  rw [ord_lt hx hy, ord_eq hx hy]
  by_cases h : a < b
  · rw [decide_eq_true h, decide_eq_true (show a ≤ b by omega)]; rfl
  · rw [decide_eq_false h]
    by_cases h' : a = b
    · rw [decide_eq_true h', decide_eq_true (show a ≤ b by omega)]; rfl
    · rw [decide_eq_false h', decide_eq_false (show ¬ a ≤ b by omega)]; rfl
theorem ord_ge (hx : key x = some a) (hy : key y = some b) : (FloatKind.f64.format.order x y == some .gt || FloatKind.f64.format.order x y == some .eq) = decide (b ≤ a) := by
  rw [ord_gt hx hy, ord_eq hx hy]
  by_cases h : b < a
  · rw [decide_eq_true h, decide_eq_true (show b ≤ a by omega)]; rfl
  · rw [decide_eq_false h]
    by_cases h' : a = b
    · rw [decide_eq_true h', decide_eq_true (show b ≤ a by omega)]; rfl
    · rw [decide_eq_false h', decide_eq_false (show ¬ b ≤ a by omega)]; rfl
theorem ord_none (h : key x = none) (y : Nat) : FloatKind.f64.format.order x y = none := order_nan (.inl h)
theorem ord_none' (h : key y = none) (x : Nat) : FloatKind.f64.format.order x y = none := order_nan (.inr h)
theorem nan_ne (h : key x = none) : (FloatKind.f64.format.order x x != some .eq) = true := by rw [ord_none h]; rfl
theorem not_nan (h : key x = some a) : (FloatKind.f64.format.order x x != some .eq) = false := by rw [ord_ne h h]; simp
theorem floor_f (h : key x = some a) : math_Floor.f x = some (floorBits x) := by
  unfold math_Floor.f
  rw [if_neg]
  unfold key keyD at h
  intro hn
  cases e : Ieee.double.read x <;> rw [e] at h hn <;> first | (cases h; done) | (cases hn; done)
theorem fint_key (h : key x = some (a * U)) (ha : a.natAbs < 9007199254740992) : fintOk x = true ∧ fint x = a := by
  refine fint_of ?_
  have hU := U_pos
  have e : (a * U).tdiv U = a := Int.mul_tdiv_cancel _ (by omega)
  rw [int_key h (int_small ha) (by rw [e]; omega) (by rw [e]; omega), e]
end

/-! ### parts of 512 -/
def parts (x : Nat) : Int := match key x with | none => 0 | some a => partsOf a
theorem parts_bound (x : Nat) : -4398046511104 ≤ parts x ∧ parts x ≤ 4398046511104 := by
  unfold parts
  split
  · omega
  · exact partsOf_bound _
theorem edge_v : 8589934592 * U = 4398046511104 * V := by rw [U_V]; omega
/-- a word that counts n parts of 512; nought is the one without a sign. -/
def Is512 (r : Nat) (n : Int) : Prop := key r = some (n * V) ∧ (n = 0 → r = 0)
theorem Fine_eq (x : Nat) : ∃ r, clock_Fine.f x = some r ∧ Is512 r (parts x) := by
  unfold clock_Fine.f parts
  cases hk : key x with
  | none =>
    rw [if_pos (nan_ne hk)]
    exact ⟨0, rfl, by rw [key_zero]; simp, fun _ => rfl⟩
  | some a =>
    have hV := V_pos
    have hU := U_pos
    rw [if_neg (by rw [not_nan hk]; decide), ord_lt hk key_n33, ord_gt hk key_33]
    dsimp only
    by_cases h1 : a < -(8589934592 * U)
    · rw [if_pos (decide_eq_true h1)]
      refine ⟨_, rfl, ?_⟩
      unfold partsOf
      rw [if_pos h1]
      exact ⟨by rw [key_n33, edge_v, Int.neg_mul], fun h => absurd h (by decide)⟩
    · rw [if_neg (by rw [decide_eq_false h1]; decide)]
      by_cases h2 : 8589934592 * U < a
      · rw [if_pos (decide_eq_true h2)]
        refine ⟨_, rfl, ?_⟩
        unfold partsOf
        rw [if_neg h1, if_pos h2]
        exact ⟨by rw [key_33, edge_v], fun h => absurd h (by decide)⟩
      · rw [if_neg (by rw [decide_eq_false h2]; decide)]
        obtain ⟨m, hm, hmk, q, hq, hqk⟩ := fine_key hk (by omega) (by omega)
        have hm' := fop_of (op := .mul) hm
        have hq' := fop_of (op := .quo) hq
        rw [lit_512, if_pos hm'.1, hm'.2, floor_f hmk, Option.bind_some, if_pos hq'.1, hq'.2, ord_ne hqk key_zero]
        have e : partsOf a = a * 512 / U := by unfold partsOf; rw [if_neg h1, if_neg h2]
        rw [e]
        by_cases h3 : a * 512 / U = 0
        · rw [if_neg (by rw [h3]; simp)]
          exact ⟨0, rfl, by rw [key_zero, h3]; simp, fun _ => rfl⟩
        · have h4 : a * 512 / U * V ≠ 0 := Int.mul_ne_zero h3 (by omega)
          rw [if_pos (decide_eq_true h4)]
          exact ⟨q, rfl, hqk, fun h => absurd h h3⟩
theorem int512 (n : Int) (hn : n.natAbs < 9007199254740992) : ∃ r, fvalid .quo (floatOfInt .f64 n) w512 = true ∧ fop .quo (floatOfInt .f64 n) w512 = r ∧ Is512 r n := by
  obtain ⟨q, hq, hqk⟩ := div512_of (key_ofInt n hn) hn
  have hq' := fop_of (op := .quo) hq
  refine ⟨q, hq'.1, hq'.2, hqk, fun h => ?_⟩
  subst h
  rw [← hq'.2]
  decide +kernel
theorem same_eq {r s : Nat} {n : Int} (hr : Is512 r n) (hs : Is512 s n) : stevedorelaw4_same.f r s = some true := by
  by_cases h : n = 0
  · rw [hr.2 h, hs.2 h]
    decide +kernel
  · have hV := V_pos
    have h1 : n * V ≠ 0 := Int.mul_ne_zero h (by omega)
    unfold stevedorelaw4_same.f
    rw [if_neg (by rw [not_nan hr.1]; decide), ord_eq hr.1 hs.1, if_pos (decide_eq_true rfl), ord_ne hr.1 key_zero, if_pos (decide_eq_true h1)]
/-- the same of words with the same key. -/
theorem same_key {r s : Nat} {a : Int} (hr : key r = some a) (hs : key s = some a) (h0 : a = 0 → r = 0 ∧ s = 0) : stevedorelaw4_same.f r s = some true := by
  by_cases h : a = 0
  · rw [(h0 h).1, (h0 h).2]
    decide +kernel
  · unfold stevedorelaw4_same.f
    rw [if_neg (by rw [not_nan hr]; decide), ord_eq hr hs, if_pos (decide_eq_true rfl), ord_ne hr key_zero, if_pos (decide_eq_true h)]
theorem same_nan {r s : Nat} (hr : key r = none) (hs : key s = none) : stevedorelaw4_same.f r s = some true := by
  unfold stevedorelaw4_same.f
  rw [if_pos (nan_ne hr), if_pos (nan_ne hs)]

/-! ### seconds -/
def unixOf (x : Nat) : Int := match key x with | none => 0 | some a => clampTo 0 4294967295 4294967295 a
theorem floor_sec {x : Nat} {a : Int} (hk : key x = some a) (h0 : 0 ≤ a) (h1 : a < 4398046511104 * U) : key (floorBits x) = some (a / U * U) ∧ fintOk (floorBits x) = true ∧ fint (floorBits x) = a / U := by
  have hU := U_pos
  have hb : a.natAbs < Flt.p2 2150 := by
    refine Nat.lt_trans ?_ (int_small (n := 4398046511104) (by decide))
    omega
  have h2 : 0 ≤ a / U := Int.ediv_nonneg h0 (by omega)
  have h3 : a / U < 4398046511104 := (Int.ediv_lt_iff_lt_mul hU).2 h1
  have hf := key_floor hk hb
  exact ⟨hf, fint_key hf (by omega)⟩
theorem Unix_eq (k x : Nat) (hk0 : 1 ≤ k) : clock_Unix.f k x = some (unixOf x) := by
  obtain ⟨k, rfl⟩ : ∃ j, k = j + 1 := ⟨k - 1, by omega⟩
  have hU := U_pos
  unfold clock_Unix.f unixOf
  cases hk : key x with
  | none => rw [if_pos (nan_ne hk)]; rfl
  | some a =>
    rw [if_neg (by rw [not_nan hk]; decide), ord_lt hk key_zero, clock_Unix.j0, ord_ge hk key_32]
    dsimp only
    unfold clampTo
    rw [Int.zero_mul]
    by_cases h1 : a < 0
    · rw [if_pos (decide_eq_true h1), if_pos h1]
    · rw [if_neg (by rw [decide_eq_false h1]; decide), if_neg h1]
      by_cases h2 : 4294967295 * U ≤ a
      · rw [if_pos (decide_eq_true h2), if_pos h2]
      · obtain ⟨g1, g2, g3⟩ := floor_sec hk (by omega) (by omega)
        rw [if_neg (by rw [decide_eq_false h2]; decide), if_neg h2, floor_f hk, Option.bind_some, if_pos g2, g3]
end Go.Proofs.YtfmfikodnpnblaaDoor.ClkFloat
/- What clock.Date and clock.Dos come to. -/
namespace Go.Proofs.YtfmfikodnpnblaaDoor.ClkDateEq
open Go.RowKit Go.Proofs Go.Proofs.YtfmfikodnpnblaaDoorW.PrintWords Go.Proofs.YtfmfikodnpnblaaDoor.PClk1 Go.Proofs.YtfmfikodnpnblaaDoor.ClkDate Go.Proofs.YtfmfikodnpnblaaDoor.ClkLib Go.Proofs.YtfmfikodnpnblaaDoor.ClkDays Go.Proofs.YtfmfikodnpnblaaDoor.Flt Go.Proofs.YtfmfikodnpnblaaDoor.FltClk Go.Proofs.YtfmfikodnpnblaaDoor.ClkFloat Go.Proofs.YtfmfikodnpnblaaDoor.Cal Go.Proofs.YtfmfikodnpnblaaDoor.Civil

def dateOf (s : Int) : Int × Int × Int × Int × Int × Int :=
  (yearOf (s / 86400), monthOf (s / 86400), dayOf (s / 86400), s % 86400 / 3600, s % 86400 / 60 % 60, s % 86400 % 60)
set_option maxHeartbeats 4000000 in
theorem Date_eq (k : Nat) (s : Int) (hk : 1 ≤ k) (h0 : -1099511627776 ≤ s) (h1 : s ≤ 1099511627776) : clock_Date.f k s = some (dateOf s) := by
  obtain ⟨k, rfl⟩ : ∃ j, k = j + 1 := ⟨k - 1, by omega⟩
  unfold clock_Date.f dateOf
  rw [if_neg (by omega), decide_eq_false (by omega), clock_Date.j0, if_neg (by decide), down_eq _ _ (by omega) (by omega) (by omega), Option.bind_some]
  obtain ⟨n, hn⟩ : ∃ n, s / 86400 = n := ⟨_, rfl⟩
  obtain ⟨r, hr⟩ : ∃ r, s % 86400 = r := ⟨_, rfl⟩
  have hnb : -20000000 ≤ n ∧ n ≤ 20000000 := by omega
  have hrb : 0 ≤ r ∧ r < 86400 := by omega
  dsimp only
  rw [hn, hr]
  clear hn hr
  rw [w64 (n := n + 719468) (by omega), down_eq _ _ (by omega) (by omega) (by omega), Option.bind_some]
  dsimp only
  obtain ⟨f0, f1, f2, f3, f4⟩ := day_facts n
  have fi := doy_le n
  have fm := mon_le n
  obtain ⟨fd0, fd1⟩ := mon_doy n
  rw [← f0]
  obtain ⟨e, he⟩ : ∃ e, (n + 719468) / 146097 = e := ⟨_, rfl⟩
  have heb : -1000 ≤ e ∧ e ≤ 1000 := by omega
  have hera : era n = e := he
  rw [he]
  clear he f0
  -- the steps' names
  have hg : (gq (oday n) : Int) = (oday n : Int) - (oday n : Int) / 1460 + (oday n : Int) / 36524 - (oday n : Int) / 146096 := by unfold gq; omega
  have hy : (yoe n : Int) = (gq (oday n) : Int) / 365 := by unfold yoe; omega
  have hst : (st (yoe n) : Int) = 365 * (yoe n : Int) + (yoe n : Int) / 4 - (yoe n : Int) / 100 := by unfold st; omega
  have hi : (doy n : Int) = (oday n : Int) - st (yoe n) := by unfold doy; omega
  have hm : (mon n : Int) = (5 * (doy n : Int) + 2) / 153 := by unfold mon; omega
  have hd : (dayOf n : Int) = (doy n : Int) - (153 * (mon n : Int) + 2) / 5 + 1 := by unfold dayOf; omega
  unfold yearOf monthOf
  rw [hera]
  have hcond : (10 ≤ mon n) ↔ ((mon n : Int) ≥ 10) := by omega
  simp only [hcond]
  have bY : (0 : Int) ≤ yoe n ∧ (yoe n : Int) ≤ 399 := by omega
  have bS : (0 : Int) ≤ st (yoe n) ∧ (st (yoe n) : Int) ≤ 146096 := by omega
  have bI : (0 : Int) ≤ doy n ∧ (doy n : Int) ≤ 365 := by omega
  have bM : (0 : Int) ≤ mon n ∧ (mon n : Int) ≤ 11 := by omega
  have ob : (0 : Int) ≤ oday n ∧ (oday n : Int) ≤ 146096 := by omega
  clear f1 f2 f3 f4 fi fm fd0 fd1 hera hcond h0 h1
  generalize (dayOf n : Int) = D at *
  generalize (mon n : Int) = M at *
  generalize (doy n : Int) = I at *
  generalize (st (yoe n) : Int) = S at *
  generalize (yoe n : Int) = Y at *
  generalize (gq (oday n) : Int) = G at *
  generalize (oday n : Int) = o at *
  have e1 : wrap64 (Int.tdiv o 1460) = o / 1460 := by rw [tdiv_pos ob.1, w64 (by omega)]
  have e2 : wrap64 (o - o / 1460) = o - o / 1460 := w64 (by omega)
  have e3 : wrap64 (Int.tdiv o 36524) = o / 36524 := by rw [tdiv_pos ob.1, w64 (by omega)]
  have e4 : wrap64 (o - o / 1460 + o / 36524) = o - o / 1460 + o / 36524 := w64 (by omega)
  have e5 : wrap64 (Int.tdiv o 146096) = o / 146096 := by rw [tdiv_pos ob.1, w64 (by omega)]
  have e6 : wrap64 (o - o / 1460 + o / 36524 - o / 146096) = G := by rw [hg, w64 (by omega)]
  have e7 : wrap64 (Int.tdiv G 365) = Y := by rw [tdiv_pos (by omega), w64 (by omega), hy]
  have e8 : wrap64 (365 * Y) = 365 * Y := w64 (by omega)
  have e9 : wrap64 (Int.tdiv Y 4) = Y / 4 := by rw [tdiv_pos bY.1, w64 (by omega)]
  have e10 : wrap64 (365 * Y + Y / 4) = 365 * Y + Y / 4 := w64 (by omega)
  have e11 : wrap64 (Int.tdiv Y 100) = Y / 100 := by rw [tdiv_pos bY.1, w64 (by omega)]
  have e12 : wrap64 (365 * Y + Y / 4 - Y / 100) = S := by rw [hst, w64 (by omega)]
  have e13 : wrap64 (o - S) = I := by rw [hi, w64 (by omega)]
  have e14 : wrap64 (5 * I) = 5 * I := w64 (by omega)
  have e15 : wrap64 (5 * I + 2) = 5 * I + 2 := w64 (by omega)
  have e16 : wrap64 (Int.tdiv (5 * I + 2) 153) = M := by rw [tdiv_pos (by omega), w64 (by omega), hm]
  have e17 : wrap64 (153 * M) = 153 * M := w64 (by omega)
  have e18 : wrap64 (153 * M + 2) = 153 * M + 2 := w64 (by omega)
  have e19 : wrap64 (Int.tdiv (153 * M + 2) 5) = (153 * M + 2) / 5 := by rw [tdiv_pos (by omega), w64 (by omega)]
  have e20 : wrap64 (I - (153 * M + 2) / 5) = I - (153 * M + 2) / 5 := w64 (by omega)
  have e21 : wrap64 (I - (153 * M + 2) / 5 + 1) = D := by rw [hd, w64 (by omega)]
  have e22 : wrap64 (e * 400) = e * 400 := w64 (by omega)
  have e23 : wrap64 (Y + e * 400) = Y + e * 400 := w64 (by omega)
  have e24 : wrap64 (Y + e * 400 + 1) = Y + e * 400 + 1 := w64 (by omega)
  have e25 : wrap64 (M - 9) = M - 9 := w64 (by omega)
  have e26 : wrap64 (M + 3) = M + 3 := w64 (by omega)
  have e27 : wrap64 (Int.tdiv r 3600) = r / 3600 := by rw [tdiv_pos hrb.1, w64 (by omega)]
  have e28 : wrap64 (Int.tdiv r 60) = r / 60 := by rw [tdiv_pos hrb.1, w64 (by omega)]
  have e29 : Int.tmod (r / 60) 60 = r / 60 % 60 := tmod_pos (by omega)
  have e30 : Int.tmod r 60 = r % 60 := tmod_pos hrb.1
  simp only [e1, e2, e3, e4, e5, e6, e7, e8, e9, e10, e11, e12, e13, e14, e15, e16, e17, e18, e19, e20, e21, e22, e23, e24, e25, e26, e27, e28, e29, e30]
  by_cases h : M ≥ 10
  · rw [if_pos h, if_pos h, if_pos h]
  · rw [if_neg h, if_neg h, if_neg h, Int.add_zero]

/-! ### clock.Dos -/
theorem wraps_i64 (n : Int) (h₀ : 0 ≤ n) (h₁ : n < 2 ^ 62) : IntKind.i64.wrap n = n := by rw [IntKind.wrap_i64]; omega
theorem i64_join (i : Nat) (x y : Int) (hx₀ : 0 ≤ x) (hx : x % 2 ^ i = 0) (hx₁ : x < 4611686018427387904) (hy₀ : 0 ≤ y) (hy : y < 2 ^ i) (hy₁ : y < 4611686018427387904) : Go.bits .or .i64 x y = x + y :=
  bits_join .i64 62 (by decide) wraps_i64 i x y hx₀ hx hx₁ hy₀ hy hy₁
theorem i64_mask (i : Nat) (hi : i ≤ 62) (x : Int) (h₀ : 0 ≤ x) (h₁ : x < 4611686018427387904) : Go.bits .and .i64 x (2 ^ i - 1) = x % 2 ^ i :=
  bits_mask .i64 62 (by decide) wraps_i64 i hi x h₀ h₁
def dosS (s : Int) : Int := (code (s / 86400) - 1013760) * 65536 + s % 86400 / 3600 * 2048 + s % 86400 / 60 % 60 * 32 + s % 86400 % 60 / 2
theorem code_first : code 3652 = 1013793 := by decide +kernel
theorem code_last : code 50402 = 1079199 := by decide +kernel
theorem date_range {n : Int} (h0 : 3652 ≤ n) (h1 : n ≤ 50402) : 1980 ≤ yearOf n ∧ yearOf n ≤ 2107 := by
  have a := code_le h0
  have b := code_le h1
  rw [code_first] at a
  rw [code_last] at b
  have m := month_range n
  have d0 := day_pos n
  have d1 := day_le n
  unfold code at a b
  omega
theorem pack_eq (k : Nat) (s : Int) (hk : 1 ≤ k) (h0 : 315532800 ≤ s) (h1 : s ≤ 4354819199) :
    ((clock_Date.f k s).bind fun bt122 => (some (Go.bits .or .i64 (Go.bits .or .i64 (Go.bits .or .i64 (wrap64 ((Go.bits .or .i64 (Go.bits .or .i64 (wrap64 ((wrap64 (bt122.1 - 1980)) * 512)) (wrap64 (bt122.2.1 * 32))) bt122.2.2.1) * 65536)) (wrap64 (bt122.2.2.2.1 * 2048))) (wrap64 (bt122.2.2.2.2.1 * 32))) (wrap64 (Int.tdiv bt122.2.2.2.2.2 2))))) = some (dosS s) := by
  rw [Date_eq k s hk (by omega) (by omega), Option.bind_some]
  unfold dateOf dosS code
  obtain ⟨n, hn⟩ : ∃ n, s / 86400 = n := ⟨_, rfl⟩
  obtain ⟨r, hr⟩ : ∃ r, s % 86400 = r := ⟨_, rfl⟩
  obtain ⟨hy0, hy1⟩ := date_range (n := n) (by omega) (by omega)
  have hm := month_range n
  have hd0 := day_pos n
  have hd1 := day_le n
  have hrb : 0 ≤ r ∧ r < 86400 := by omega
  rw [hn, hr]
  clear hn hr h0 h1
  dsimp only
  have hd : (1 : Int) ≤ dayOf n ∧ (dayOf n : Int) ≤ 31 := by omega
  clear hd0 hd1
  generalize yearOf n = Y at *
  generalize monthOf n = M at *
  generalize (dayOf n : Int) = D at *
  have b1 : 0 ≤ r / 3600 ∧ r / 3600 ≤ 23 := by omega
  have b2 : 0 ≤ r / 60 % 60 ∧ r / 60 % 60 ≤ 59 := by omega
  have b3 : 0 ≤ r % 60 ∧ r % 60 ≤ 59 := by omega
  generalize r / 3600 = h at *
  generalize r / 60 % 60 = m at *
  generalize r % 60 = c at *
  rw [w64 (n := Y - 1980) (by omega), w64 (n := (Y - 1980) * 512) (by omega), w64 (n := M * 32) (by omega), i64_join 9 _ (M * 32) (by omega) (by omega) (by omega) (by omega) (by omega) (by omega),
    i64_join 5 _ D (by omega) (by omega) (by omega) (by omega) (by omega) (by omega), w64 (n := ((Y - 1980) * 512 + M * 32 + D) * 65536) (by omega), w64 (n := h * 2048) (by omega), w64 (n := m * 32) (by omega), tdiv_pos b3.1, w64 (n := c / 2) (by omega),
    i64_join 16 _ (h * 2048) (by omega) (by omega) (by omega) (by omega) (by omega) (by omega), i64_join 11 _ (m * 32) (by omega) (by omega) (by omega) (by omega) (by omega) (by omega), i64_join 5 _ (c / 2) (by omega) (by omega) (by omega) (by omega) (by omega) (by omega)]
  congr 1
  omega
theorem dosS_mono {s t : Int} (h : s ≤ t) : dosS s ≤ dosS t := by
  have hc : s / 86400 < t / 86400 ∨ (s / 86400 = t / 86400 ∧ s % 86400 ≤ t % 86400) := by omega
  unfold dosS
  have b1 : 0 ≤ s % 86400 ∧ s % 86400 < 86400 := by omega
  have b2 : 0 ≤ t % 86400 ∧ t % 86400 < 86400 := by omega
  rcases hc with hc | ⟨hc, hr⟩
  · have := code_lt hc
    generalize s % 86400 = r at *
    generalize t % 86400 = q at *
    generalize code (s / 86400) = x at *
    generalize code (t / 86400) = y at *
    omega
  · rw [hc]
    generalize s % 86400 = r at *
    generalize t % 86400 = q at *
    have e1 : r / 3600 = r / 60 / 60 := by omega
    have e2 : q / 3600 = q / 60 / 60 := by omega
    rw [e1, e2]
    have e3 : r / 60 ≤ q / 60 := by omega
    have e4 : r / 60 = q / 60 → r % 60 ≤ q % 60 := by omega
    have e5 : 0 ≤ r % 60 ∧ r % 60 < 60 := by omega
    have e6 : 0 ≤ q % 60 ∧ q % 60 < 60 := by omega
    have e7 : r / 60 / 60 * 2048 + r / 60 % 60 * 32 = r / 60 * 32 + r / 60 / 60 * 128 := by omega
    have e8 : q / 60 / 60 * 2048 + q / 60 % 60 * 32 = q / 60 * 32 + q / 60 / 60 * 128 := by omega
    have e9 : r / 60 / 60 ≤ q / 60 / 60 := by omega
    generalize r % 60 = c at *
    generalize q % 60 = d at *
    generalize r / 60 / 60 = u at *
    generalize q / 60 / 60 = v at *
    generalize r / 60 = a at *
    generalize q / 60 = b at *
    by_cases hab : a = b
    · have := e4 hab
      omega
    · omega
def dosOf (x : Nat) : Int := match key x with | none => 0 | some a => dosS (clampTo 315532800 4354819200 4354819199 a)
theorem dos_top : dosS 4354819198 = dosS 4354819199 := by decide +kernel
theorem Dos_eq (k x : Nat) (hk0 : 1 ≤ k) : clock_Dos.f k x = some (dosOf x) := by
  have hU := U_pos
  unfold clock_Dos.f dosOf
  cases hk : key x with
  | none => rw [if_pos (nan_ne hk)]
  | some a =>
    rw [if_neg (by rw [not_nan hk]; decide), ord_lt hk key_first, ord_ge hk key_last]
    dsimp only
    unfold clampTo
    by_cases h1 : a < 315532800 * U
    · rw [if_pos (decide_eq_true h1), if_pos h1]
      exact pack_eq k _ hk0 (by decide) (by decide)
    · rw [if_neg (by rw [decide_eq_false h1]; decide), if_neg h1]
      by_cases h2 : 4354819200 * U ≤ a
      · rw [if_pos (decide_eq_true h2), if_pos h2, ← dos_top]
        exact pack_eq k _ hk0 (by decide) (by decide)
      · obtain ⟨g1, g2, g3⟩ := floor_sec hk (by omega) (by omega)
        rw [if_neg (by rw [decide_eq_false h2]; decide), if_neg h2, floor_f hk, Option.bind_some, if_pos g2, g3]
        have g4 : 315532800 ≤ a / U := (Int.le_ediv_iff_mul_le hU).2 (by omega)
        have g5 : a / U < 4354819200 := (Int.ediv_lt_iff_lt_mul hU).2 (by omega)
        exact pack_eq k _ hk0 g4 (by omega)
theorem dosOf_mono {x y : Nat} {a b : Int} (hx : key x = some a) (hy : key y = some b) (h : a ≤ b) : dosOf x ≤ dosOf y := by
  unfold dosOf
  rw [hx, hy]
  exact dosS_mono (clamp_mono (by decide) (by decide) h)
theorem unixOf_mono {x y : Nat} {a b : Int} (hx : key x = some a) (hy : key y = some b) (h : a ≤ b) : unixOf x ≤ unixOf y := by
  unfold unixOf
  rw [hx, hy]
  exact clamp_mono (by decide) (by decide) h
end Go.Proofs.YtfmfikodnpnblaaDoor.ClkDateEq
/- What clock.Text and the document's Text come to: one text of a number of parts of 512. -/
namespace Go.Proofs.YtfmfikodnpnblaaDoor.ClkText
open Go.RowKit Go.Proofs Go.Proofs.YtfmfikodnpnblaaDoorW.PrintWords Go.Proofs.YtfmfikodnpnblaaDoor.PClk1 Go.Proofs.YtfmfikodnpnblaaDoor.ClkDate Go.Proofs.YtfmfikodnpnblaaDoor.ClkLib Go.Proofs.YtfmfikodnpnblaaDoor.ClkDays Go.Proofs.YtfmfikodnpnblaaDoor.Flt Go.Proofs.YtfmfikodnpnblaaDoor.FltClk Go.Proofs.YtfmfikodnpnblaaDoor.ClkFloat Go.Proofs.YtfmfikodnpnblaaDoor.Txt Go.Lib

theorem strOf_append (a b : List UInt8) : strOf a ++ strOf b = strOf (a ++ b) := by
  unfold strOf
  apply ByteArray.ext
  rw [ByteArray.data_append]
  simp
theorem strOf_size (l : List UInt8) : (strOf l).size = l.length := by show l.toArray.size = _; simp
theorem strOf_list (l : List UInt8) : (strOf l).data.toList = l := by show l.toArray.toList = l; simp
theorem strOf_self (s : ByteArray) : strOf s.data.toList = s := by unfold strOf; apply ByteArray.ext; simp
theorem nDigits_le : ∀ (k u : Nat), u < 10 ^ (k + 1) → nDigits u ≤ k + 1
  | 0, u, h => by rw [nDigits_small (by simpa using h)]; omega
  | k + 1, u, h => by
    by_cases hu : u < 10
    · rw [nDigits_small hu]; omega
    · rw [nDigits_big hu]
      have := nDigits_le k (u / 10) (by rw [Nat.pow_succ] at h; omega)
      omega
theorem dec_len {u : Nat} (h : u < 100000000000000000000) : (decDigits u).length ≤ 20 := by
  rw [decDigits_length]
  exact nDigits_le 19 u (by omega)
theorem itoa_nat (u : Nat) : Lib.itoa (u : Int) = decDigits u := by unfold Lib.itoa; rw [if_neg (by omega)]; simp
theorem Itoa_eq {n : Int} (h0 : 0 ≤ n) (h1 : n ≤ 9000000000000000000) : strconv_Itoa.f n = some (strOf (decDigits n.toNat)) := by
  obtain ⟨u, rfl⟩ := Int.eq_ofNat_of_zero_le h0
  unfold strconv_Itoa.f
  rw [if_pos (by omega), itoa_nat]
  simp

/-- the text of n parts of 512. -/
def absL (u : Nat) : List UInt8 := decDigits (u / 512) ++ (if u % 512 = 0 then [] else 46 :: Txt.tail 9 (u % 512))
def textL (n : Int) : List UInt8 := if n < 0 then 45 :: absL n.natAbs else absL n.natAbs
theorem tail_len : ∀ k r, (Txt.tail k r).length ≤ k
  | 0, _ => by simp [Txt.tail]
  | k + 1, r => by
    unfold Txt.tail
    split
    · simp
    · have := tail_len k (r * 10 % 512)
      simp only [List.length_cons]; omega
theorem extract_one (l : List UInt8) : (strOf l).extract 1 (strOf l).size = strOf (l.drop 1) := by
  apply ByteArray.ext
  rw [ByteArray.data_extract]
  unfold strOf
  apply Array.ext'
  simp [Array.toList_extract, ByteArray.size, List.extract]
  exact List.take_of_length_le (by simp)
theorem trimRight_eq (l : List UInt8) (h : l.length ≤ 100) : strings_TrimRight.f (strOf l) (⟨#[48]⟩ : ByteArray) = some (strOf (trimRightB l 48)) := by
  show (if _ ∧ (strOf l).size ≤ _ then some (strOf (Lib.trimRightB (strOf l).data.toList 48)) else _) = _
  rw [if_pos ⟨by decide, by rw [strOf_size]; omega⟩, strOf_list]
theorem trim_tail {r : Nat} (h : r < 512) : trimRightB (nine (r * 1953125)) 48 = Txt.tail 9 r := by
  have := List.all_eq_true.1 Txt.all r (List.mem_range.2 h)
  exact eq_of_beq this
theorem nine_len (n : Nat) : (nine n).length = 9 := by unfold nine; simp
/-- the whole of it, behind a front. -/
theorem Text_j (k : Nat) (u : Nat) (f : List UInt8) (hk : 1 ≤ k) (hu : u ≤ 4398046511104) (hf : f.length ≤ 1) : clock_Text.j0 k (u : Int) (strOf f) = some (strOf (f ++ absL u)) := by
  obtain ⟨k, rfl⟩ : ∃ j, k = j + 1 := ⟨k - 1, by omega⟩
  have e1 : Int.tdiv (u : Int) 512 = ((u / 512 : Nat) : Int) := by rw [tdiv_pos (by omega)]; omega
  have e2 : Int.tmod (u : Int) 512 = ((u % 512 : Nat) : Int) := by rw [tmod_pos (by omega)]; omega
  have hl := dec_len (u := u / 512) (by omega)
  rw [clock_Text.j0, e1, e2, w64 (n := ((u / 512 : Nat) : Int)) (by omega), Itoa_eq (by omega) (by omega), Option.bind_some, Int.toNat_natCast, strOf_size, strOf_size, if_pos (by omega), strOf_append]
  unfold absL
  by_cases h : u % 512 = 0
  · rw [if_pos (by omega), if_pos h, List.append_nil]
  · have hr : u % 512 < 512 := Nat.mod_lt _ (by decide)
    rw [if_neg (by omega), if_neg h]
    have e3 : wrap64 (1000000000 + wrap64 (((u % 512 : Nat) : Int) * 1953125)) = ((1000000000 + u % 512 * 1953125 : Nat) : Int) := by
      rw [w64 (n := ((u % 512 : Nat) : Int) * 1953125) (by omega), w64 (by omega)]; omega
    rw [e3, Itoa_eq (by omega) (by omega), Option.bind_some, Int.toNat_natCast, strOf_size]
    have hn : 1 ≤ (decDigits (1000000000 + u % 512 * 1953125)).length := by rw [decDigits_length]; exact nDigits_pos _
    have hn2 := dec_len (u := 1000000000 + u % 512 * 1953125) (by omega)
    have hs : ((strOf (f ++ decDigits (u / 512))).size) ≤ 21 := by rw [strOf_size, List.length_append]; omega
    have hx := extract_one (decDigits (1000000000 + u % 512 * 1953125))
    rw [strOf_size] at hx
    rw [if_pos (by omega), if_pos (by omega), hx, nine_is _ (by omega), trimRight_eq _ (by rw [nine_len]; omega), trim_tail hr, Option.bind_some]
    have ht := tail_len 9 (u % 512)
    have e4 : (⟨#[46]⟩ : ByteArray) = strOf [46] := rfl
    rw [e4, strOf_append, strOf_append, strOf_size, strOf_size, if_pos (by simp only [List.length_append, List.length_cons, List.length_nil]; omega)]
    simp
theorem Text_eq (k x : Nat) (hk : 1 ≤ k) : clock_Text.f k x = some (strOf (textL (parts x))) := by
  obtain ⟨r, hr, hr1, hr2⟩ := Fine_eq x
  have hb := parts_bound x
  have hV := V_pos
  have hs : (parts x * V).natAbs < Flt.p2 1200 := by
    have e := edge_v
    have h1 : -(4398046511104 * V) ≤ parts x * V := by
      have := Int.mul_le_mul_of_nonneg_right hb.1 (show 0 ≤ V by omega)
      omega
    have h2 : parts x * V ≤ 4398046511104 * V := Int.mul_le_mul_of_nonneg_right hb.2 (show 0 ≤ V by omega)
    exact abs_small (by omega) (by omega)
  obtain ⟨m, hm, hmk⟩ := key_mul512 hr1 hs
  have hm' := fop_of (op := .mul) hm
  rw [show parts x * V * 512 = parts x * U by rw [U_V, Int.mul_assoc]] at hmk
  obtain ⟨g1, g2⟩ := fint_key hmk (by omega)
  unfold clock_Text.f textL
  rw [hr, Option.bind_some, lit_512, if_pos hm'.1, hm'.2, if_pos g1, g2]
  by_cases h : parts x < 0
  · rw [if_pos h, if_pos h, w64 (by omega), show -parts x = ((parts x).natAbs : Int) by omega]
    exact Text_j k _ [45] hk (by omega) (by decide)
  · rw [if_neg h, if_neg h]
    conv => lhs; rw [show parts x = ((parts x).natAbs : Int) by omega]
    exact Text_j k _ [] hk (by omega) (by decide)
end Go.Proofs.YtfmfikodnpnblaaDoor.ClkText
/- What clock.Parse comes to, in plain terms: a text's sign, its digits, the digits behind a point. -/
namespace Go.Proofs.YtfmfikodnpnblaaDoor.ClkParse
open Go.RowKit Go.Proofs Go.Proofs.YtfmfikodnpnblaaDoorW.PrintWords Go.Proofs.YtfmfikodnpnblaaDoor.PClk1 Go.Proofs.YtfmfikodnpnblaaDoor.ClkDate Go.Proofs.YtfmfikodnpnblaaDoor.ClkLib Go.Proofs.YtfmfikodnpnblaaDoor.ClkDays Go.Proofs.YtfmfikodnpnblaaDoor.Flt Go.Proofs.YtfmfikodnpnblaaDoor.FltClk Go.Proofs.YtfmfikodnpnblaaDoor.ClkFloat Go.Proofs.YtfmfikodnpnblaaDoor.ClkText Go.Proofs.YtfmfikodnpnblaaDoor.ClkParts Go.Proofs.YtfmfikodnpnblaaDoor.ClkPartsP Go.Proofs.YtfmfikodnpnblaaDoor.ClkAtoiClk1
open Go.Proofs.YtfmfikodnpnblaaDoor.PaxSem (isD dval isD_iff dval_snoc)
open Go.Proofs.YtfmfikodnpnblaaDoor.Base (toList_eq)

/-! ### digits' values -/
theorem foldl_val : ∀ (l : List UInt8) (a : Nat), l.foldl (fun v c => v * 10 + (c.toNat - 48)) a = a * 10 ^ l.length + val (l.map fun b => b.toNat - 48)
  | [], a => by simp [val]
  | c :: l, a => by
    rw [List.foldl_cons, foldl_val l, List.map_cons, val, List.length_map, List.length_cons, Nat.pow_succ, Nat.add_mul, Nat.mul_assoc, Nat.mul_comm 10, Nat.add_assoc]
theorem dval_val (l : List UInt8) : dval l = val (l.map fun b => b.toNat - 48) := by
  unfold dval
  rw [foldl_val, Nat.zero_mul, Nat.zero_add]
theorem map_lt {l : List UInt8} (h : l.all isD = true) : ∀ d ∈ l.map (fun b => b.toNat - 48), d < 10 := by
  intro d hd
  obtain ⟨b, hb, rfl⟩ := List.mem_map.1 hd
  have := (isD_iff b).1 (List.all_eq_true.1 h b hb)
  omega
theorem dval_lt {l : List UInt8} (h : l.all isD = true) : dval l < 10 ^ l.length := by
  have := val_lt _ (map_lt h)
  rw [dval_val]
  simpa using this
theorem dval_drop (l : List UInt8) : dval (l.dropWhile (· == 48)) = dval l := by
  induction l with
  | nil => rfl
  | cons c l ih =>
    rw [List.dropWhile_cons]
    split
    · rename_i h
      have : c = 48 := eq_of_beq h
      subst this
      rw [ih]
      rfl
    · rfl
theorem dval_big {l : List UInt8} (h : l.all isD = true) (h0 : l.dropWhile (· == 48) = l) (hl : 10 < l.length) : 10000000000 ≤ dval l := by
  cases l with
  | nil => simp at hl
  | cons c l =>
    rw [List.dropWhile_cons] at h0
    have hc : c ≠ 48 := by
      intro e
      subst e
      rw [if_pos (by rfl)] at h0
      have h1 := congrArg List.length h0
      have h2 := (List.dropWhile_sublist (p := (· == (48 : UInt8))) (l := l)).length_le
      simp only [List.length_cons] at h1
      omega
    have hd := (isD_iff c).1 (List.all_eq_true.1 h c (List.mem_cons_self ..))
    have h49 : 49 ≤ c.toNat := by
      rcases Nat.lt_or_ge c.toNat 49 with h' | h'
      · exact absurd (UInt8.toNat_inj.1 (show c.toNat = (48 : UInt8).toNat by show _ = 48; omega)) hc
      · exact h'
    rw [dval_val, List.map_cons, val, List.length_map]
    simp only [List.length_cons] at hl
    have h5 : 10 ^ 10 ≤ 10 ^ l.length := Nat.pow_le_pow_right (by omega) (by omega)
    have h6 : 1 * 10 ^ l.length ≤ (c.toNat - 48) * 10 ^ l.length := Nat.mul_le_mul_right _ (by omega)
    omega

/-! ### what a text means -/
/-- digits w, digits p behind a point. -/
def fin (neg : Bool) (w p : List UInt8) : Int × Int :=
  if dval w > 8589934592 ∨ (dval w = 8589934592 ∧ dval p > 0) then (0, 7) else
  (if neg then -((dval w * 512 + 512 * dval p / 10 ^ p.length + if 512 * dval p % 10 ^ p.length ≠ 0 then 1 else 0 : Nat) : Int) else ((dval w * 512 + 512 * dval p / 10 ^ p.length : Nat) : Int), 0)
def head (b : List UInt8) : List UInt8 := b.takeWhile (· != 46)
def rest (b : List UInt8) : List UInt8 := b.dropWhile (· != 46)
def okForm (b : List UInt8) : Bool := (head b).all isD && (head b != []) && (rest b == [] || ((rest b).drop 1).all isD && ((rest b).drop 1 != []))
def parseB (neg : Bool) (b : List UInt8) : Int × Int := if okForm b then fin neg (head b) ((rest b).drop 1) else (0, 2)
def parseL : List UInt8 → Int × Int
  | [] => parseB false []
  | c :: t => if c = 45 then parseB true t else parseB false (c :: t)

/-! ### the pieces -/
theorem cutPrefix_eq (l : List UInt8) : strings_CutPrefix.f (strOf l) (⟨#[45]⟩ : ByteArray) = some (match l with | [] => (strOf [], false) | c :: t => if c = 45 then (strOf t, true) else (strOf (c :: t), false)) := by
  have h1 : ((⟨#[45]⟩ : ByteArray).size : Int) = 1 := rfl
  have h2 : (⟨#[45]⟩ : ByteArray).toList = [45] := by rw [toList_eq]
  unfold strings_CutPrefix.f stringslite_CutPrefix.f stringslite_HasPrefix.f
  rw [h1, h2, strOf_size]
  cases l with
  | nil => rfl
  | cons c t =>
    simp only [List.length_cons]
    have e1 : ((strOf (c :: t)).extract 0 ((1 : Int)).toNat).toList = [c] := by
      rw [toList_eq, ByteArray.data_extract]
      simp [strOf, List.extract]
    have e2 : (strOf (c :: t)).extract ((1 : Int)).toNat (strOf (c :: t)).size = strOf t := extract_one (c :: t)
    rw [strOf_size, List.length_cons] at e2
    rw [if_pos (by omega), if_pos (by omega), if_pos (by omega), e1, Option.bind_some]
    by_cases hc : c = 45
    · subst hc
      rw [if_pos (by rfl), if_pos (by omega), if_pos (by omega), e2, Option.bind_some, if_pos rfl]
    · have : ([c] == [(45 : UInt8)]) = false := by rw [beq_eq_false_iff_ne]; simpa using hc
      rw [this, if_neg (by decide), Option.bind_some, if_neg hc]
theorem index_eq (b : List UInt8) : Lib.indexByte b 46 = if rest b = [] then -1 else ((head b).length : Int) := by
  induction b with
  | nil => rfl
  | cons c t ih =>
    rw [Lib.indexByte]
    unfold head rest at ih ⊢
    rw [List.takeWhile_cons, List.dropWhile_cons]
    by_cases hc : c = 46
    · subst hc
      rfl
    · have h1 : (c == 46) = false := by rw [beq_eq_false_iff_ne]; exact hc
      have h2 : (c != 46) = true := by rw [bne, h1]; rfl
      rw [h1, if_neg (by decide), h2, if_pos rfl, if_pos rfl, ih]
      by_cases hr : t.dropWhile (· != 46) = []
      · rw [if_pos hr, if_pos hr]; rfl
      · rw [if_neg hr, if_neg hr, if_neg (by rw [beq_iff_eq]; omega), List.length_cons]; omega
theorem head_rest (b : List UInt8) : head b ++ rest b = b := List.takeWhile_append_dropWhile
theorem rest_head {b : List UInt8} {c : UInt8} {t : List UInt8} (h : rest b = c :: t) : c = 46 := by
  have := List.head_dropWhile_not (p := (· != (46 : UInt8))) (l := b) (by show rest b ≠ []; rw [h]; simp)
  simp only [show b.dropWhile (· != (46 : UInt8)) = c :: t from h, List.head_cons] at this
  simpa using this
theorem cut_eq (b : List UInt8) (h : b.length ≤ 1000) : strings_Cut.f (strOf b) (⟨#[46]⟩ : ByteArray) = some (strOf (head b), strOf ((rest b).drop 1), rest b != []) := by
  show (if (strOf b).size ≤ _ then some (cutAt (strOf b) 46) else _) = _
  rw [strOf_size, if_pos (by omega)]
  unfold cutAt
  rw [strOf_list, index_eq]
  have hb := head_rest b
  by_cases hr : rest b = []
  · rw [if_pos hr, if_neg (by decide), hr]
    rw [hr, List.append_nil] at hb
    rw [hb]; rfl
  · have e : (rest b != []) = true := by simpa using hr
    rw [if_neg hr, if_pos (by omega), e]
    congr 2
    · apply ByteArray.ext
      rw [ByteArray.data_extract]
      apply Array.ext'
      have e3 : (head b ++ rest b).take (head b).length = head b := List.take_left' rfl
      rw [hb] at e3
      simp [strOf, List.extract, e3]
    · congr 1
      apply ByteArray.ext
      rw [ByteArray.data_extract]
      apply Array.ext'
      rw [strOf_size]
      have : ((head b).length : Int) + 1 = (((head b).length + 1 : Nat) : Int) := by omega
      rw [this, Int.toNat_natCast]
      have e2 : (strOf b).data.toList = head b ++ rest b := by rw [strOf_list, hb]
      rw [Array.toList_extract, e2, List.extract]
      rw [List.drop_append, List.drop_of_length_le (by omega), List.nil_append, show (head b).length + 1 - (head b).length = 1 by omega]
      rw [List.take_of_length_le]
      · simp [strOf]
      · have := congrArg List.length hb
        simp only [List.length_append, List.length_drop] at this ⊢
        omega
theorem size_len (s : ByteArray) : s.size = s.data.toList.length := Lib.size_eq s
theorem bt_mid {s : ByteArray} {p r : List UInt8} {c : UInt8} (h : s.data.toList = p ++ c :: r) : bt s (p.length : Int) = (c.toNat : Int) := by
  have hl : p.length < s.size := by rw [size_len, h]; simp
  unfold bt
  rw [dif_pos (by simpa using hl)]
  have : s[((p.length : Nat) : Int).toNat]'(by simpa using hl) = c := by
    have e : s[((p.length : Nat) : Int).toNat]'(by simpa using hl) = s.data.toList[p.length]'(by rw [← size_len]; exact hl) := rfl
    rw [e]
    simp only [h, List.getElem_append_right (Nat.le_refl _), Nat.sub_self, List.getElem_cons_zero]
  rw [this]
theorem digits_l (s : ByteArray) (hs : s.size ≤ 1000) : ∀ (r p : List UInt8) (k : Nat), s.data.toList = p ++ r → r.length < k → clock_digits.l0 k s (s.size : Int) (p.length : Int) = some (r.all isD && s.data.toList != [])
  | [], p, k + 1, hp, hk => by
    have hz : s.size = p.length := by rw [size_len, hp]; simp
    rw [clock_digits.l0, if_neg (by omega), toList_eq]
    simp
  | c :: r, p, k + 1, hp, hk => by
    have hz : s.size = p.length + (r.length + 1) := by rw [size_len, hp]; simp
    have hb := bt_mid hp
    have hpe : s.data.toList = (p ++ [c]) ++ r := by rw [hp]; simp
    have hi1 : wrap64 ((p.length : Int) + 1) = ((p ++ [c]).length : Int) := by rw [w64 (by omega)]; simp
    rw [clock_digits.l0, if_pos (by omega), if_pos (by omega), if_pos (by omega), hb, List.all_cons]
    by_cases hD : isD c = true
    · have hd := (isD_iff c).1 hD
      rw [if_neg (by omega), if_neg (by omega), hi1, hD, Bool.true_and]
      exact digits_l s hs r (p ++ [c]) k hpe (by simp at hk; omega)
    · have hf : isD c = false := by simpa using hD
      have hd : ¬ (48 ≤ c.toNat ∧ c.toNat ≤ 57) := fun h => hD ((isD_iff c).2 h)
      rw [hf, Bool.false_and, Bool.false_and]
      by_cases h48 : (c.toNat : Int) < 48
      · rw [if_pos h48]
      · rw [if_neg h48, if_pos (by omega)]
theorem digits_eq (k : Nat) (l : List UInt8) (hl : l.length ≤ 1000) (hk : l.length < k) : clock_digits.f k (strOf l) = some (l.all isD && l != []) := by
  have h := digits_l (strOf l) (by rw [strOf_size]; exact hl) l [] k (by rw [strOf_list]; rfl) hk
  rw [strOf_list] at h
  exact h
theorem parts_eq (p : List UInt8) (hp : p.all isD = true) (hl : p.length ≤ 1000) : clock_parts.f (strOf p) = some (((512 * dval p / 10 ^ p.length : Nat) : Int), decide (512 * dval p % 10 ^ p.length ≠ 0)) := by
  unfold clock_parts.f digs
  rw [strOf_list, strOf_size, if_pos ⟨fun b hb => (isD_iff b).1 (List.all_eq_true.1 hp b hb), by omega⟩]
  obtain ⟨h1, h2⟩ := rounds_nine _ (map_lt hp)
  rw [h1, h2, List.length_map, ← dval_val]
theorem trimLeft_eq (l : List UInt8) : strings_TrimLeft.f (strOf l) (⟨#[48]⟩ : ByteArray) = some (strOf (l.dropWhile (· == 48))) := by
  show (if (48 : UInt8).toNat < 128 then some (strOf (Lib.trimLeftB (strOf l).data.toList 48)) else none) = _
  rw [if_pos (by decide), strOf_list]
  rfl
theorem decFrom_eq : ∀ (l : List UInt8) (a : Nat), l.all isD = true → Lib.decFrom a l = some (l.foldl (fun v c => v * 10 + (c.toNat - 48)) a)
  | [], a, _ => rfl
  | c :: l, a, h => by
    rw [List.all_cons, Bool.and_eq_true] at h
    have hd := (isD_iff c).1 h.1
    rw [Lib.decFrom, Lib.digitVal, if_pos hd, List.foldl_cons]
    exact decFrom_eq l _ h.2
theorem atoi_eq (t : List UInt8) (h : t.all isD = true) (hl : t.length ≤ 10) : strconv_Atoi.f ((⟨#[48]⟩ : ByteArray) ++ strOf t) = some ((dval t : Int), none) := by
  have e : (⟨#[48]⟩ : ByteArray) ++ strOf t = strOf (48 :: t) := by
    rw [show (⟨#[48]⟩ : ByteArray) = strOf [48] from rfl, strOf_append]; rfl
  unfold strconv_Atoi.f
  rw [e, strOf_size, strOf_list, if_pos (by simp only [List.length_cons]; omega), Lib.atoi, if_neg (by decide), if_neg (by decide), Lib.decNat, if_neg (by simp), decFrom_eq (48 :: t) 0 (by rw [List.all_cons, h]; rfl)]
  rfl

/-! ### the end of it -/
theorem zero512 : Is512 0 0 := ⟨by rw [key_zero, Int.zero_mul], fun _ => rfl⟩
theorem j2_eq (k : Nat) (neg : Bool) (m : Nat) (more : Bool) (hk : 1 ≤ k) (hm : m ≤ 4398046511104) (hmn : more = true → neg = true) :
    ∃ r, clock_Parse.j2 k neg (m : Int) more = some (r, 0) ∧ Is512 r (if neg then -((m + if more then 1 else 0 : Nat) : Int) else (m : Int)) := by
  obtain ⟨k, rfl⟩ : ∃ j, k = j + 1 := ⟨k - 1, by omega⟩
  rw [clock_Parse.j2, lit_512]
  cases more with
  | true =>
    obtain rfl := hmn rfl
    obtain ⟨r, h1, h2, h3⟩ := int512 (-((m + 1 : Nat) : Int)) (by omega)
    rw [if_pos rfl, if_pos rfl, w64 (n := (m : Int) + 1) (by omega), w64 (n := -((m : Int) + 1)) (by omega), show -((m : Int) + 1) = -((m + 1 : Nat) : Int) by omega, if_pos h1, h2]
    exact ⟨r, rfl, h3⟩
  | false =>
    rw [if_neg (by decide)]
    cases neg with
    | true =>
      obtain ⟨r, h1, h2, h3⟩ := int512 (-(m : Int)) (by omega)
      rw [if_pos rfl, w64 (n := -(m : Int)) (by omega), if_pos h1, h2]
      exact ⟨r, rfl, h3⟩
    | false =>
      obtain ⟨r, h1, h2, h3⟩ := int512 (m : Int) (by omega)
      rw [if_neg (by decide), if_pos h1, h2]
      exact ⟨r, rfl, h3⟩
theorem frac_lt {p : List UInt8} (hp : p.all isD = true) : 512 * dval p / 10 ^ p.length < 512 := by
  have h := dval_lt hp
  exact Nat.div_lt_of_lt_mul (by rw [Nat.mul_comm (10 ^ p.length)]; exact (Nat.mul_lt_mul_left (by omega)).2 h)
theorem frac_pos (p : List UInt8) (hp : p.all isD = true) : dval p > 0 ↔ (512 * dval p / 10 ^ p.length > 0 ∨ 512 * dval p % 10 ^ p.length ≠ 0) := by
  have h := Nat.div_add_mod (512 * dval p) (10 ^ p.length)
  constructor
  · intro h0
    rcases Nat.eq_zero_or_pos (512 * dval p / 10 ^ p.length) with h1 | h1
    · right; rw [h1, Nat.mul_zero] at h; omega
    · left; exact h1
  · intro h0
    rcases Nat.eq_zero_or_pos (dval p) with h1 | h1
    · rw [h1] at h0; simp at h0
    · exact h1
theorem j1_eq (k : Nat) (neg : Bool) (w p : List UInt8) (hw : dval w < 10000000000) (hp : p.all isD = true) (hk : 2 ≤ k) (hb : ¬ (dval w > 8589934592 ∨ (dval w = 8589934592 ∧ dval p > 0))) :
    ∃ r, clock_Parse.j1 k neg ((512 * dval p / 10 ^ p.length : Nat) : Int) (decide (512 * dval p % 10 ^ p.length ≠ 0)) (dval w : Int) false = some (r, (fin neg w p).2) ∧ Is512 r (fin neg w p).1 := by
  obtain ⟨k, rfl⟩ : ∃ j, k = j + 1 := ⟨k - 1, by omega⟩
  have hf := frac_lt hp
  have hfp := frac_pos p hp
  unfold fin
  rw [if_neg hb, clock_Parse.j1, if_neg (by decide)]
  have hz : dval w = 8589934592 → dval p = 0 := fun h => by
    rcases Nat.eq_zero_or_pos (dval p) with h1 | h1
    · exact h1
    · exact absurd (.inr ⟨h, h1⟩) hb
  have hz2 : dval w = 8589934592 → 512 * dval p / 10 ^ p.length = 0 := fun h => by rw [hz h]; simp
  generalize hF : 512 * dval p / 10 ^ p.length = F at *
  generalize 512 * dval p % 10 ^ p.length = R at *
  have e1 : wrap64 (wrap64 ((dval w : Int) * 512) + (F : Int)) = ((dval w * 512 + F : Nat) : Int) := by
    rw [w64 (n := (dval w : Int) * 512) (by omega), w64 (by omega)]; omega
  have hm : dval w * 512 + F ≤ 4398046511104 := by
    rcases Nat.lt_or_ge (dval w) 8589934592 with h | h
    · omega
    · have : dval w = 8589934592 := by omega
      have := hz2 this
      omega
  rw [e1]
  dsimp only
  cases neg with
  | true =>
    obtain ⟨r, h1, h2⟩ := j2_eq k true (dval w * 512 + F) (decide (R ≠ 0)) (by omega) hm (fun _ => rfl)
    refine ⟨r, by rw [if_pos rfl]; exact h1, ?_⟩
    rw [if_pos rfl] at h2 ⊢
    by_cases hR : R ≠ 0
    · rw [if_pos hR]; rw [if_pos (decide_eq_true hR)] at h2; exact h2
    · rw [if_neg hR]; rw [if_neg (by rw [decide_eq_false hR]; decide)] at h2; exact h2
  | false =>
    obtain ⟨r, h1, h2⟩ := j2_eq k false (dval w * 512 + F) false (by omega) hm (fun h => by cases h)
    refine ⟨r, by rw [if_neg (by decide)]; exact h1, ?_⟩
    rw [if_neg (by decide)] at h2 ⊢
    exact h2
theorem j0_eq (k : Nat) (neg : Bool) (w p : List UInt8) (hw : w.all isD = true) (hp : p.all isD = true) (hpl : p.length ≤ 1000) (hk : 3 ≤ k) :
    ∃ r, clock_Parse.j0 k neg (strOf w) (strOf p) false = some (r, (fin neg w p).2) ∧ Is512 r (fin neg w p).1 := by
  obtain ⟨k, rfl⟩ : ∃ j, k = j + 2 := ⟨k - 2, by omega⟩
  have hfp := frac_pos p hp
  rw [clock_Parse.j0, if_neg (by decide), parts_eq p hp hpl, Option.bind_some, trimLeft_eq, Option.bind_some, strOf_size]
  have hd := dval_drop w
  have hta : (w.dropWhile (· == 48)).all isD = true := List.all_eq_true.2 fun x hx => List.all_eq_true.1 hw x ((List.dropWhile_sublist _).subset hx)
  have htt : (w.dropWhile (· == 48)).dropWhile (· == 48) = w.dropWhile (· == 48) := by
    cases h : w.dropWhile (· == 48) with
    | nil => rfl
    | cons c t =>
      have := List.head_dropWhile_not (p := (· == (48 : UInt8))) (l := w) (by rw [h]; simp)
      simp only [h, List.head_cons] at this
      rw [List.dropWhile_cons, this, if_neg (by decide)]
  have big : ∀ n x, ∃ r, clock_Parse.j1 (k + 1) neg n x (dval w : Int) true = some (r, 7) ∧ Is512 r 0 := fun n x => ⟨0, by rw [clock_Parse.j1, if_pos rfl], zero512⟩
  by_cases h10 : ((w.dropWhile (· == 48)).length : Int) > 10
  · have hbig := dval_big hta htt (by omega)
    rw [hd] at hbig
    rw [if_pos h10]
    unfold fin
    rw [if_pos (.inl (by omega))]
    exact ⟨0, rfl, zero512⟩
  · have hlt := dval_lt hta
    have hle : dval w < 10000000000 := by
      have h5 : 10 ^ (w.dropWhile (· == 48)).length ≤ 10 ^ 10 := Nat.pow_le_pow_right (by omega) (by omega)
      rw [hd] at hlt
      omega
    rw [if_neg h10, if_pos (by omega), atoi_eq _ hta (by omega), Option.bind_some, hd]
    dsimp only
    by_cases h1 : (dval w : Int) > 8589934592
    · rw [if_pos h1]
      have : fin neg w p = (0, 7) := by unfold fin; rw [if_pos (.inl (by omega))]
      rw [this]
      exact big _ _
    · rw [if_neg h1]
      by_cases h2 : (dval w : Int) = 8589934592
      · rw [if_pos h2]
        by_cases h3 : (((512 * dval p / 10 ^ p.length : Nat) : Int)) > 0
        · rw [if_pos h3]
          have : fin neg w p = (0, 7) := by unfold fin; rw [if_pos (.inr ⟨by omega, hfp.2 (.inl (by omega))⟩)]
          rw [this]
          exact big _ _
        · rw [if_neg h3]
          by_cases h4 : 512 * dval p % 10 ^ p.length ≠ 0
          · have : fin neg w p = (0, 7) := by unfold fin; rw [if_pos (.inr ⟨by omega, hfp.2 (.inr h4)⟩)]
            rw [this, decide_eq_true h4]
            exact big _ _
          · have hj := j1_eq (k + 1) neg w p hle hp (by omega) (by
              rintro (h | ⟨_, h⟩)
              · omega
              · rcases hfp.1 h with h | h
                · omega
                · exact h4 h)
            rw [decide_eq_false h4] at hj ⊢
            exact hj
      · rw [if_neg h2]
        exact j1_eq (k + 1) neg w p hle hp (by omega) (by rintro (h | ⟨h, _⟩) <;> omega)
theorem Parse_b (k : Nat) (neg : Bool) (b : List UInt8) (hb : b.length ≤ 1000) (hk : b.length + 3 ≤ k) :
    ∃ r, ((strings_Cut.f (strOf b) (⟨#[46]⟩ : ByteArray)).bind fun bt106 => ((clock_digits.f k bt106.1).bind fun t109 => (if t109 = true then (if bt106.2.2 = true then ((clock_digits.f k bt106.2.1).bind fun t110 => (clock_Parse.j0 k neg bt106.1 bt106.2.1 (!t110))) else (clock_Parse.j0 k neg bt106.1 bt106.2.1 false)) else (clock_Parse.j0 k neg bt106.1 bt106.2.1 true))))
      = some (r, (parseB neg b).2) ∧ Is512 r (parseB neg b).1 := by
  have hl := congrArg List.length (head_rest b)
  rw [List.length_append] at hl
  have hdl : ((rest b).drop 1).length ≤ (rest b).length := by simp
  have bad : ∀ w p, ∃ r, clock_Parse.j0 k neg w p true = some (r, 2) ∧ Is512 r 0 := fun w p => by
    obtain ⟨k, rfl⟩ : ∃ j, k = j + 1 := ⟨k - 1, by omega⟩
    exact ⟨0, by rw [clock_Parse.j0, if_pos rfl], zero512⟩
  rw [cut_eq b hb, Option.bind_some]
  dsimp only
  rw [digits_eq k _ (by omega) (by omega), Option.bind_some]
  unfold parseB okForm
  by_cases h1 : ((head b).all isD && head b != []) = true
  · rw [if_pos h1, h1, Bool.true_and]
    rw [Bool.and_eq_true] at h1
    by_cases h2 : rest b = []
    · have e : (rest b != []) = false := by rw [h2]; rfl
      rw [e, if_neg (by decide), h2]
      exact j0_eq k neg (head b) [] h1.1 rfl (by simp) (by omega)
    · have e : (rest b != []) = true := by simpa using h2
      have e' : (rest b == []) = false := by simpa using h2
      rw [e, e', if_pos rfl, digits_eq k _ (by omega) (by omega), Option.bind_some, Bool.false_or]
      by_cases h3 : (((rest b).drop 1).all isD && (rest b).drop 1 != []) = true
      · rw [h3, if_pos rfl]
        rw [Bool.and_eq_true] at h3
        exact j0_eq k neg (head b) ((rest b).drop 1) h1.1 h3.1 (by omega) (by omega)
      · have h3' : (((rest b).drop 1).all isD && (rest b).drop 1 != []) = false := by simpa using h3
        rw [h3', if_neg (by decide)]
        exact bad _ _
  · have h1' : ((head b).all isD && head b != []) = false := by simpa using h1
    rw [if_neg h1, h1', Bool.false_and, if_neg (by decide)]
    exact bad _ _
theorem Parse_eq (k : Nat) (l : List UInt8) (hl : l.length ≤ 1000) (hk : l.length + 3 ≤ k) : ∃ r, clock_Parse.f k (strOf l) = some (r, (parseL l).2) ∧ Is512 r (parseL l).1 := by
  unfold clock_Parse.f
  rw [cutPrefix_eq]
  cases l with
  | nil => exact Parse_b k false [] (by simp) (by simpa using hk)
  | cons c t =>
    unfold parseL
    dsimp only
    simp only [List.length_cons] at hl hk
    by_cases hc : c = 45
    · rw [if_pos hc, if_pos hc]
      exact Parse_b k true t (by omega) (by omega)
    · rw [if_neg hc, if_neg hc]
      exact Parse_b k false (c :: t) (by simp only [List.length_cons]; omega) (by simp only [List.length_cons]; omega)
end Go.Proofs.YtfmfikodnpnblaaDoor.ClkParse
