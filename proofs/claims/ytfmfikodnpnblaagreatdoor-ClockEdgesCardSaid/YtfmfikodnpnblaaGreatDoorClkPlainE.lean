/- Times, days, dates and their seconds, plainly; what the printed functions on them, the program's and the document's, come to. -/
import Derived.Test.YtfmfikodnpnblaaGreatDoorPClk1x
import Derived.Test.YtfmfikodnpnblaaGreatDoorPClkBx
import Derived.Test.YtfmfikodnpnblaaGreatDoorPClkRx
import Derived.Test.YtfmfikodnpnblaaGreatDoorPClkQx
import Derived.Test.YtfmfikodnpnblaaGreatDoorPClkEx
import Derived.Test.YtfmfikodnpnblaaGreatDoorClkTold
import Derived.Test.YtfmfikodnpnblaaGreatDoorFlt
set_option linter.unusedVariables false
set_option linter.unusedSimpArgs false
namespace Go.Proofs.YtfmfikodnpnblaaGreatDoor.Civil

def gq (o : Nat) : Nat := o - o / 1460 + o / 36524 - o / 146096
def st (y : Nat) : Nat := 365 * y + y / 4 - y / 100
theorem gq_step (o : Nat) (h : o < 146096) : gq o ≤ gq (o + 1) := by
  unfold gq
  by_cases h1 : o + 1 = 146096
  · obtain rfl : o = 146095 := by omega
    decide
  · omega
theorem gq_mono (o : Nat) : ∀ k : Nat, o + k ≤ 146096 → gq o ≤ gq (o + k)
  | 0, _ => Nat.le_refl _
  | k + 1, h => Nat.le_trans (gq_mono o k (by omega)) (gq_step (o + k) (by omega))
theorem gq_le {a b : Nat} (h : a ≤ b) (hb : b ≤ 146096) : gq a ≤ gq b := by
  have := gq_mono a (b - a) (by omega)
  rwa [show a + (b - a) = b by omega] at this
def okYear (y : Nat) : Bool := decide (365 * y ≤ gq (st y)) && decide (gq (st (y + 1) - 1) < 365 * (y + 1)) && decide (st y < st (y + 1))
theorem years_ok : (List.range 400).all okYear = true := by decide +kernel
theorem last_ok : gq 146096 < 365 * 400 ∧ 365 * 399 ≤ gq 146096 ∧ st 400 = 146096 := by decide
/-- the year of a day (of 146097, from March on). -/
theorem year_of (o : Nat) (h : o ≤ 146096) : gq o / 365 ≤ 399 ∧ st (gq o / 365) ≤ o ∧ (gq o / 365 < 399 → o < st (gq o / 365 + 1)) := by
  have hall : ∀ y, y < 400 → 365 * y ≤ gq (st y) ∧ gq (st (y + 1) - 1) < 365 * (y + 1) ∧ st y < st (y + 1) := fun y hy => by
    have := List.all_eq_true.1 years_ok y (List.mem_range.2 hy)
    unfold okYear at this
    simp only [Bool.and_eq_true, decide_eq_true_eq] at this
    exact ⟨this.1.1, this.1.2, this.2⟩
  have hst : ∀ y, y ≤ 400 → st y ≤ 146096 := by
    intro y hy
    unfold st
    omega
  -- the year whose days these are
  have hex : ∀ n, n ≤ 400 → o < st n → ∃ y, y < n ∧ st y ≤ o ∧ o < st (y + 1) := by
    intro n
    induction n with
    | zero => intro _ h0; unfold st at h0; omega
    | succ n ih =>
      intro hn h0
      rcases Nat.lt_or_ge o (st n) with h1 | h1
      · obtain ⟨y, a, b⟩ := ih (by omega) h1
        exact ⟨y, by omega, b⟩
      · exact ⟨n, by omega, h1, h0⟩
  rcases Nat.lt_or_ge o 146096 with hlt | hge
  · obtain ⟨y, hy, h1, h2⟩ := hex 400 (Nat.le_refl _) (by rw [last_ok.2.2]; exact hlt)
    obtain ⟨g1, g2, g3⟩ := hall y hy
    have m1 := gq_le h1 h
    have m2 := gq_le (show o ≤ st (y + 1) - 1 by omega) (by have := hst (y + 1) (by omega); omega)
    have e : gq o / 365 = y := by omega
    rw [e]
    exact ⟨by omega, h1, fun _ => h2⟩
  · obtain rfl : o = 146096 := by omega
    have e : gq 146096 / 365 = 399 := by have := last_ok; omega
    rw [e]
    exact ⟨by omega, by decide, fun h => absurd h (by omega)⟩
end Go.Proofs.YtfmfikodnpnblaaGreatDoor.Civil
namespace Go.Proofs.YtfmfikodnpnblaaGreatDoor.Cal
open Go.Proofs.YtfmfikodnpnblaaGreatDoor.Civil

def leap (y : Int) : Prop := y % 4 = 0 ∧ (y % 100 ≠ 0 ∨ y % 400 = 0)
instance (y : Int) : Decidable (leap y) := by unfold leap; infer_instance
/-- how many days lie between 1970-01-01 and a date. -/
def dayNum (y m d : Int) : Int :=
  (if m ≤ 2 then y - 1 else y) / 400 * 146097 + (if m ≤ 2 then y - 1 else y) % 400 * 365 + (if m ≤ 2 then y - 1 else y) % 400 / 4 - (if m ≤ 2 then y - 1 else y) % 400 / 100
    + ((153 * ((m + 9) % 12) + 2) / 5 + d - 1) - 719468
/-- how many days a month has. -/
def mlen (y m : Int) : Int :=
  if m = 2 then (if leap y then 29 else 28) else if m = 4 ∨ m = 6 ∨ m = 9 ∨ m = 11 then 30 else 31

theorem months {m : Int} (h0 : 1 ≤ m) (h1 : m ≤ 12) : m = 1 ∨ m = 2 ∨ m = 3 ∨ m = 4 ∨ m = 5 ∨ m = 6 ∨ m = 7 ∨ m = 8 ∨ m = 9 ∨ m = 10 ∨ m = 11 ∨ m = 12 := by omega
theorem era_400 (y m d : Int) : dayNum (y + 400) m d - dayNum y m d = 146097 := by
  unfold dayNum
  generalize (153 * ((m + 9) % 12) + 2) / 5 = q
  split <;> omega
theorem year_len (y : Int) : dayNum (y + 1) 1 1 - dayNum y 1 1 = if leap y then 366 else 365 := by
  unfold dayNum
  simp only [show (1 : Int) ≤ 2 by decide, if_true]
  by_cases h : leap y
  · rw [if_pos h]; unfold leap at h; omega
  · rw [if_neg h]; unfold leap at h; omega
theorem month_len (y m : Int) (h0 : 1 ≤ m) (h1 : m ≤ 12) : (if m < 12 then dayNum y (m + 1) 1 else dayNum (y + 1) 1 1) - dayNum y m 1 = mlen y m := by
  unfold dayNum mlen
  rcases months h0 h1 with rfl | rfl | rfl | rfl | rfl | rfl | rfl | rfl | rfl | rfl | rfl | rfl
  all_goals simp only [Int.reduceLT, Int.reduceLE, Int.reduceAdd, Int.reduceMul, Int.reduceDiv, Int.reduceMod, Int.reduceEq, if_true, if_false, or_true, or_false, true_or, false_or, or_self]
  all_goals first | omega | skip
  by_cases h : leap y
  · rw [if_pos h]; unfold leap at h; omega
  · rw [if_neg h]; unfold leap at h; omega
theorem day_step (y m a b : Int) : dayNum y m a - dayNum y m b = a - b := by
  unfold dayNum
  omega

/-! ### the date of a day -/
def era (n : Int) : Int := (n + 719468) / 146097
def oday (n : Int) : Nat := ((n + 719468) % 146097).toNat
def yoe (n : Int) : Nat := gq (oday n) / 365
def doy (n : Int) : Nat := oday n - st (yoe n)
def mon (n : Int) : Nat := (5 * doy n + 2) / 153
def dayOf (n : Int) : Nat := doy n - (153 * mon n + 2) / 5 + 1
def yearOf (n : Int) : Int := yoe n + era n * 400 + if 10 ≤ mon n then 1 else 0
def monthOf (n : Int) : Int := if 10 ≤ mon n then (mon n : Int) - 9 else mon n + 3

theorem day_facts (n : Int) : (oday n : Int) = (n + 719468) % 146097 ∧ oday n ≤ 146096 ∧ yoe n ≤ 399 ∧ st (yoe n) ≤ oday n ∧ (yoe n < 399 → oday n < st (yoe n + 1)) := by
  have h : oday n ≤ 146096 := by unfold oday; omega
  have hy := year_of (oday n) h
  exact ⟨by unfold oday; omega, h, hy⟩
theorem doy_le (n : Int) : doy n ≤ 365 := by
  obtain ⟨_, h1, h2, h3, h4⟩ := day_facts n
  unfold doy
  generalize yoe n = y at *
  generalize oday n = o at *
  unfold st at *
  by_cases hy : y < 399
  · have := h4 hy; omega
  · obtain rfl : y = 399 := by omega
    omega
theorem mon_le (n : Int) : mon n ≤ 11 := by have := doy_le n; unfold mon; omega
theorem month_range (n : Int) : 1 ≤ monthOf n ∧ monthOf n ≤ 12 := by have := mon_le n; unfold monthOf; split <;> omega
theorem day_pos (n : Int) : 1 ≤ dayOf n := by unfold dayOf; omega
theorem mon_doy (n : Int) : (153 * mon n + 2) / 5 ≤ doy n ∧ doy n < (153 * (mon n + 1) + 2) / 5 := by
  unfold mon
  generalize doy n = i
  omega
theorem day_le (n : Int) : dayOf n ≤ 31 := by
  have h := mon_doy n
  have h2 := mon_le n
  unfold dayOf
  omega
theorem dayNum_date (n : Int) : dayNum (yearOf n) (monthOf n) (dayOf n) = n := by
  obtain ⟨h0, h1, h2, h3, h4⟩ := day_facts n
  have hm := mon_le n
  have hd := mon_doy n
  have hdo : (dayOf n : Int) = (doy n : Int) - (153 * (mon n : Int) + 2) / 5 + 1 := by unfold dayOf; omega
  have ho : (oday n : Int) = (st (yoe n) : Int) + doy n := by unfold doy; omega
  have hst : (st (yoe n) : Int) = 365 * (yoe n : Int) + (yoe n : Int) / 4 - (yoe n : Int) / 100 := by unfold st; omega
  have he : n + 719468 = era n * 146097 + oday n := by rw [h0]; unfold era; omega
  unfold dayNum yearOf monthOf
  by_cases hc : 10 ≤ mon n
  · simp only [if_pos hc]
    rw [if_pos (by omega)]
    rw [show (yoe n : Int) + era n * 400 + 1 - 1 = yoe n + era n * 400 by omega]
    have e1 : ((yoe n : Int) + era n * 400) / 400 = era n := by omega
    have e2 : ((yoe n : Int) + era n * 400) % 400 = yoe n := by omega
    rw [e1, e2, show ((mon n : Int) - 9 + 9) % 12 = mon n by omega, hdo]
    omega
  · simp only [if_neg hc]
    rw [if_neg (by omega)]
    have e1 : ((yoe n : Int) + era n * 400 + 0) / 400 = era n := by omega
    have e2 : ((yoe n : Int) + era n * 400 + 0) % 400 = yoe n := by omega
    rw [e1, e2, show ((mon n : Int) + 3 + 9) % 12 = mon n by omega, hdo]
    omega

/-! ### its order -/
/-- a number that rises with the date. -/
def code (n : Int) : Int := yearOf n * 512 + monthOf n * 32 + dayOf n
theorem code_lt {a b : Int} (h : a < b) : code a < code b := by
  obtain ⟨a0, a1, a2, a3, a4⟩ := day_facts a
  obtain ⟨b0, b1, b2, b3, b4⟩ := day_facts b
  have am := mon_le a
  have bm := mon_le b
  have ad := mon_doy a
  have bd := mon_doy b
  have ea : a + 719468 = era a * 146097 + oday a := by rw [a0]; unfold era; omega
  have eb : b + 719468 = era b * 146097 + oday b := by rw [b0]; unfold era; omega
  have la := day_le a
  have lb := day_le b
  have pa := day_pos a
  have pb := day_pos b
  -- the year, the day in it
  have h1 : (yoe a : Int) + era a * 400 < yoe b + era b * 400 ∨ ((yoe a : Int) + era a * 400 = yoe b + era b * 400 ∧ doy a < doy b) := by
    rcases Int.lt_or_le (era a) (era b) with hl | hl
    · left; omega
    · have he : era a = era b := by omega
      have ho : oday a < oday b := by rw [he] at ea; omega
      have hy : yoe a ≤ yoe b := by
        unfold yoe
        exact Nat.div_le_div_right (gq_le (by omega) b1)
      rcases Nat.lt_or_ge (yoe a) (yoe b) with hl2 | hl2
      · left; omega
      · right
        have hye : yoe a = yoe b := by omega
        refine ⟨by rw [he, hye], ?_⟩
        unfold doy
        rw [hye] at a3 ⊢
        omega
  have h2 : ((yoe a : Int) + era a * 400) * 12 + mon a < ((yoe b : Int) + era b * 400) * 12 + mon b ∨ (((yoe a : Int) + era a * 400) * 12 + mon a = ((yoe b : Int) + era b * 400) * 12 + mon b ∧ dayOf a < dayOf b) := by
    rcases h1 with h | ⟨h, h'⟩
    · left; omega
    · have hm : mon a ≤ mon b := by unfold mon; omega
      rcases Nat.lt_or_ge (mon a) (mon b) with hl | hl
      · left; omega
      · right
        have hme : mon a = mon b := by omega
        refine ⟨by omega, ?_⟩
        unfold dayOf
        rw [hme] at ad ⊢
        omega
  unfold code yearOf monthOf
  generalize (yoe a : Int) + era a * 400 = A at *
  generalize (yoe b : Int) + era b * 400 = B at *
  generalize dayOf a = x at *
  generalize dayOf b = z at *
  generalize mon a = p at *
  generalize mon b = q at *
  by_cases ha : 10 ≤ p <;> by_cases hb : 10 ≤ q <;> simp only [ha, hb, if_true, if_false] <;> omega
theorem code_le {a b : Int} (h : a ≤ b) : code a ≤ code b := by
  rcases Int.lt_or_le a b with h1 | h1
  · exact Int.le_of_lt (code_lt h1)
  · rw [show a = b by omega]; exact Int.le_refl _

/-! ### there and back -/
theorem st_mono {a b : Nat} (h : a ≤ b) : st a ≤ st b := by
  induction h with
  | refl => exact Nat.le_refl _
  | step _ ih => exact Nat.le_trans ih (by unfold st; omega)
theorem yoe_is (n : Int) (y : Nat) (hy : y ≤ 399) (h1 : st y ≤ oday n) (h2 : y < 399 → oday n < st (y + 1)) : yoe n = y := by
  obtain ⟨a0, a1, a2, a3, a4⟩ := day_facts n
  rcases Nat.lt_trichotomy (yoe n) y with h | h | h
  · have := a4 (by omega)
    have := st_mono (show yoe n + 1 ≤ y by omega)
    omega
  · exact h
  · have := h2 (by omega)
    have := st_mono (show y + 1 ≤ yoe n by omega)
    omega
theorem date_dayNum (y m d : Int) (h0 : 1 ≤ m) (h1 : m ≤ 12) (h2 : 1 ≤ d) (h3 : d ≤ mlen y m) : yearOf (dayNum y m d) = y ∧ monthOf (dayNum y m d) = m ∧ (dayOf (dayNum y m d) : Int) = d := by
  -- the year from March on
  obtain ⟨Y, hY⟩ : ∃ Y, (if m ≤ 2 then y - 1 else y) = Y := ⟨_, rfl⟩
  obtain ⟨k, hk⟩ : ∃ k : Nat, (m + 9) % 12 = k := ⟨((m + 9) % 12).toNat, by omega⟩
  obtain ⟨i, hi⟩ : ∃ i : Nat, (153 * (k : Int) + 2) / 5 + d - 1 = i := ⟨((153 * (k : Int) + 2) / 5 + d - 1).toNat, by omega⟩
  obtain ⟨c, hc⟩ : ∃ c : Nat, Y % 400 = c := ⟨(Y % 400).toNat, by omega⟩
  have hk11 : k ≤ 11 := by omega
  have hc399 : c ≤ 399 := by omega
  have hlen : i < (153 * (k + 1) + 2) / 5 ∧ (k = 11 → i ≤ 365 ∧ (i = 365 → (c + 1) % 4 = 0 ∧ ((c + 1) % 100 ≠ 0 ∨ c = 399))) := by
    unfold mlen at h3
    rcases months h0 h1 with rfl | rfl | rfl | rfl | rfl | rfl | rfl | rfl | rfl | rfl | rfl | rfl <;>
      simp only [Int.reduceLT, Int.reduceLE, Int.reduceAdd, Int.reduceMul, Int.reduceDiv, Int.reduceMod, Int.reduceEq, if_true, if_false, or_true, or_false, true_or, false_or, or_self] at h3 hY hk <;>
      first | omega | skip
    by_cases h : leap y
    · rw [if_pos h] at h3; unfold leap at h; omega
    · rw [if_neg h] at h3; unfold leap at h; omega
  have hst : (st c : Int) = 365 * (c : Int) + (c : Int) / 4 - (c : Int) / 100 := by unfold st; omega
  have hst1 : (st (c + 1) : Int) = 365 * ((c : Int) + 1) + ((c : Int) + 1) / 4 - ((c : Int) + 1) / 100 := by unfold st; omega
  have hn : dayNum y m d + 719468 = Y / 400 * 146097 + (st c + i) := by
    unfold dayNum
    rw [hY, hk, hc, hst]
    omega
  have hsmall : st c + i ≤ 146096 ∧ (c < 399 → st c + i < st (c + 1)) := by
    unfold st at hst hst1 ⊢
    omega
  generalize hN : dayNum y m d = n at hn
  have ho : oday n = st c + i := by unfold oday; rw [hn]; omega
  have he : era n = Y / 400 := by unfold era; rw [hn]; omega
  have hyo : yoe n = c := yoe_is n c hc399 (by omega) (fun h => by have := hsmall.2 h; omega)
  have hdo : doy n = i := by unfold doy; rw [ho, hyo]; omega
  have hmo : mon n = k := by
    unfold mon
    rw [hdo]
    have h5 : (153 * k + 2) / 5 ≤ i := by omega
    have h6 := hlen.1
    omega
  have hda : (dayOf n : Int) = d := by unfold dayOf; rw [hdo, hmo]; omega
  refine ⟨?_, ?_, hda⟩
  · unfold yearOf
    rw [hyo, he, hmo]
    clear hlen hi hdo hmo hda hsmall hN hn
    rcases months h0 h1 with h | h | h | h | h | h | h | h | h | h | h | h <;> subst h <;> simp only [Int.reduceLE, if_true, if_false] at hY <;> split <;> omega
  · unfold monthOf
    rw [hmo]
    clear hlen hi hdo hmo hda hsmall hN hn
    rcases months h0 h1 with h | h | h | h | h | h | h | h | h | h | h | h <;> split <;> omega
end Go.Proofs.YtfmfikodnpnblaaGreatDoor.Cal
namespace Go.Proofs.YtfmfikodnpnblaaGreatDoor.FltClk
open Ieee Go.Proofs.YtfmfikodnpnblaaGreatDoor.Flt

/-- the parts of 512 as units. -/
def V : Int := (p2 1065 : Nat)
theorem V_pos : 0 < V := by unfold V; have := p2_pos 1065; omega
theorem U_V : U = V * 512 := by
  unfold U V
  rw [show (1074 : Nat) = 1065 + 9 by rfl, p2_add, show p2 9 = 512 by rw [← p2_is], Int.natCast_mul]
  rfl
theorem U_small : 8589934592 * U.natAbs < p2 1200 := by
  unfold U
  rw [Int.natAbs_natCast, show (8589934592 : Nat) = p2 33 by rw [← p2_is], ← p2_add]
  exact p2_lt (by omega)
theorem abs_small {a : Int} (h : -(8589934592 * U) ≤ a) (h' : a ≤ 8589934592 * U) : a.natAbs < p2 1200 := by
  have := U_small
  have := U_pos
  omega
theorem small_2150 {n : Nat} (h : n < p2 1200) : n < p2 2150 := Nat.lt_trans h (p2_lt (by omega))
/-- a whole number's units. -/
theorem int_small {n : Int} (h : n.natAbs < 9007199254740992) : (n * U).natAbs < p2 2150 := by
  rw [Int.natAbs_mul]
  unfold U
  rw [Int.natAbs_natCast]
  rw [← p2_53] at h
  have h1 : n.natAbs * p2 1074 < p2 53 * p2 1074 := Nat.mul_lt_mul_of_pos_right h (p2_pos _)
  rw [← p2_add] at h1
  exact Nat.lt_trans h1 (p2_lt (by omega))
theorem div512_of {x : Nat} {n : Int} (h : key x = some (n * U)) (hn : n.natAbs < 9007199254740992) : ∃ q, floatBits .quo .f64 x w512 = some q ∧ key q = some (n * V) :=
  key_div512 (q := n.natAbs) (e := 1065) h (int_small hn) (by rw [U_V, Int.mul_assoc]) (by unfold V; rw [Int.natAbs_mul, Int.natAbs_natCast]) (by rw [p2_53]; exact hn) (by omega)
theorem ediv_bound {a : Int} (h : -(8589934592 * U) ≤ a) (h' : a ≤ 8589934592 * U) : -4398046511104 ≤ a * 512 / U ∧ a * 512 / U ≤ 4398046511104 := by
  have hU := U_pos
  constructor
  · apply (Int.le_ediv_iff_mul_le hU).2; omega
  · apply Int.ediv_le_of_le_mul hU; omega
/-- cut down to parts of 512, as the program does it. -/
theorem fine_key {x : Nat} {a : Int} (hx : key x = some a) (h : -(8589934592 * U) ≤ a) (h' : a ≤ 8589934592 * U) :
    ∃ m, floatBits .mul .f64 x w512 = some m ∧ key m = some (a * 512) ∧ ∃ q, floatBits .quo .f64 (floorBits m) w512 = some q ∧ key q = some (a * 512 / U * V) := by
  obtain ⟨m, hm, hk⟩ := key_mul512 hx (abs_small h h')
  obtain ⟨h0, h1⟩ := ediv_bound h h'
  have hb : (a * 512).natAbs < p2 2150 := by
    have h2 := abs_small h h'
    have h3 : a.natAbs * 512 < p2 1200 * p2 9 := by rw [show p2 9 = 512 by rw [← p2_is]]; omega
    rw [← p2_add] at h3
    rw [Int.natAbs_mul]
    exact Nat.lt_trans h3 (p2_lt (by omega))
  have hf := key_floor hk hb
  obtain ⟨q, hq, hqk⟩ := div512_of hf (by omega)
  exact ⟨m, hm, hk, q, hq, hqk⟩
/-- a whole number, as the document takes it: cut towards nought, one less where that is too much. -/
theorem tdiv_facts (a : Int) {c : Int} (hc : 0 < c) : (c * 0 ≤ a → a.tdiv c = a / c) ∧ (a / c = a.tdiv c ∨ a / c = a.tdiv c - 1) ∧ (a < a.tdiv c * c ↔ a / c = a.tdiv c - 1) := by
  have h1 := Int.mul_tdiv_add_tmod a c
  have h2 := Int.mul_ediv_add_emod a c
  have h3 := Int.emod_nonneg a (show c ≠ 0 by omega)
  have h4 := Int.emod_lt_of_pos a hc
  rcases Int.lt_or_le a 0 with ha | ha
  · have hle : -c < a.tmod c ∧ a.tmod c ≤ 0 := by
      have e : a.tmod c = -((-a).tmod c) := by rw [← Int.neg_tmod, Int.neg_neg]
      have g1 := Int.tmod_nonneg c (show 0 ≤ -a by omega)
      have g2 := Int.tmod_lt_of_pos (-a) hc
      omega
    generalize a.tdiv c = q at *
    generalize a / c = r at *
    generalize a.tmod c = s at *
    generalize a % c = t at *
    have hd : c * (q - r) = t - s := by rw [Int.mul_sub]; omega
    have hqr : r = q ∨ r = q - 1 := by
      have g1 : c * (q - r) < c * 2 := by omega
      have g2 : c * (-1) < c * (q - r) := by omega
      have g3 := Int.lt_of_mul_lt_mul_left g1 (by omega)
      have g4 := Int.lt_of_mul_lt_mul_left g2 (by omega)
      omega
    refine ⟨fun h => by omega, hqr, ?_⟩
    rw [Int.mul_comm q c]
    constructor
    · intro h
      rcases hqr with e | e
      · subst e; omega
      · exact e
    · intro h
      subst h
      have : c * (q - 1) = c * q - c := by rw [Int.mul_sub, Int.mul_one]
      omega
  · have e := Int.tdiv_eq_ediv_of_nonneg (b := c) ha
    refine ⟨fun _ => e, .inl e.symm, ?_⟩
    rw [e]
    constructor
    · intro h
      rw [Int.mul_comm] at h
      omega
    · intro h; omega
theorem whole_key {x : Nat} {a : Int} (hx : key x = some a) (hb : a.natAbs < p2 1250) (h0 : -9007199254740991 ≤ a / U) (h1 : a / U ≤ 9007199254740990) :
    ∃ n, floatToIntVal .f64 x .i64 = some n ∧ key (floatOfInt .f64 n) = some (n * U) ∧ n.natAbs < 9007199254740992 ∧ ((n * U > a ∧ a / U = n - 1) ∨ (n * U ≤ a ∧ a / U = n)) := by
  obtain ⟨f1, f2, f3⟩ := tdiv_facts a U_pos
  have hn : (a.tdiv U).natAbs < 9007199254740992 := by omega
  refine ⟨a.tdiv U, int_key hx (Nat.lt_trans hb (p2_lt (by omega))) (by omega) (by omega), key_ofInt _ hn, hn, ?_⟩
  by_cases h : a < a.tdiv U * U
  · exact .inl ⟨h, f3.1 h⟩
  · refine .inr ⟨by omega, ?_⟩
    rcases f2 with e | e
    · exact e
    · exact absurd (f3.2 e) h
/-! ### what they come to -/
def partsOf (a : Int) : Int := if a < -(8589934592 * U) then -4398046511104 else if 8589934592 * U < a then 4398046511104 else a * 512 / U
theorem partsOf_bound (a : Int) : -4398046511104 ≤ partsOf a ∧ partsOf a ≤ 4398046511104 := by
  unfold partsOf
  split
  · omega
  · split
    · omega
    · exact ediv_bound (by omega) (by omega)
theorem partsOf_mono {a b : Int} (h : a ≤ b) : partsOf a ≤ partsOf b := by
  have hU := U_pos
  unfold partsOf
  by_cases h1 : a < -(8589934592 * U)
  · rw [if_pos h1]
    exact (partsOf_bound b).1
  · rw [if_neg h1, if_neg (show ¬ b < _ by omega)]
    by_cases h2 : 8589934592 * U < b
    · rw [if_pos h2]
      have := (partsOf_bound a).2
      unfold partsOf at this
      rw [if_neg h1] at this
      exact this
    · rw [if_neg h2, if_neg (by omega)]
      exact Int.ediv_le_ediv hU (by omega)
/-- a time between two seconds, cut down to a second. -/
def clampTo (lo hi top : Int) (a : Int) : Int := if a < lo * U then lo else if hi * U ≤ a then top else a / U
theorem clamp_bound {lo hi top a : Int} (h0 : lo ≤ top) (h1 : hi - 1 ≤ top) : lo ≤ clampTo lo hi top a ∧ clampTo lo hi top a ≤ top := by
  have hU := U_pos
  unfold clampTo
  split
  · omega
  · split
    · omega
    · have h2 : lo ≤ a / U := (Int.le_ediv_iff_mul_le hU).2 (by omega)
      have h3 : a / U < hi := (Int.ediv_lt_iff_lt_mul hU).2 (by omega)
      omega
theorem clamp_mono {lo hi top a b : Int} (h0 : lo ≤ top) (h1 : hi - 1 ≤ top) (h : a ≤ b) : clampTo lo hi top a ≤ clampTo lo hi top b := by
  have hU := U_pos
  have ha := clamp_bound (a := a) h0 h1
  have hb := clamp_bound (a := b) h0 h1
  by_cases h2 : a < lo * U
  · have e : clampTo lo hi top a = lo := if_pos h2
    omega
  · by_cases h3 : hi * U ≤ b
    · have e : clampTo lo hi top b = top := by unfold clampTo; rw [if_neg (by omega), if_pos h3]
      omega
    · unfold clampTo
      rw [if_neg h2, if_neg (by omega), if_neg (by omega), if_neg h3]
      exact Int.ediv_le_ediv hU h
end Go.Proofs.YtfmfikodnpnblaaGreatDoor.FltClk
namespace Go.Proofs.YtfmfikodnpnblaaGreatDoor.ClkDays
open Go.RowKit Go.Proofs Go.Proofs.YtfmfikodnpnblaaGreatDoorW.PrintWords Go.Proofs.YtfmfikodnpnblaaGreatDoor.PClk1 Go.Proofs.YtfmfikodnpnblaaGreatDoor.ClkDate Go.Proofs.YtfmfikodnpnblaaGreatDoor.Cal Go.Proofs.YtfmfikodnpnblaaGreatDoor.Civil

theorem w64 {n : Int} (h : -9223372036854775808 ≤ n ∧ n ≤ 9223372036854775807) : wrap64 n = n := by unfold wrap64; omega
theorem tdiv_pos {a c : Int} (ha : 0 ≤ a) : Int.tdiv a c = a / c := Int.tdiv_eq_ediv_of_nonneg ha
theorem tmod_pos {a c : Int} (ha : 0 ≤ a) : Int.tmod a c = a % c := Int.tmod_eq_emod_of_nonneg ha
/-- cut down, and the rest. -/
theorem down_eq (a b : Int) (hb : 1 ≤ b) (hb' : b ≤ 1000000) (ha : -1000000000000000000 ≤ a ∧ a ≤ 1000000000000000000) : clock_down.f a b = some (a / b, a % b) := by
  have h1 := Int.mul_tdiv_add_tmod a b
  have h2 := Int.mul_ediv_add_emod a b
  have h3 := Int.emod_nonneg a (show b ≠ 0 by omega)
  have h4 := Int.emod_lt_of_pos a (show 0 < b by omega)
  have h5 : -1000000000000000001 ≤ a / b ∧ a / b ≤ 1000000000000000000 := by
    constructor
    · have : -1000000000000000000 ≤ a / b := (Int.le_ediv_iff_mul_le (by omega)).2 (by
        have : (-1000000000000000000 : Int) * b ≤ -1000000000000000000 * 1 := Int.mul_le_mul_of_nonpos_left (by omega) (by omega)
        omega)
      omega
    · rcases Int.lt_or_le a 0 with h | h
      · have := Int.ediv_neg_of_neg_of_pos h (show 0 < b by omega); omega
      · exact Int.le_trans (Int.ediv_le_self _ h) ha.2
  unfold clock_down.f
  rw [if_neg (by omega)]
  rcases Int.lt_or_le a 0 with h | h
  · have e1 : Int.tmod a b = -((-a) % b) := by
      have : a = -(-a) := by omega
      rw [this, Int.neg_tmod, tmod_pos (by omega), Int.neg_neg]
    have g1 := Int.emod_nonneg (-a) (show b ≠ 0 by omega)
    have g2 := Int.emod_lt_of_pos (-a) (show 0 < b by omega)
    by_cases h0 : Int.tmod a b < 0
    · rw [if_pos h0]
      have hq : a.tdiv b = a / b + 1 := by
        have hd : b * (a.tdiv b - a / b) = a % b - a.tmod b := by rw [Int.mul_sub]; omega
        have g3 : b * (a.tdiv b - a / b) < b * 2 := by omega
        have g4 : b * 0 < b * (a.tdiv b - a / b) := by omega
        have g5 := Int.lt_of_mul_lt_mul_left g3 (by omega)
        have g6 := Int.lt_of_mul_lt_mul_left g4 (by omega)
        omega
      have hr : a.tmod b + b = a % b := by
        have : b * (a / b + 1) = b * (a / b) + b := by rw [Int.mul_add, Int.mul_one]
        rw [hq, this] at h1
        omega
      rw [hr, hq, w64 (n := a / b + 1) (by omega), w64 (n := a / b + 1 - 1) (by omega), w64 (n := a % b) (by omega), show a / b + 1 - 1 = a / b by omega]
    · rw [if_neg h0]
      have hz : a.tmod b = 0 := by omega
      have hz2 : a % b = 0 := by
        have : (-a) % b = 0 := by omega
        exact Int.emod_eq_zero_of_dvd ((Int.dvd_neg).1 (Int.dvd_of_emod_eq_zero this))
      have hq : a.tdiv b = a / b := by
        rw [hz] at h1
        rw [hz2] at h2
        exact Int.eq_of_mul_eq_mul_left (show b ≠ 0 by omega) (by omega)
      rw [hz, hz2, hq, w64 (by omega)]
  · rw [tmod_pos h, tdiv_pos h, if_neg (by omega), w64 (by omega)]

theorem days_eq (y m d : Int) (hy : -1000000 ≤ y ∧ y ≤ 1000000) (hm : 1 ≤ m ∧ m ≤ 12) (hd : -1000 ≤ d ∧ d ≤ 1000) : clock_days.f y m d = some (dayNum y m d) := by
  unfold clock_days.f
  obtain ⟨k, hk⟩ : ∃ k, (m + 9) % 12 = k := ⟨_, rfl⟩
  have ek : Int.tmod (wrap64 (m + 9)) 12 = k := by rw [w64 (by omega), tmod_pos (by omega), hk]
  have hk0 : 0 ≤ k ∧ k ≤ 11 := by omega
  have e1 : wrap64 (153 * k) = 153 * k := w64 (by omega)
  have e2 : wrap64 (153 * k + 2) = 153 * k + 2 := w64 (by omega)
  have e3 : Int.tdiv (153 * k + 2) 5 = (153 * k + 2) / 5 := tdiv_pos (by omega)
  rw [ek, e1, e2, e3]
  have main : ∀ Y : Int, -1000001 ≤ Y → Y ≤ 1000000 → wrap64 ((wrap64 ((wrap64 ((wrap64 ((wrap64 ((wrap64 (Y / 400 * 146097)) + (wrap64 (Y % 400 * 365)))) + (wrap64 (Int.tdiv (Y % 400) 4)))) - (wrap64 (Int.tdiv (Y % 400) 100)))) + (wrap64 ((wrap64 ((wrap64 ((153 * k + 2) / 5)) + d)) - 1)))) - 719468) = Y / 400 * 146097 + Y % 400 * 365 + Y % 400 / 4 - Y % 400 / 100 + ((153 * k + 2) / 5 + d - 1) - 719468 := by
    intro Y h1 h2
    rw [tdiv_pos (by omega), tdiv_pos (by omega)]
    obtain ⟨q, hq⟩ : ∃ q, (153 * k + 2) / 5 = q := ⟨_, rfl⟩
    have hq2 : 0 ≤ q ∧ q ≤ 400 := by omega
    rw [hq]
    clear hq e1 e2 e3 ek hk
    rw [w64 (n := Y / 400 * 146097) (by omega), w64 (n := Y % 400 * 365) (by omega), w64 (n := Y % 400 / 4) (by omega), w64 (n := Y % 400 / 100) (by omega), w64 (n := q) (by omega), w64 (n := q + d) (by omega), w64 (n := q + d - 1) (by omega),
      w64 (n := Y / 400 * 146097 + Y % 400 * 365) (by omega), w64 (n := Y / 400 * 146097 + Y % 400 * 365 + Y % 400 / 4) (by omega), w64 (n := Y / 400 * 146097 + Y % 400 * 365 + Y % 400 / 4 - Y % 400 / 100) (by omega), w64 (n := Y / 400 * 146097 + Y % 400 * 365 + Y % 400 / 4 - Y % 400 / 100 + (q + d - 1)) (by omega), w64 (by omega)]
  unfold dayNum
  rw [hk]
  by_cases hc : m ≤ 2
  · rw [if_pos hc, w64 (by omega), down_eq _ _ (by omega) (by omega) (by omega), Option.bind_some]
    dsimp only
    rw [main (y - 1) (by omega) (by omega)]
    simp only [if_pos hc]
  · rw [if_neg hc, down_eq _ _ (by omega) (by omega) (by omega), Option.bind_some]
    dsimp only
    rw [main y (by omega) (by omega)]
    simp only [if_neg hc]
theorem Days_eq (y m d : Int) (hy : -100000 ≤ y ∧ y ≤ 100000) (hm : 1 ≤ m ∧ m ≤ 12) (hd : 1 ≤ d ∧ d ≤ 31) : clock_Days.f y m d = some (dayNum y m d) := by
  unfold clock_Days.f
  rw [if_neg (by omega), if_neg (by omega), if_neg (by omega), if_neg (by omega), if_neg (by omega), if_neg (by omega), days_eq y m d (by omega) hm (by omega)]
  rfl
/-- within fair bounds. -/
theorem dayNum_bound (y m d : Int) (hy : -1000000 ≤ y ∧ y ≤ 1000000) (hm : 1 ≤ m ∧ m ≤ 12) (hd : -1000 ≤ d ∧ d ≤ 1000) : -400000000 ≤ dayNum y m d ∧ dayNum y m d ≤ 400000000 := by
  unfold dayNum
  split <;> omega
end Go.Proofs.YtfmfikodnpnblaaGreatDoor.ClkDays
namespace Go.Proofs.YtfmfikodnpnblaaGreatDoor.ClkMonth
open Go.RowKit Go.Proofs Go.Proofs.YtfmfikodnpnblaaGreatDoorW.PrintWords Go.Proofs.YtfmfikodnpnblaaGreatDoor.PClkR Go.Proofs.YtfmfikodnpnblaaGreatDoor.ClkDays Go.Proofs.YtfmfikodnpnblaaGreatDoor.Cal

theorem leap_eq (y : Int) : stevedoreref4_leap.f y = some (decide (leap y)) := by
  have h (c : Int) (hc : c ≠ 0) : (Int.tmod y c = 0 ↔ y % c = 0) := by rw [← Int.dvd_iff_emod_eq_zero, ← Int.dvd_iff_tmod_eq_zero]
  unfold stevedoreref4_leap.f
  by_cases h4 : y % 4 = 0
  · rw [if_pos ((h 4 (by decide)).2 h4)]
    by_cases h100 : y % 100 = 0
    · rw [if_pos ((h 100 (by decide)).2 h100)]
      congr 1
      by_cases h400 : y % 400 = 0
      · rw [(h 400 (by decide)).2 h400, decide_eq_true (show leap y from ⟨h4, .inr h400⟩)]; rfl
      · rw [decide_eq_false (show ¬ leap y by rintro ⟨_, h | h⟩ <;> contradiction)]
        exact beq_eq_false_iff_ne.2 (fun e => h400 ((h 400 (by decide)).1 e))
    · rw [if_neg (fun e => h100 ((h 100 (by decide)).1 e)), decide_eq_true (show leap y from ⟨h4, .inl h100⟩)]
  · rw [if_neg (fun e => h4 ((h 4 (by decide)).1 e)), decide_eq_false (show ¬ leap y from fun e => h4 e.1)]
theorem Month_eq (y m : Int) (hm : 1 ≤ m ∧ m ≤ 12) : stevedoreref4_Month.f y m = some (mlen y m) := by
  unfold stevedoreref4_Month.f mlen
  rw [leap_eq]
  simp only [Option.bind_some, show wrap64 (m - 1) = m - 1 from w64 (by omega)]
  rcases months hm.1 hm.2 with rfl | rfl | rfl | rfl | rfl | rfl | rfl | rfl | rfl | rfl | rfl | rfl
  all_goals try rfl
  by_cases h : leap y
  · simp only [h, decide_true, if_true]
    show some (wrap64 (28 + 1)) = some 29
    rw [w64 (by omega)]; rfl
  · simp only [h, decide_false, if_false]; rfl
end Go.Proofs.YtfmfikodnpnblaaGreatDoor.ClkMonth
namespace Go.Proofs.YtfmfikodnpnblaaGreatDoor.ClkFloat
open Go.RowKit Go.Proofs Go.Proofs.YtfmfikodnpnblaaGreatDoorW.PrintWords Go.Proofs.YtfmfikodnpnblaaGreatDoor.PClk1 Go.Proofs.YtfmfikodnpnblaaGreatDoor.ClkDate Go.Proofs.YtfmfikodnpnblaaGreatDoor.ClkLib Go.Proofs.YtfmfikodnpnblaaGreatDoor.ClkDays Go.Proofs.YtfmfikodnpnblaaGreatDoor.Flt Go.Proofs.YtfmfikodnpnblaaGreatDoor.FltClk

/-! ### words and their order -/
theorem key_lit {x : Nat} (n : Int) (h : n.natAbs < 9007199254740992) (e : floatOfInt .f64 n = x) : key x = some (n * U) := by
  rw [← e]; exact key_ofInt n h
theorem key_zero : key 0 = some 0 := by rw [key_lit 0 (by decide) (by decide +kernel), Int.zero_mul]
theorem key_one : key 4607182418800017408 = some U := by rw [key_lit 1 (by decide) (by decide +kernel), Int.one_mul]
theorem key_33 : key 4755801206503243776 = some (8589934592 * U) := key_lit _ (by decide) (by decide +kernel)
theorem key_n33 : key 13979173243358019584 = some (-(8589934592 * U)) := by rw [key_lit (-8589934592) (by decide) (by decide +kernel), Int.neg_mul]
theorem key_32 : key 4751297606873776128 = some (4294967295 * U) := key_lit _ (by decide) (by decide +kernel)
theorem key_first : key 4734073370679705600 = some (315532800 * U) := key_lit _ (by decide) (by decide +kernel)
theorem key_last : key 4751360366145961984 = some (4354819200 * U) := key_lit _ (by decide) (by decide +kernel)
theorem lit_512 : (4647714815446351872 : Nat) = w512 := by decide +kernel
theorem f64f : FloatKind.f64.format = Ieee.double := rfl

section
variable {x y : Nat} {a b : Int}
theorem ord_lt (hx : key x = some a) (hy : key y = some b) : (FloatKind.f64.format.order x y == some .lt) = decide (a < b) := by
  rw [f64f, order_key hx hy]
  rcases Int.lt_trichotomy a b with h | h | h
  · rw [cmp_lt h, decide_eq_true h]; rfl
  · rw [cmp_eq h, decide_eq_false (by omega)]; rfl
  · rw [cmp_gt h, decide_eq_false (by omega)]; rfl
theorem ord_eq (hx : key x = some a) (hy : key y = some b) : (FloatKind.f64.format.order x y == some .eq) = decide (a = b) := by
  rw [f64f, order_key hx hy]
  rcases Int.lt_trichotomy a b with h | h | h
  · rw [cmp_lt h, decide_eq_false (by omega)]; rfl
  · rw [cmp_eq h, decide_eq_true h]; rfl
  · rw [cmp_gt h, decide_eq_false (by omega)]; rfl
theorem ord_gt (hx : key x = some a) (hy : key y = some b) : (FloatKind.f64.format.order x y == some .gt) = decide (b < a) := by
  rw [f64f, order_key hx hy]
  rcases Int.lt_trichotomy a b with h | h | h
  · rw [cmp_lt h, decide_eq_false (by omega)]; rfl
  · rw [cmp_eq h, decide_eq_false (by omega)]; rfl
  · rw [cmp_gt h, decide_eq_true h]; rfl
theorem ord_ne (hx : key x = some a) (hy : key y = some b) : (FloatKind.f64.format.order x y != some .eq) = decide (a ≠ b) := by
  show (!(FloatKind.f64.format.order x y == some .eq)) = _
  rw [ord_eq hx hy]
  by_cases h : a = b <;> simp [h]
theorem ord_le (hx : key x = some a) (hy : key y = some b) : (FloatKind.f64.format.order x y == some .lt || FloatKind.f64.format.order x y == some .eq) = decide (a ≤ b) := by
  rw [ord_lt hx hy, ord_eq hx hy]
  by_cases h : a < b
  · rw [decide_eq_true h, decide_eq_true (show a ≤ b by omega)]; rfl
  · rw [decide_eq_false h]
    by_cases h' : a = b
    · rw [decide_eq_true h', decide_eq_true (show a ≤ b by omega)]; rfl
    · rw [decide_eq_false h', decide_eq_false (show ¬ a ≤ b by omega)]; rfl
theorem ord_ge (hx : key x = some a) (hy : key y = some b) : (FloatKind.f64.format.order x y == some .gt || FloatKind.f64.format.order x y == some .eq) = decide (b ≤ a) := by
  rw [ord_gt hx hy, ord_eq hx hy]
  by_cases h : b < a
  · rw [decide_eq_true h, decide_eq_true (show b ≤ a by omega)]; rfl
  · rw [decide_eq_false h]
    by_cases h' : a = b
    · rw [decide_eq_true h', decide_eq_true (show b ≤ a by omega)]; rfl
    · rw [decide_eq_false h', decide_eq_false (show ¬ b ≤ a by omega)]; rfl
theorem ord_none (h : key x = none) (y : Nat) : FloatKind.f64.format.order x y = none := order_nan (.inl h)
theorem ord_none' (h : key y = none) (x : Nat) : FloatKind.f64.format.order x y = none := order_nan (.inr h)
theorem nan_ne (h : key x = none) : (FloatKind.f64.format.order x x != some .eq) = true := by rw [ord_none h]; rfl
theorem not_nan (h : key x = some a) : (FloatKind.f64.format.order x x != some .eq) = false := by rw [ord_ne h h]; simp
theorem floor_f (h : key x = some a) : math_Floor.f x = some (floorBits x) := by
  unfold math_Floor.f
  rw [if_neg]
  unfold key keyD at h
  intro hn
  cases e : Ieee.double.read x <;> rw [e] at h hn <;> first | (cases h; done) | (cases hn; done)
theorem fint_key (h : key x = some (a * U)) (ha : a.natAbs < 9007199254740992) : fintOk x = true ∧ fint x = a := by
  refine fint_of ?_
  have hU := U_pos
  have e : (a * U).tdiv U = a := Int.mul_tdiv_cancel _ (by omega)
  rw [int_key h (int_small ha) (by rw [e]; omega) (by rw [e]; omega), e]
end

/-! ### parts of 512 -/
def parts (x : Nat) : Int := match key x with | none => 0 | some a => partsOf a
theorem parts_bound (x : Nat) : -4398046511104 ≤ parts x ∧ parts x ≤ 4398046511104 := by
  unfold parts
  split
  · omega
  · exact partsOf_bound _
theorem edge_v : 8589934592 * U = 4398046511104 * V := by rw [U_V]; omega
/-- a word that counts n parts of 512; nought is the one without a sign. -/
def Is512 (r : Nat) (n : Int) : Prop := key r = some (n * V) ∧ (n = 0 → r = 0)
theorem Fine_eq (x : Nat) : ∃ r, clock_Fine.f x = some r ∧ Is512 r (parts x) := by
  unfold clock_Fine.f parts
  cases hk : key x with
  | none =>
    rw [if_pos (nan_ne hk)]
    exact ⟨0, rfl, by rw [key_zero]; simp, fun _ => rfl⟩
  | some a =>
    have hV := V_pos
    have hU := U_pos
    rw [if_neg (by rw [not_nan hk]; decide), ord_lt hk key_n33, ord_gt hk key_33]
    dsimp only
    by_cases h1 : a < -(8589934592 * U)
    · rw [if_pos (decide_eq_true h1)]
      refine ⟨_, rfl, ?_⟩
      unfold partsOf
      rw [if_pos h1]
      exact ⟨by rw [key_n33, edge_v, Int.neg_mul], fun h => absurd h (by decide)⟩
    · rw [if_neg (by rw [decide_eq_false h1]; decide)]
      by_cases h2 : 8589934592 * U < a
      · rw [if_pos (decide_eq_true h2)]
        refine ⟨_, rfl, ?_⟩
        unfold partsOf
        rw [if_neg h1, if_pos h2]
        exact ⟨by rw [key_33, edge_v], fun h => absurd h (by decide)⟩
      · rw [if_neg (by rw [decide_eq_false h2]; decide)]
        obtain ⟨m, hm, hmk, q, hq, hqk⟩ := fine_key hk (by omega) (by omega)
        have hm' := fop_of (op := .mul) hm
        have hq' := fop_of (op := .quo) hq
        rw [lit_512, if_pos hm'.1, hm'.2, floor_f hmk, Option.bind_some, if_pos hq'.1, hq'.2, ord_ne hqk key_zero]
        have e : partsOf a = a * 512 / U := by unfold partsOf; rw [if_neg h1, if_neg h2]
        rw [e]
        by_cases h3 : a * 512 / U = 0
        · rw [if_neg (by rw [h3]; simp)]
          exact ⟨0, rfl, by rw [key_zero, h3]; simp, fun _ => rfl⟩
        · have h4 : a * 512 / U * V ≠ 0 := Int.mul_ne_zero h3 (by omega)
          rw [if_pos (decide_eq_true h4)]
          exact ⟨q, rfl, hqk, fun h => absurd h h3⟩
theorem int512 (n : Int) (hn : n.natAbs < 9007199254740992) : ∃ r, fvalid .quo (floatOfInt .f64 n) w512 = true ∧ fop .quo (floatOfInt .f64 n) w512 = r ∧ Is512 r n := by
  obtain ⟨q, hq, hqk⟩ := div512_of (key_ofInt n hn) hn
  have hq' := fop_of (op := .quo) hq
  refine ⟨q, hq'.1, hq'.2, hqk, fun h => ?_⟩
  subst h
  rw [← hq'.2]
  decide +kernel
theorem same_eq {r s : Nat} {n : Int} (hr : Is512 r n) (hs : Is512 s n) : stevedorelaw4_same.f r s = some true := by
  by_cases h : n = 0
  · rw [hr.2 h, hs.2 h]
    decide +kernel
  · have hV := V_pos
    have h1 : n * V ≠ 0 := Int.mul_ne_zero h (by omega)
    unfold stevedorelaw4_same.f
    rw [if_neg (by rw [not_nan hr.1]; decide), ord_eq hr.1 hs.1, if_pos (decide_eq_true rfl), ord_ne hr.1 key_zero, if_pos (decide_eq_true h1)]
/-- the same of words with the same key. -/
theorem same_key {r s : Nat} {a : Int} (hr : key r = some a) (hs : key s = some a) (h0 : a = 0 → r = 0 ∧ s = 0) : stevedorelaw4_same.f r s = some true := by
  by_cases h : a = 0
  · rw [(h0 h).1, (h0 h).2]
    decide +kernel
  · unfold stevedorelaw4_same.f
    rw [if_neg (by rw [not_nan hr]; decide), ord_eq hr hs, if_pos (decide_eq_true rfl), ord_ne hr key_zero, if_pos (decide_eq_true h)]
theorem same_nan {r s : Nat} (hr : key r = none) (hs : key s = none) : stevedorelaw4_same.f r s = some true := by
  unfold stevedorelaw4_same.f
  rw [if_pos (nan_ne hr), if_pos (nan_ne hs)]

/-! ### seconds -/
def unixOf (x : Nat) : Int := match key x with | none => 0 | some a => clampTo 0 4294967295 4294967295 a
theorem floor_sec {x : Nat} {a : Int} (hk : key x = some a) (h0 : 0 ≤ a) (h1 : a < 4398046511104 * U) : key (floorBits x) = some (a / U * U) ∧ fintOk (floorBits x) = true ∧ fint (floorBits x) = a / U := by
  have hU := U_pos
  have hb : a.natAbs < Flt.p2 2150 := by
    refine Nat.lt_trans ?_ (int_small (n := 4398046511104) (by decide))
    omega
  have h2 : 0 ≤ a / U := Int.ediv_nonneg h0 (by omega)
  have h3 : a / U < 4398046511104 := (Int.ediv_lt_iff_lt_mul hU).2 h1
  have hf := key_floor hk hb
  exact ⟨hf, fint_key hf (by omega)⟩
theorem Unix_eq (k x : Nat) (hk0 : 1 ≤ k) : clock_Unix.f k x = some (unixOf x) := by
  obtain ⟨k, rfl⟩ : ∃ j, k = j + 1 := ⟨k - 1, by omega⟩
  have hU := U_pos
  unfold clock_Unix.f unixOf
  cases hk : key x with
  | none => rw [if_pos (nan_ne hk)]; rfl
  | some a =>
    rw [if_neg (by rw [not_nan hk]; decide), ord_lt hk key_zero, clock_Unix.j0, ord_ge hk key_32]
    dsimp only
    unfold clampTo
    rw [Int.zero_mul]
    by_cases h1 : a < 0
    · rw [if_pos (decide_eq_true h1), if_pos h1]
    · rw [if_neg (by rw [decide_eq_false h1]; decide), if_neg h1]
      by_cases h2 : 4294967295 * U ≤ a
      · rw [if_pos (decide_eq_true h2), if_pos h2]
      · obtain ⟨g1, g2, g3⟩ := floor_sec hk (by omega) (by omega)
        rw [if_neg (by rw [decide_eq_false h2]; decide), if_neg h2, floor_f hk, Option.bind_some, if_pos g2, g3]
end Go.Proofs.YtfmfikodnpnblaaGreatDoor.ClkFloat
namespace Go.Proofs.YtfmfikodnpnblaaGreatDoor.ClkDateEq
open Go.RowKit Go.Proofs Go.Proofs.YtfmfikodnpnblaaGreatDoorW.PrintWords Go.Proofs.YtfmfikodnpnblaaGreatDoor.PClk1 Go.Proofs.YtfmfikodnpnblaaGreatDoor.ClkDate Go.Proofs.YtfmfikodnpnblaaGreatDoor.ClkLib Go.Proofs.YtfmfikodnpnblaaGreatDoor.ClkDays Go.Proofs.YtfmfikodnpnblaaGreatDoor.Flt Go.Proofs.YtfmfikodnpnblaaGreatDoor.FltClk Go.Proofs.YtfmfikodnpnblaaGreatDoor.ClkFloat Go.Proofs.YtfmfikodnpnblaaGreatDoor.Cal Go.Proofs.YtfmfikodnpnblaaGreatDoor.Civil

def dateOf (s : Int) : Int × Int × Int × Int × Int × Int :=
  (yearOf (s / 86400), monthOf (s / 86400), dayOf (s / 86400), s % 86400 / 3600, s % 86400 / 60 % 60, s % 86400 % 60)
set_option maxHeartbeats 4000000 in
theorem Date_eq (k : Nat) (s : Int) (hk : 1 ≤ k) (h0 : -1099511627776 ≤ s) (h1 : s ≤ 1099511627776) : clock_Date.f k s = some (dateOf s) := by
  obtain ⟨k, rfl⟩ : ∃ j, k = j + 1 := ⟨k - 1, by omega⟩
  unfold clock_Date.f dateOf
  rw [if_neg (by omega), decide_eq_false (by omega), clock_Date.j0, if_neg (by decide), down_eq _ _ (by omega) (by omega) (by omega), Option.bind_some]
  obtain ⟨n, hn⟩ : ∃ n, s / 86400 = n := ⟨_, rfl⟩
  obtain ⟨r, hr⟩ : ∃ r, s % 86400 = r := ⟨_, rfl⟩
  have hnb : -20000000 ≤ n ∧ n ≤ 20000000 := by omega
  have hrb : 0 ≤ r ∧ r < 86400 := by omega
  dsimp only
  rw [hn, hr]
  clear hn hr
  rw [w64 (n := n + 719468) (by omega), down_eq _ _ (by omega) (by omega) (by omega), Option.bind_some]
  dsimp only
  obtain ⟨f0, f1, f2, f3, f4⟩ := day_facts n
  have fi := doy_le n
  have fm := mon_le n
  obtain ⟨fd0, fd1⟩ := mon_doy n
  rw [← f0]
  obtain ⟨e, he⟩ : ∃ e, (n + 719468) / 146097 = e := ⟨_, rfl⟩
  have heb : -1000 ≤ e ∧ e ≤ 1000 := by omega
  have hera : era n = e := he
  rw [he]
  clear he f0
  -- the steps' names
  have hg : (gq (oday n) : Int) = (oday n : Int) - (oday n : Int) / 1460 + (oday n : Int) / 36524 - (oday n : Int) / 146096 := by unfold gq; omega
  have hy : (yoe n : Int) = (gq (oday n) : Int) / 365 := by unfold yoe; omega
  have hst : (st (yoe n) : Int) = 365 * (yoe n : Int) + (yoe n : Int) / 4 - (yoe n : Int) / 100 := by unfold st; omega
  have hi : (doy n : Int) = (oday n : Int) - st (yoe n) := by unfold doy; omega
  have hm : (mon n : Int) = (5 * (doy n : Int) + 2) / 153 := by unfold mon; omega
  have hd : (dayOf n : Int) = (doy n : Int) - (153 * (mon n : Int) + 2) / 5 + 1 := by unfold dayOf; omega
  unfold yearOf monthOf
  rw [hera]
  have hcond : (10 ≤ mon n) ↔ ((mon n : Int) ≥ 10) := by omega
  simp only [hcond]
  have bY : (0 : Int) ≤ yoe n ∧ (yoe n : Int) ≤ 399 := by omega
  have bS : (0 : Int) ≤ st (yoe n) ∧ (st (yoe n) : Int) ≤ 146096 := by omega
  have bI : (0 : Int) ≤ doy n ∧ (doy n : Int) ≤ 365 := by omega
  have bM : (0 : Int) ≤ mon n ∧ (mon n : Int) ≤ 11 := by omega
  have ob : (0 : Int) ≤ oday n ∧ (oday n : Int) ≤ 146096 := by omega
  clear f1 f2 f3 f4 fi fm fd0 fd1 hera hcond h0 h1
  generalize (dayOf n : Int) = D at *
  generalize (mon n : Int) = M at *
  generalize (doy n : Int) = I at *
  generalize (st (yoe n) : Int) = S at *
  generalize (yoe n : Int) = Y at *
  generalize (gq (oday n) : Int) = G at *
  generalize (oday n : Int) = o at *
  have e1 : wrap64 (Int.tdiv o 1460) = o / 1460 := by rw [tdiv_pos ob.1, w64 (by omega)]
  have e2 : wrap64 (o - o / 1460) = o - o / 1460 := w64 (by omega)
  have e3 : wrap64 (Int.tdiv o 36524) = o / 36524 := by rw [tdiv_pos ob.1, w64 (by omega)]
  have e4 : wrap64 (o - o / 1460 + o / 36524) = o - o / 1460 + o / 36524 := w64 (by omega)
  have e5 : wrap64 (Int.tdiv o 146096) = o / 146096 := by rw [tdiv_pos ob.1, w64 (by omega)]
  have e6 : wrap64 (o - o / 1460 + o / 36524 - o / 146096) = G := by rw [hg, w64 (by omega)]
  have e7 : wrap64 (Int.tdiv G 365) = Y := by rw [tdiv_pos (by omega), w64 (by omega), hy]
  have e8 : wrap64 (365 * Y) = 365 * Y := w64 (by omega)
  have e9 : wrap64 (Int.tdiv Y 4) = Y / 4 := by rw [tdiv_pos bY.1, w64 (by omega)]
  have e10 : wrap64 (365 * Y + Y / 4) = 365 * Y + Y / 4 := w64 (by omega)
  have e11 : wrap64 (Int.tdiv Y 100) = Y / 100 := by rw [tdiv_pos bY.1, w64 (by omega)]
  have e12 : wrap64 (365 * Y + Y / 4 - Y / 100) = S := by rw [hst, w64 (by omega)]
  have e13 : wrap64 (o - S) = I := by rw [hi, w64 (by omega)]
  have e14 : wrap64 (5 * I) = 5 * I := w64 (by omega)
  have e15 : wrap64 (5 * I + 2) = 5 * I + 2 := w64 (by omega)
  have e16 : wrap64 (Int.tdiv (5 * I + 2) 153) = M := by rw [tdiv_pos (by omega), w64 (by omega), hm]
  have e17 : wrap64 (153 * M) = 153 * M := w64 (by omega)
  have e18 : wrap64 (153 * M + 2) = 153 * M + 2 := w64 (by omega)
  have e19 : wrap64 (Int.tdiv (153 * M + 2) 5) = (153 * M + 2) / 5 := by rw [tdiv_pos (by omega), w64 (by omega)]
  have e20 : wrap64 (I - (153 * M + 2) / 5) = I - (153 * M + 2) / 5 := w64 (by omega)
  have e21 : wrap64 (I - (153 * M + 2) / 5 + 1) = D := by rw [hd, w64 (by omega)]
  have e22 : wrap64 (e * 400) = e * 400 := w64 (by omega)
  have e23 : wrap64 (Y + e * 400) = Y + e * 400 := w64 (by omega)
  have e24 : wrap64 (Y + e * 400 + 1) = Y + e * 400 + 1 := w64 (by omega)
  have e25 : wrap64 (M - 9) = M - 9 := w64 (by omega)
  have e26 : wrap64 (M + 3) = M + 3 := w64 (by omega)
  have e27 : wrap64 (Int.tdiv r 3600) = r / 3600 := by rw [tdiv_pos hrb.1, w64 (by omega)]
  have e28 : wrap64 (Int.tdiv r 60) = r / 60 := by rw [tdiv_pos hrb.1, w64 (by omega)]
  have e29 : Int.tmod (r / 60) 60 = r / 60 % 60 := tmod_pos (by omega)
  have e30 : Int.tmod r 60 = r % 60 := tmod_pos hrb.1
  simp only [e1, e2, e3, e4, e5, e6, e7, e8, e9, e10, e11, e12, e13, e14, e15, e16, e17, e18, e19, e20, e21, e22, e23, e24, e25, e26, e27, e28, e29, e30]
  by_cases h : M ≥ 10
  · rw [if_pos h, if_pos h, if_pos h]
  · rw [if_neg h, if_neg h, if_neg h, Int.add_zero]

/-! ### clock.Dos -/
theorem wraps_i64 (n : Int) (h₀ : 0 ≤ n) (h₁ : n < 2 ^ 62) : IntKind.i64.wrap n = n := by rw [IntKind.wrap_i64]; omega
theorem i64_join (i : Nat) (x y : Int) (hx₀ : 0 ≤ x) (hx : x % 2 ^ i = 0) (hx₁ : x < 4611686018427387904) (hy₀ : 0 ≤ y) (hy : y < 2 ^ i) (hy₁ : y < 4611686018427387904) : Go.bits .or .i64 x y = x + y :=
  bits_join .i64 62 (by decide) wraps_i64 i x y hx₀ hx hx₁ hy₀ hy hy₁
theorem i64_mask (i : Nat) (hi : i ≤ 62) (x : Int) (h₀ : 0 ≤ x) (h₁ : x < 4611686018427387904) : Go.bits .and .i64 x (2 ^ i - 1) = x % 2 ^ i :=
  bits_mask .i64 62 (by decide) wraps_i64 i hi x h₀ h₁
def dosS (s : Int) : Int := (code (s / 86400) - 1013760) * 65536 + s % 86400 / 3600 * 2048 + s % 86400 / 60 % 60 * 32 + s % 86400 % 60 / 2
theorem code_first : code 3652 = 1013793 := by decide +kernel
theorem code_last : code 50402 = 1079199 := by decide +kernel
theorem date_range {n : Int} (h0 : 3652 ≤ n) (h1 : n ≤ 50402) : 1980 ≤ yearOf n ∧ yearOf n ≤ 2107 := by
  have a := code_le h0
  have b := code_le h1
  rw [code_first] at a
  rw [code_last] at b
  have m := month_range n
  have d0 := day_pos n
  have d1 := day_le n
  unfold code at a b
  omega
theorem pack_eq (k : Nat) (s : Int) (hk : 1 ≤ k) (h0 : 315532800 ≤ s) (h1 : s ≤ 4354819199) :
    ((clock_Date.f k s).bind fun bt122 => (some (Go.bits .or .i64 (Go.bits .or .i64 (Go.bits .or .i64 (wrap64 ((Go.bits .or .i64 (Go.bits .or .i64 (wrap64 ((wrap64 (bt122.1 - 1980)) * 512)) (wrap64 (bt122.2.1 * 32))) bt122.2.2.1) * 65536)) (wrap64 (bt122.2.2.2.1 * 2048))) (wrap64 (bt122.2.2.2.2.1 * 32))) (wrap64 (Int.tdiv bt122.2.2.2.2.2 2))))) = some (dosS s) := by
  rw [Date_eq k s hk (by omega) (by omega), Option.bind_some]
  unfold dateOf dosS code
  obtain ⟨n, hn⟩ : ∃ n, s / 86400 = n := ⟨_, rfl⟩
  obtain ⟨r, hr⟩ : ∃ r, s % 86400 = r := ⟨_, rfl⟩
  obtain ⟨hy0, hy1⟩ := date_range (n := n) (by omega) (by omega)
  have hm := month_range n
  have hd0 := day_pos n
  have hd1 := day_le n
  have hrb : 0 ≤ r ∧ r < 86400 := by omega
  rw [hn, hr]
  clear hn hr h0 h1
  dsimp only
  have hd : (1 : Int) ≤ dayOf n ∧ (dayOf n : Int) ≤ 31 := by omega
  clear hd0 hd1
  generalize yearOf n = Y at *
  generalize monthOf n = M at *
  generalize (dayOf n : Int) = D at *
  have b1 : 0 ≤ r / 3600 ∧ r / 3600 ≤ 23 := by omega
  have b2 : 0 ≤ r / 60 % 60 ∧ r / 60 % 60 ≤ 59 := by omega
  have b3 : 0 ≤ r % 60 ∧ r % 60 ≤ 59 := by omega
  generalize r / 3600 = h at *
  generalize r / 60 % 60 = m at *
  generalize r % 60 = c at *
  rw [w64 (n := Y - 1980) (by omega), w64 (n := (Y - 1980) * 512) (by omega), w64 (n := M * 32) (by omega), i64_join 9 _ (M * 32) (by omega) (by omega) (by omega) (by omega) (by omega) (by omega),
    i64_join 5 _ D (by omega) (by omega) (by omega) (by omega) (by omega) (by omega), w64 (n := ((Y - 1980) * 512 + M * 32 + D) * 65536) (by omega), w64 (n := h * 2048) (by omega), w64 (n := m * 32) (by omega), tdiv_pos b3.1, w64 (n := c / 2) (by omega),
    i64_join 16 _ (h * 2048) (by omega) (by omega) (by omega) (by omega) (by omega) (by omega), i64_join 11 _ (m * 32) (by omega) (by omega) (by omega) (by omega) (by omega) (by omega), i64_join 5 _ (c / 2) (by omega) (by omega) (by omega) (by omega) (by omega) (by omega)]
  congr 1
  omega
theorem dosS_mono {s t : Int} (h : s ≤ t) : dosS s ≤ dosS t := by
  have hc : s / 86400 < t / 86400 ∨ (s / 86400 = t / 86400 ∧ s % 86400 ≤ t % 86400) := by omega
  unfold dosS
  have b1 : 0 ≤ s % 86400 ∧ s % 86400 < 86400 := by omega
  have b2 : 0 ≤ t % 86400 ∧ t % 86400 < 86400 := by omega
  rcases hc with hc | ⟨hc, hr⟩
  · have := code_lt hc
    generalize s % 86400 = r at *
    generalize t % 86400 = q at *
    generalize code (s / 86400) = x at *
    generalize code (t / 86400) = y at *
    omega
  · rw [hc]
    generalize s % 86400 = r at *
    generalize t % 86400 = q at *
    have e1 : r / 3600 = r / 60 / 60 := by omega
    have e2 : q / 3600 = q / 60 / 60 := by omega
    rw [e1, e2]
    have e3 : r / 60 ≤ q / 60 := by omega
    have e4 : r / 60 = q / 60 → r % 60 ≤ q % 60 := by omega
    have e5 : 0 ≤ r % 60 ∧ r % 60 < 60 := by omega
    have e6 : 0 ≤ q % 60 ∧ q % 60 < 60 := by omega
    have e7 : r / 60 / 60 * 2048 + r / 60 % 60 * 32 = r / 60 * 32 + r / 60 / 60 * 128 := by omega
    have e8 : q / 60 / 60 * 2048 + q / 60 % 60 * 32 = q / 60 * 32 + q / 60 / 60 * 128 := by omega
    have e9 : r / 60 / 60 ≤ q / 60 / 60 := by omega
    generalize r % 60 = c at *
    generalize q % 60 = d at *
    generalize r / 60 / 60 = u at *
    generalize q / 60 / 60 = v at *
    generalize r / 60 = a at *
    generalize q / 60 = b at *
    by_cases hab : a = b
    · have := e4 hab
      omega
    · omega
def dosOf (x : Nat) : Int := match key x with | none => 0 | some a => dosS (clampTo 315532800 4354819200 4354819199 a)
theorem dos_top : dosS 4354819198 = dosS 4354819199 := by decide +kernel
theorem Dos_eq (k x : Nat) (hk0 : 1 ≤ k) : clock_Dos.f k x = some (dosOf x) := by
  have hU := U_pos
  unfold clock_Dos.f dosOf
  cases hk : key x with
  | none => rw [if_pos (nan_ne hk)]
  | some a =>
    rw [if_neg (by rw [not_nan hk]; decide), ord_lt hk key_first, ord_ge hk key_last]
    dsimp only
    unfold clampTo
    by_cases h1 : a < 315532800 * U
    · rw [if_pos (decide_eq_true h1), if_pos h1]
      exact pack_eq k _ hk0 (by decide) (by decide)
    · rw [if_neg (by rw [decide_eq_false h1]; decide), if_neg h1]
      by_cases h2 : 4354819200 * U ≤ a
      · rw [if_pos (decide_eq_true h2), if_pos h2, ← dos_top]
        exact pack_eq k _ hk0 (by decide) (by decide)
      · obtain ⟨g1, g2, g3⟩ := floor_sec hk (by omega) (by omega)
        rw [if_neg (by rw [decide_eq_false h2]; decide), if_neg h2, floor_f hk, Option.bind_some, if_pos g2, g3]
        have g4 : 315532800 ≤ a / U := (Int.le_ediv_iff_mul_le hU).2 (by omega)
        have g5 : a / U < 4354819200 := (Int.ediv_lt_iff_lt_mul hU).2 (by omega)
        exact pack_eq k _ hk0 g4 (by omega)
theorem dosOf_mono {x y : Nat} {a b : Int} (hx : key x = some a) (hy : key y = some b) (h : a ≤ b) : dosOf x ≤ dosOf y := by
  unfold dosOf
  rw [hx, hy]
  exact dosS_mono (clamp_mono (by decide) (by decide) h)
theorem unixOf_mono {x y : Nat} {a b : Int} (hx : key x = some a) (hy : key y = some b) (h : a ≤ b) : unixOf x ≤ unixOf y := by
  unfold unixOf
  rw [hx, hy]
  exact clamp_mono (by decide) (by decide) h
end Go.Proofs.YtfmfikodnpnblaaGreatDoor.ClkDateEq
namespace Go.Proofs.YtfmfikodnpnblaaGreatDoor.ClkSecs
open Go.RowKit Go.Proofs Go.Proofs.YtfmfikodnpnblaaGreatDoorW.PrintWords Go.Proofs.YtfmfikodnpnblaaGreatDoor.PClk1 Go.Proofs.YtfmfikodnpnblaaGreatDoor.PClkB Go.Proofs.YtfmfikodnpnblaaGreatDoor.PClkE Go.Proofs.YtfmfikodnpnblaaGreatDoor.ClkDate Go.Proofs.YtfmfikodnpnblaaGreatDoor.ClkLib Go.Proofs.YtfmfikodnpnblaaGreatDoor.ClkDays Go.Proofs.YtfmfikodnpnblaaGreatDoor.Flt Go.Proofs.YtfmfikodnpnblaaGreatDoor.FltClk Go.Proofs.YtfmfikodnpnblaaGreatDoor.ClkFloat Go.Proofs.YtfmfikodnpnblaaGreatDoor.Cal Go.Proofs.YtfmfikodnpnblaaGreatDoor.ClkDateEq

theorem long_eq (y m : Int) (hy : -1000 ≤ y ∧ y ≤ 100000) (hm : 1 ≤ m ∧ m ≤ 12) : clock_long.f y m = some (mlen y m) := by
  unfold clock_long.f
  have h := month_len y m hm.1 hm.2
  by_cases hc : m = 12
  · subst hc; rfl
  · have b1 := dayNum_bound y (m + 1) 1 (by omega) (by omega) (by omega)
    have b2 := dayNum_bound y m 1 (by omega) (by omega) (by omega)
    rw [if_pos (by omega)] at h
    rw [if_neg hc, w64 (n := m + 1) (by omega), days_eq y (m + 1) 1 (by omega) (by omega) (by omega), Option.bind_some, days_eq y m 1 (by omega) hm (by omega), Option.bind_some, w64 (by omega), h]
def okDate (y m d h i s : Int) : Prop := 1 ≤ y ∧ y ≤ 9999 ∧ 1 ≤ m ∧ m ≤ 12 ∧ 1 ≤ d ∧ d ≤ mlen y m ∧ 0 ≤ h ∧ h ≤ 23 ∧ 0 ≤ i ∧ i ≤ 59 ∧ 0 ≤ s ∧ s ≤ 59
instance (y m d h i s : Int) : Decidable (okDate y m d h i s) := by unfold okDate; infer_instance
def secs (y m d h i s : Int) : Int := dayNum y m d * 86400 + h * 3600 + i * 60 + s
theorem mlen_le (y m : Int) : 28 ≤ mlen y m ∧ mlen y m ≤ 31 := by
  unfold mlen
  split
  · split <;> omega
  · split <;> omega
theorem Seconds_eq (k : Nat) (y m d h i s : Int) (hk : 1 ≤ k) : clock_Seconds.f k y m d h i s = some (if okDate y m d h i s then (secs y m d h i s, true) else (0, false)) := by
  obtain ⟨k, rfl⟩ : ∃ j, k = j + 1 := ⟨k - 1, by omega⟩
  have bad : clock_Seconds.j0 (k + 1) true y m d h i s = some (0, false) := by rw [clock_Seconds.j0, if_pos rfl]
  unfold clock_Seconds.f
  by_cases g1 : y < 1
  · rw [if_pos g1, bad, if_neg (by unfold okDate; omega)]
  rw [if_neg g1]
  by_cases g2 : y > 9999
  · rw [if_pos g2, bad, if_neg (by unfold okDate; omega)]
  rw [if_neg g2]
  by_cases g3 : m < 1
  · rw [if_pos g3, bad, if_neg (by unfold okDate; omega)]
  rw [if_neg g3]
  by_cases g4 : m > 12
  · rw [if_pos g4, bad, if_neg (by unfold okDate; omega)]
  rw [if_neg g4]
  by_cases g5 : d < 1
  · rw [if_pos g5, bad, if_neg (by unfold okDate; omega)]
  rw [if_neg g5, long_eq y m (by omega) (by omega), Option.bind_some]
  by_cases g6 : d > mlen y m
  · rw [decide_eq_true g6, bad, if_neg (by unfold okDate; omega)]
  rw [decide_eq_false g6, clock_Seconds.j0, if_neg (by decide)]
  by_cases g7 : h < 0
  · rw [if_pos g7, if_neg (by unfold okDate; omega)]
  rw [if_neg g7]
  by_cases g8 : h > 23
  · rw [if_pos g8, if_neg (by unfold okDate; omega)]
  rw [if_neg g8]
  by_cases g9 : i < 0
  · rw [if_pos g9, if_neg (by unfold okDate; omega)]
  rw [if_neg g9]
  by_cases g10 : i > 59
  · rw [if_pos g10, if_neg (by unfold okDate; omega)]
  rw [if_neg g10]
  by_cases g11 : s < 0
  · rw [if_pos g11, if_neg (by unfold okDate; omega)]
  rw [if_neg g11]
  by_cases g12 : s > 59
  · rw [if_pos g12, if_neg (by unfold okDate; omega)]
  have hl := mlen_le y m
  have b := dayNum_bound y m d (by omega) (by omega) (by omega)
  rw [if_neg g12, days_eq y m d (by omega) (by omega) (by omega), Option.bind_some, if_pos (by unfold okDate; omega)]
  unfold secs
  rw [w64 (n := dayNum y m d * 86400) (by omega), w64 (n := h * 3600) (by omega), w64 (n := i * 60) (by omega), w64 (n := dayNum y m d * 86400 + h * 3600) (by omega), w64 (n := dayNum y m d * 86400 + h * 3600 + i * 60) (by omega), w64 (by omega)]

/-! ### NaN -/
theorem nan_const : key 9221120237041090561 = none := ClkTold.nan_key (ClkTold.read_nan _ 2251799813685248 (by decide) (.inl (by decide)))
def secKey : Option Int → Option Int
  | none => none
  | some s => some (s * U)
theorem FromUnix_eq (m : Int) : ∃ r, clock_FromUnix.f m = some r ∧ key r = secKey (if 1 ≤ m ∧ m ≤ 4294967295 then some m else none) := by
  unfold clock_FromUnix.f
  by_cases h1 : m < 1
  · rw [if_pos h1, if_neg (by omega)]
    exact ⟨_, rfl, nan_const⟩
  · rw [if_neg h1]
    by_cases h2 : m > 4294967295
    · rw [if_pos h2, if_neg (by omega)]
      exact ⟨_, rfl, nan_const⟩
    · rw [if_neg h2, if_pos (by omega)]
      exact ⟨_, rfl, key_ofInt m (by omega)⟩

/-! ### a DOS time's parts -/
def dosOk (v : Int) : Prop := 0 ≤ v ∧ v ≤ 4294967295 ∧ okDate (1980 + v / 33554432) (v / 2097152 % 16) (v / 65536 % 32) (v / 2048 % 32) (v / 32 % 64) (v % 32 * 2)
instance (v : Int) : Decidable (dosOk v) := by unfold dosOk; infer_instance
def dosSecs (v : Int) : Int := secs (1980 + v / 33554432) (v / 2097152 % 16) (v / 65536 % 32) (v / 2048 % 32) (v / 32 % 64) (v % 32 * 2)
def fdos (v : Int) : Option Int := if dosOk v then some (dosSecs v) else none
theorem secs_small {y m d h i s : Int} (hd : okDate y m d h i s) : (secs y m d h i s).natAbs < 9007199254740992 := by
  have hl := mlen_le y m
  unfold okDate at hd
  have b := dayNum_bound y m d (by omega) (by omega) (by omega)
  unfold secs
  omega
theorem FromDos_eq (k : Nat) (v : Int) (hk : 2 ≤ k) : ∃ r, clock_FromDos.f k v = some r ∧ key r = secKey (fdos v) := by
  obtain ⟨k, rfl⟩ : ∃ j, k = j + 1 := ⟨k - 1, by omega⟩
  have bad : ∃ r, clock_FromDos.j0 (k + 1) v true = some r ∧ key r = none := ⟨_, by rw [clock_FromDos.j0, if_pos rfl]; rfl, nan_const⟩
  unfold clock_FromDos.f fdos
  by_cases h1 : v < 0
  · rw [if_pos h1, if_neg (by unfold dosOk; omega)]; exact bad
  rw [if_neg h1]
  by_cases h2 : v > 4294967295
  · rw [decide_eq_true h2, if_neg (by unfold dosOk; omega)]; exact bad
  have a1 : Go.bits .and .i64 (v / 2097152) 15 = v / 2097152 % 16 := i64_mask 4 (by decide) _ (by omega) (by omega)
  have a2 : Go.bits .and .i64 (v / 65536) 31 = v / 65536 % 32 := i64_mask 5 (by decide) _ (by omega) (by omega)
  have a3 : Go.bits .and .i64 (v / 2048) 31 = v / 2048 % 32 := i64_mask 5 (by decide) _ (by omega) (by omega)
  have a4 : Go.bits .and .i64 (v / 32) 63 = v / 32 % 64 := i64_mask 6 (by decide) _ (by omega) (by omega)
  have a5 : Go.bits .and .i64 v 31 = v % 32 := i64_mask 5 (by decide) _ (by omega) (by omega)
  rw [decide_eq_false h2, clock_FromDos.j0, if_neg (by decide), a1, a2, a3, a4, a5, w64 (n := 1980 + v / 33554432) (by omega), w64 (n := v % 32 * 2) (by omega), Seconds_eq k _ _ _ _ _ _ (by omega), Option.bind_some]
  by_cases hd : okDate (1980 + v / 33554432) (v / 2097152 % 16) (v / 65536 % 32) (v / 2048 % 32) (v / 32 % 64) (v % 32 * 2)
  · rw [if_pos hd, if_pos rfl, if_pos (show dosOk v from ⟨by omega, by omega, hd⟩)]
    exact ⟨_, rfl, key_ofInt _ (secs_small hd)⟩
  · rw [if_neg hd, if_neg (by decide), if_neg (show ¬ dosOk v from fun h => hd h.2.2)]
    exact ⟨_, rfl, nan_const⟩

/-! ### there and back -/
theorem day_mlen (n : Int) : (dayOf n : Int) ≤ mlen (yearOf n) (monthOf n) := by
  rcases Int.lt_or_le (mlen (yearOf n) (monthOf n)) (dayOf n) with h | h
  · exfalso
    obtain ⟨m0, m1⟩ := month_range n
    have hd := day_le n
    have hl := mlen_le (yearOf n) (monthOf n)
    have hml := month_len (yearOf n) (monthOf n) m0 m1
    have hn := dayNum_date n
    have hs := day_step (yearOf n) (monthOf n) (dayOf n) 1
    by_cases hc : monthOf n < 12
    · rw [if_pos hc] at hml
      have hl2 := mlen_le (yearOf n) (monthOf n + 1)
      have hs2 := day_step (yearOf n) (monthOf n + 1) (dayOf n - mlen (yearOf n) (monthOf n)) 1
      have e : dayNum (yearOf n) (monthOf n + 1) (dayOf n - mlen (yearOf n) (monthOf n)) = n := by omega
      have hb := date_dayNum (yearOf n) (monthOf n + 1) (dayOf n - mlen (yearOf n) (monthOf n)) (by omega) (by omega) (by omega) (by omega)
      rw [e] at hb
      omega
    · rw [if_neg hc] at hml
      have hl2 := mlen_le (yearOf n + 1) 1
      have hs2 := day_step (yearOf n + 1) 1 (dayOf n - mlen (yearOf n) (monthOf n)) 1
      have e : dayNum (yearOf n + 1) 1 (dayOf n - mlen (yearOf n) (monthOf n)) = n := by omega
      have hb := date_dayNum (yearOf n + 1) 1 (dayOf n - mlen (yearOf n) (monthOf n)) (by omega) (by omega) (by omega) (by omega)
      rw [e] at hb
      omega
  · exact h
theorem dosS_even (s : Int) : dosS (s - s % 2) = dosS s := by
  unfold dosS
  have e1 : (s - s % 2) / 86400 = s / 86400 := by omega
  have e2 : (s - s % 2) % 86400 = s % 86400 - s % 86400 % 2 := by omega
  rw [e1, e2]
  have hr : 0 ≤ s % 86400 := by omega
  generalize s % 86400 = r at *
  have e3 : (r - r % 2) / 3600 = r / 3600 := by omega
  have e4 : (r - r % 2) / 60 = r / 60 := by omega
  have e5 : (r - r % 2) % 60 / 2 = r % 60 / 2 := by omega
  rw [e3, e4, e5]
theorem fdos_dosS {s : Int} (h0 : 315532800 ≤ s) (h1 : s ≤ 4354819199) : fdos (dosS s) = some (s - s % 2) := by
  have hdn := dayNum_date (s / 86400)
  have hml := day_mlen (s / 86400)
  obtain ⟨y0, y1⟩ := date_range (n := s / 86400) (by omega) (by omega)
  obtain ⟨m0, m1⟩ := month_range (s / 86400)
  have d0 := day_pos (s / 86400)
  have d1 := day_le (s / 86400)
  have hsr : s = s / 86400 * 86400 + s % 86400 := by omega
  have hr : 0 ≤ s % 86400 ∧ s % 86400 < 86400 := by omega
  have he : s % 2 = s % 86400 % 2 := by omega
  rw [he]
  obtain ⟨v, hv⟩ : ∃ v, dosS s = v := ⟨_, rfl⟩
  rw [hv]
  unfold dosS code at hv
  have hT : s - s % 86400 % 2 = s / 86400 * 86400 + s % 86400 - s % 86400 % 2 := by omega
  rw [hT]
  clear hsr he h0 h1 hT
  have hD : (1 : Int) ≤ dayOf (s / 86400) ∧ (dayOf (s / 86400) : Int) ≤ 31 := by omega
  clear d0 d1
  generalize yearOf (s / 86400) = Y at *
  generalize monthOf (s / 86400) = M at *
  generalize (dayOf (s / 86400) : Int) = D at *
  generalize s / 86400 = n at *
  generalize s % 86400 = r at *
  have b1 : 0 ≤ r / 3600 ∧ r / 3600 ≤ 23 := by omega
  have b2 : 0 ≤ r / 60 % 60 ∧ r / 60 % 60 ≤ 59 := by omega
  have b3 : 0 ≤ r % 60 ∧ r % 60 ≤ 59 := by omega
  have hrr : r = r / 3600 * 3600 + r / 60 % 60 * 60 + r % 60 := by
    have : r / 3600 = r / 60 / 60 := by omega
    omega
  have hr2 : r % 2 = r % 60 % 2 := by omega
  rw [hr2]
  generalize r / 3600 = h at *
  generalize r / 60 % 60 = i at *
  generalize r % 60 = c at *
  have e1 : v / 33554432 = Y - 1980 := by omega
  have f2 : v / 2097152 = (Y - 1980) * 16 + M := by omega
  have f3 : v / 65536 = ((Y - 1980) * 16 + M) * 32 + D := by omega
  have f4 : v / 2048 = (((Y - 1980) * 16 + M) * 32 + D) * 32 + h := by omega
  have f5 : v / 32 = ((((Y - 1980) * 16 + M) * 32 + D) * 32 + h) * 64 + i := by omega
  have e2 : v / 2097152 % 16 = M := by rw [f2]; omega
  have e3 : v / 65536 % 32 = D := by rw [f3]; omega
  have e4 : v / 2048 % 32 = h := by rw [f4]; omega
  have e5 : v / 32 % 64 = i := by rw [f5]; omega
  have e6 : v % 32 = c / 2 := by omega
  have hv0 : 0 ≤ v ∧ v ≤ 4294967295 := by omega
  have hok : okDate Y M D h i (c / 2 * 2) := by unfold okDate; omega
  have hq : dosOk v := by
    refine ⟨hv0.1, hv0.2, ?_⟩
    rw [e1, e2, e3, e4, e5, e6, show 1980 + (Y - 1980) = Y by omega]
    exact hok
  unfold fdos
  rw [if_pos hq]
  unfold dosSecs
  rw [e1, e2, e3, e4, e5, e6, show 1980 + (Y - 1980) = Y by omega]
  unfold secs
  rw [hdn]
  congr 1
  omega
theorem dosS_fdos {v S : Int} (h : fdos v = some S) : dosS S = v ∧ 315532800 ≤ S ∧ S ≤ 4354819199 ∧ S % 2 = 0 := by
  unfold fdos at h
  by_cases hc : dosOk v
  · rw [if_pos hc] at h
    injection h with h
    obtain ⟨h0, h1, y0, y1, m0, m1, d0, d1, hh0, hh1, i0, i1, s0, s1⟩ := hc
    have hv : v = v / 33554432 * 33554432 + v / 2097152 % 16 * 2097152 + v / 65536 % 32 * 65536 + v / 2048 % 32 * 2048 + v / 32 % 64 * 32 + v % 32 := by omega
    have ha : 0 ≤ v / 33554432 ∧ v / 33554432 ≤ 127 := by omega
    have hc : 0 ≤ v % 32 ∧ v % 32 ≤ 31 := by omega
    unfold dosSecs secs at h
    generalize v / 33554432 = a at *
    generalize v / 2097152 % 16 = M at *
    generalize v / 65536 % 32 = D at *
    generalize v / 2048 % 32 = hh at *
    generalize v / 32 % 64 = i at *
    generalize v % 32 = c at *
    obtain ⟨f1, f2, f3⟩ := date_dayNum (1980 + a) M D m0 m1 d0 d1
    have hl := mlen_le (1980 + a) M
    generalize dayNum (1980 + a) M D = n at *
    have hn : S / 86400 = n := by omega
    have hr : S % 86400 = hh * 3600 + i * 60 + c * 2 := by omega
    have hcode : code n = (1980 + a) * 512 + M * 32 + D := by unfold code; rw [f1, f2, f3]
    have g0 : 3652 ≤ n := by
      rcases Int.lt_or_le n 3652 with hlt | hge
      · have := code_lt hlt; rw [code_first] at this; omega
      · exact hge
    have g1 : n ≤ 50402 := by
      rcases Int.lt_or_le 50402 n with hlt | hge
      · have := code_lt hlt; rw [code_last] at this; omega
      · exact hge
    refine ⟨?_, by omega, by omega, by omega⟩
    unfold dosS
    rw [hn, hr, hcode]
    have e1 : (hh * 3600 + i * 60 + c * 2) / 3600 = hh := by omega
    have e2 : (hh * 3600 + i * 60 + c * 2) / 60 % 60 = i := by omega
    have e3 : (hh * 3600 + i * 60 + c * 2) % 60 / 2 = c := by omega
    rw [e1, e2, e3]
    omega
  · rw [if_neg hc] at h; cases h
end Go.Proofs.YtfmfikodnpnblaaGreatDoor.ClkSecs
namespace Go.Proofs.YtfmfikodnpnblaaGreatDoor.ClkRefFloat
open Go.RowKit Go.Proofs Go.Proofs.YtfmfikodnpnblaaGreatDoorW.PrintWords Go.Proofs.YtfmfikodnpnblaaGreatDoor.PClkR Go.Proofs.YtfmfikodnpnblaaGreatDoor.ClkDays Go.Proofs.YtfmfikodnpnblaaGreatDoor.Flt Go.Proofs.YtfmfikodnpnblaaGreatDoor.FltClk Go.Proofs.YtfmfikodnpnblaaGreatDoor.ClkFloat

theorem whole_eq {x : Nat} {a : Int} (hx : key x = some a) (hb : a.natAbs < Flt.p2 1250) (h0 : -9007199254740991 ≤ a / U) (h1 : a / U ≤ 9007199254740990) : stevedoreref4_whole.f x = some (a / U) := by
  obtain ⟨n, hn, hnk, hna, hc⟩ := whole_key hx hb h0 h1
  have hn' := fint_of hn
  unfold stevedoreref4_whole.f
  rw [if_pos hn'.1, hn'.2, ord_gt hnk hx]
  rcases hc with ⟨h2, h3⟩ | ⟨h2, h3⟩
  · rw [if_pos (decide_eq_true (by omega)), w64 (by omega), h3]
  · rw [if_neg (by rw [decide_eq_false (by omega)]; decide), h3]
end Go.Proofs.YtfmfikodnpnblaaGreatDoor.ClkRefFloat
namespace Go.Proofs.YtfmfikodnpnblaaGreatDoor.ClkRefDays
open Go.RowKit Go.Proofs Go.Proofs.YtfmfikodnpnblaaGreatDoorW.PrintWords Go.Proofs.YtfmfikodnpnblaaGreatDoor.PClk1 Go.Proofs.YtfmfikodnpnblaaGreatDoor.PClkR Go.Proofs.YtfmfikodnpnblaaGreatDoor.PClkQ Go.Proofs.YtfmfikodnpnblaaGreatDoor.ClkDate Go.Proofs.YtfmfikodnpnblaaGreatDoor.ClkDays Go.Proofs.YtfmfikodnpnblaaGreatDoor.ClkMonth Go.Proofs.YtfmfikodnpnblaaGreatDoor.ClkDateEq Go.Proofs.YtfmfikodnpnblaaGreatDoor.ClkSecs Go.Proofs.YtfmfikodnpnblaaGreatDoor.Cal Go.Proofs.YtfmfikodnpnblaaGreatDoor.Civil

theorem floor_eq (a b : Int) (hb : 1 ≤ b) (hb' : b ≤ 1000000) (ha : -1000000000000000000 ≤ a ∧ a ≤ 1000000000000000000) : stevedoreref4_floor.f a b = some (a / b) := by
  have h := down_eq a b hb hb' ha
  unfold clock_down.f at h
  unfold stevedoreref4_floor.f
  rw [if_neg (by omega)] at h ⊢
  split
  · rename_i h0
    rw [if_pos h0] at h
    simp only [Option.some.injEq, Prod.mk.injEq] at h
    rw [h.1]
  · rename_i h0
    rw [if_neg h0] at h
    simp only [Option.some.injEq, Prod.mk.injEq] at h
    rw [h.1]
def aheadN (y : Int) : Int := y * 365 + (y - 1) / 4 - (y - 1) / 100 + (y - 1) / 400 + 1
theorem ahead_eq (y : Int) (hy : -1000000 ≤ y ∧ y ≤ 1000000) : stevedoreref4_ahead.f y = some (aheadN y) := by
  unfold stevedoreref4_ahead.f aheadN
  rw [w64 (n := y - 1) (by omega), floor_eq _ 4 (by decide) (by decide) (by omega), Option.bind_some, floor_eq _ 100 (by decide) (by decide) (by omega), Option.bind_some, floor_eq _ 400 (by decide) (by decide) (by omega), Option.bind_some]
  rw [w64 (n := y * 365) (by omega), w64 (n := y * 365 + (y - 1) / 4) (by omega), w64 (n := y * 365 + (y - 1) / 4 - (y - 1) / 100) (by omega), w64 (n := y * 365 + (y - 1) / 4 - (y - 1) / 100 + (y - 1) / 400) (by omega), w64 (by omega)]
theorem ahead_day (y : Int) : aheadN y - aheadN 1970 = dayNum y 1 1 := by
  have e : aheadN 1970 = 719528 := by decide
  rw [e]
  unfold aheadN dayNum
  simp only [show (1 : Int) ≤ 2 by decide, if_true]
  omega
theorem Days2_eq (y : Int) (hy : -1000000 ≤ y ∧ y ≤ 1000000) : stevedoreref4_Days2.f y = some (dayNum y 1 1) := by
  have b := dayNum_bound y 1 1 hy (by omega) (by omega)
  unfold stevedoreref4_Days2.f
  rw [ahead_eq y hy, Option.bind_some, ahead_eq 1970 (by omega), Option.bind_some, ahead_day, w64 (by omega)]
theorem Days_l : ∀ (j : Nat) (k : Nat) (y m d i : Int), i = m - j → 1 ≤ i → m ≤ 12 → j + 1 ≤ k → -100000 ≤ y ∧ y ≤ 100000 → 1 ≤ d ∧ d ≤ 31 → stevedoreref4_Days.l0 k y m d (dayNum y i 1) i = some (dayNum y m d)
  | 0, k + 1, y, m, d, i, hi, h1, hm, hk, hy, hd => by
    have hi' : i = m := by omega
    subst hi'
    have b := dayNum_bound y i 1 (by omega) (by omega) (by omega)
    have s := day_step y i d 1
    rw [stevedoreref4_Days.l0, if_neg (by omega), w64 (n := dayNum y i 1 + d) (by omega), w64 (by omega)]
    congr 1
    omega
  | j + 1, k + 1, y, m, d, i, hi, h1, hm, hk, hy, hd => by
    have b := dayNum_bound y i 1 (by omega) (by omega) (by omega)
    have hl := mlen_le y i
    have hml := month_len y i h1 (by omega)
    rw [if_pos (by omega)] at hml
    rw [stevedoreref4_Days.l0, if_pos (by omega), Month_eq y i (by omega), Option.bind_some, w64 (n := dayNum y i 1 + mlen y i) (by omega), w64 (n := i + 1) (by omega), show dayNum y i 1 + mlen y i = dayNum y (i + 1) 1 by omega]
    exact Days_l j k y m d (i + 1) (by omega) (by omega) hm (by omega) hy hd
def okDay (y m d : Int) : Prop := -100000 ≤ y ∧ y ≤ 100000 ∧ 1 ≤ m ∧ m ≤ 12 ∧ 1 ≤ d ∧ d ≤ 31
instance (y m d : Int) : Decidable (okDay y m d) := by unfold okDay; infer_instance
theorem refDays_eq (k : Nat) (y m d : Int) (hk : 20 ≤ k) : stevedoreref4_Days.f k y m d = some (if okDay y m d then dayNum y m d else 0) := by
  obtain ⟨k, rfl⟩ : ∃ j, k = j + 1 := ⟨k - 1, by omega⟩
  have bad : stevedoreref4_Days.j0 (k + 1) y m d true = some 0 := by rw [stevedoreref4_Days.j0, if_pos rfl]
  unfold stevedoreref4_Days.f
  by_cases g1 : y < -100000
  · rw [if_pos g1, bad, if_neg (by unfold okDay; omega)]
  rw [if_neg g1]
  by_cases g2 : y > 100000
  · rw [if_pos g2, bad, if_neg (by unfold okDay; omega)]
  rw [if_neg g2]
  by_cases g3 : m < 1
  · rw [if_pos g3, bad, if_neg (by unfold okDay; omega)]
  rw [if_neg g3]
  by_cases g4 : m > 12
  · rw [if_pos g4, bad, if_neg (by unfold okDay; omega)]
  rw [if_neg g4]
  by_cases g5 : d < 1
  · rw [if_pos g5, bad, if_neg (by unfold okDay; omega)]
  rw [if_neg g5]
  by_cases g6 : d > 31
  · rw [decide_eq_true g6, bad, if_neg (by unfold okDay; omega)]
  have b := dayNum_bound y 1 1 (by omega) (by omega) (by omega)
  rw [decide_eq_false g6, stevedoreref4_Days.j0, if_neg (by decide), ahead_eq y (by omega), Option.bind_some, ahead_eq 1970 (by omega), Option.bind_some, ahead_day, w64 (n := dayNum y 1 1) (by omega), if_pos (show okDay y m d by unfold okDay; omega)]
  exact Days_l (m - 1).toNat k y m d 1 (by omega) (by omega) (by omega) (by omega) (by omega) (by omega)
theorem Days_is (y m d : Int) : clock_Days.f y m d = some (if okDay y m d then dayNum y m d else 0) := by
  by_cases h : okDay y m d
  · rw [if_pos h, Days_eq y m d ⟨h.1, h.2.1⟩ ⟨h.2.2.1, h.2.2.2.1⟩ ⟨h.2.2.2.2.1, h.2.2.2.2.2⟩]
  · rw [if_neg h]
    unfold okDay at h
    unfold clock_Days.f
    by_cases g1 : y < -100000
    · rw [if_pos g1]
    rw [if_neg g1]
    by_cases g2 : y > 100000
    · rw [if_pos g2]
    rw [if_neg g2]
    by_cases g3 : m < 1
    · rw [if_pos g3]
    rw [if_neg g3]
    by_cases g4 : m > 12
    · rw [if_pos g4]
    rw [if_neg g4]
    by_cases g5 : d < 1
    · rw [if_pos g5]
    rw [if_neg g5, if_pos (by omega)]

/-! ### Date -/
theorem jan_mono {a b : Int} (h : a ≤ b) : dayNum a 1 1 ≤ dayNum b 1 1 := by
  obtain ⟨j, rfl⟩ : ∃ j : Nat, b = a + j := ⟨(b - a).toNat, by omega⟩
  clear h
  induction j with
  | zero => simp
  | succ j ih =>
    have hl := year_len (a + j)
    have : dayNum (a + j) 1 1 ≤ dayNum (a + j + 1) 1 1 := by split at hl <;> omega
    rw [show a + ((j + 1 : Nat) : Int) = a + j + 1 by omega]
    omega
theorem first_mono (y : Int) : ∀ (j : Nat) (a : Int), 1 ≤ a → a + j ≤ 12 → dayNum y a 1 ≤ dayNum y (a + j) 1
  | 0, a, _, _ => by simp
  | j + 1, a, h, h' => by
    have ih := first_mono y j a h (by omega)
    have hml := month_len y (a + j) (by omega) (by omega)
    have hl := mlen_le y (a + j)
    rw [if_pos (by omega)] at hml
    rw [show a + ((j + 1 : Nat) : Int) = a + j + 1 by omega]
    omega
theorem first_le {y a b : Int} (h : a ≤ b) (h0 : 1 ≤ a) (h1 : b ≤ 12) : dayNum y a 1 ≤ dayNum y b 1 := by
  have := first_mono y (b - a).toNat a h0 (by omega)
  rwa [show a + ((b - a).toNat : Int) = b by omega] at this
theorem year_span (n : Int) : dayNum (yearOf n) 1 1 ≤ n ∧ n < dayNum (yearOf n + 1) 1 1 := by
  obtain ⟨m0, m1⟩ := month_range n
  have hd0 := day_pos n
  have hdm := day_mlen n
  have hdn := dayNum_date n
  have hs := day_step (yearOf n) (monthOf n) (dayOf n) 1
  have h1 := first_le (y := yearOf n) m0 (by omega) m1
  refine ⟨by omega, ?_⟩
  have hml := month_len (yearOf n) (monthOf n) m0 m1
  by_cases hc : monthOf n < 12
  · rw [if_pos hc] at hml
    have h2 := first_le (y := yearOf n) (a := monthOf n + 1) (b := 12) (by omega) (by omega) (by omega)
    have hml2 := month_len (yearOf n) 12 (by omega) (by omega)
    rw [if_neg (by omega)] at hml2
    have hl := mlen_le (yearOf n) 12
    omega
  · rw [if_neg hc] at hml
    omega
theorem l2_eq (n r : Int) (hn : -20000000 ≤ n ∧ n ≤ 20000000) (hr : 0 ≤ r ∧ r < 86400) : ∀ (j k : Nat) (i : Int), i = monthOf n - j → 1 ≤ i → j + 1 ≤ k →
    stevedoreref4_Date.l2 k (n - dayNum (yearOf n) i 1) r (yearOf n) i = some (yearOf n, monthOf n, (dayOf n : Int), r / 3600, r / 60 % 60, r % 60)
  | 0, k + 1, i, hi, h1, hk => by
    have hi' : i = monthOf n := by omega
    subst hi'
    obtain ⟨m0, m1⟩ := month_range n
    have hd0 := day_pos n
    have hd1 := day_le n
    have hdm := day_mlen n
    have hdn := dayNum_date n
    have hs := day_step (yearOf n) (monthOf n) (dayOf n) 1
    rw [stevedoreref4_Date.l2, Month_eq _ _ ⟨m0, m1⟩, Option.bind_some, if_neg (by omega), w64 (n := n - dayNum (yearOf n) (monthOf n) 1 + 1) (by omega), tdiv_pos hr.1, w64 (n := r / 3600) (by omega), tdiv_pos hr.1, w64 (n := r / 60) (by omega), tmod_pos (by omega), tmod_pos hr.1]
    congr 4
    omega
  | j + 1, k + 1, i, hi, h1, hk => by
    obtain ⟨m0, m1⟩ := month_range n
    have hd0 := day_pos n
    have hdn := dayNum_date n
    have hs := day_step (yearOf n) (monthOf n) (dayOf n) 1
    have hml := month_len (yearOf n) i h1 (by omega)
    rw [if_pos (by omega)] at hml
    have hle := first_le (y := yearOf n) (a := i + 1) (b := monthOf n) (by omega) (by omega) m1
    obtain ⟨_, _, f2, _, _⟩ := day_facts n
    have he : -200 ≤ era n ∧ era n ≤ 200 := by unfold era; omega
    have hyb : -1000000 ≤ yearOf n ∧ yearOf n ≤ 1000000 := by unfold yearOf; split <;> omega
    have b1 := dayNum_bound (yearOf n) i 1 hyb (by omega) (by omega)
    have b2 := dayNum_bound (yearOf n) (i + 1) 1 hyb (by omega) (by omega)
    rw [stevedoreref4_Date.l2, Month_eq _ _ (by omega), Option.bind_some, if_pos (by omega), Option.bind_some, w64 (n := n - dayNum (yearOf n) i 1 - mlen (yearOf n) i) (by omega), w64 (n := i + 1) (by omega),
      show n - dayNum (yearOf n) i 1 - mlen (yearOf n) i = n - dayNum (yearOf n) (i + 1) 1 by omega]
    exact l2_eq n r hn hr j k (i + 1) (by omega) (by omega) (by omega)
theorem year_fair {n : Int} (hn : -20000000 ≤ n ∧ n ≤ 20000000) : -90000 ≤ yearOf n ∧ yearOf n ≤ 90000 := by
  obtain ⟨_, _, f2, _, _⟩ := day_facts n
  have he : -200 ≤ era n ∧ era n ≤ 200 := by unfold era; omega
  unfold yearOf
  split <;> omega
theorem l1_eq (k : Nat) (n r : Int) (hn : -20000000 ≤ n ∧ n ≤ 20000000) (hr : 0 ≤ r ∧ r < 86400) (hk : 15 ≤ k) :
    stevedoreref4_Date.l1 k n r (yearOf n) = some (yearOf n, monthOf n, (dayOf n : Int), r / 3600, r / 60 % 60, r % 60) := by
  obtain ⟨k, rfl⟩ : ∃ j, k = j + 1 := ⟨k - 1, by omega⟩
  have hy := year_fair hn
  have hs := year_span n
  have b := dayNum_bound (yearOf n) 1 1 (by omega) (by omega) (by omega)
  obtain ⟨m0, m1⟩ := month_range n
  rw [stevedoreref4_Date.l1, Days2_eq _ (by omega), Option.bind_some, if_neg (by omega), Option.bind_some, w64 (by omega)]
  exact l2_eq n r hn hr (monthOf n - 1).toNat k 1 (by omega) (by omega) (by omega)
theorem l0_eq (n r : Int) (hn : -20000000 ≤ n ∧ n ≤ 20000000) (hr : 0 ≤ r ∧ r < 86400) : ∀ (j k : Nat) (y : Int), y = yearOf n - j → j ≤ 300 → j + 20 ≤ k →
    stevedoreref4_Date.l0 k n r y = some (yearOf n, monthOf n, (dayOf n : Int), r / 3600, r / 60 % 60, r % 60)
  | 0, k + 1, y, hy, _, hk => by
    have hf := year_fair hn
    have hs := year_span n
    have hy' : y = yearOf n := by omega
    subst hy'
    rw [stevedoreref4_Date.l0, w64 (n := yearOf n + 1) (by omega), Days2_eq _ (by omega), Option.bind_some, if_neg (by omega)]
    exact l1_eq k n r hn hr (by omega)
  | j + 1, k + 1, y, hy, hj, hk => by
    have hf := year_fair hn
    have hs := year_span n
    have hm := jan_mono (a := y + 1) (b := yearOf n) (by omega)
    rw [stevedoreref4_Date.l0, w64 (n := y + 1) (by omega), Days2_eq _ (by omega), Option.bind_some, if_pos (by omega)]
    exact l0_eq n r hn hr j k (y + 1) (by omega) (by omega) (by omega)
theorem start_near {n q : Int} (hn : -13000000 ≤ n ∧ n ≤ 13000000) (hq : q = if n < 0 then n / 365 else n / 366) : 1970 + q ≤ yearOf n ∧ yearOf n ≤ 1970 + q + 200 := by
  have hs := year_span n
  have e0 := ahead_day (1970 + q)
  have e1 := ahead_day (1970 + q + 201)
  have ec : aheadN 1970 = 719528 := by decide
  rw [ec] at e0 e1
  unfold aheadN at e0 e1
  have h0 : dayNum (1970 + q) 1 1 ≤ n := by
    clear e1
    split at hq
    · omega
    · have hq3 : q = 0 ∨ q = 1 ∨ 2 ≤ q := by omega
      rcases hq3 with g | g | g
      · rw [g] at e0 ⊢
        have e : (1970 + 0 - 1 : Int) / 4 = 492 ∧ (1970 + 0 - 1 : Int) / 100 = 19 ∧ (1970 + 0 - 1 : Int) / 400 = 4 := by decide
        rw [e.1, e.2.1, e.2.2] at e0
        omega
      · rw [g] at e0 ⊢
        have e : (1970 + 1 - 1 : Int) / 4 = 492 ∧ (1970 + 1 - 1 : Int) / 100 = 19 ∧ (1970 + 1 - 1 : Int) / 400 = 4 := by decide
        rw [e.1, e.2.1, e.2.2] at e0
        omega
      · omega
  have h1 : n < dayNum (1970 + q + 201) 1 1 := by
    split at hq <;> omega
  constructor
  · rcases Int.lt_or_le (yearOf n) (1970 + q) with h | h
    · have := jan_mono (a := yearOf n + 1) (b := 1970 + q) (by omega); omega
    · exact h
  · rcases Int.lt_or_le (1970 + q + 200) (yearOf n) with h | h
    · have := jan_mono (a := 1970 + q + 201) (b := yearOf n) (by omega); omega
    · exact h
theorem refDate_eq (k : Nat) (s : Int) (hk : 300 ≤ k) (h0 : -1099511627776 ≤ s) (h1 : s ≤ 1099511627776) : stevedoreref4_Date.f k s = some (dateOf s) := by
  obtain ⟨k, rfl⟩ : ∃ j, k = j + 2 := ⟨k - 2, by omega⟩
  have hn : -13000000 ≤ s / 86400 ∧ s / 86400 ≤ 13000000 := by omega
  have hr : 0 ≤ s % 86400 ∧ s % 86400 < 86400 := by omega
  have hsr : s - s / 86400 * 86400 = s % 86400 := by omega
  unfold stevedoreref4_Date.f dateOf
  rw [if_neg (by omega), decide_eq_false (by omega), stevedoreref4_Date.j0, if_neg (by decide), floor_eq s 86400 (by decide) (by decide) (by omega), Option.bind_some]
  generalize s / 86400 = n at *
  rw [floor_eq n 366 (by decide) (by decide) (by omega), Option.bind_some, w64 (n := n * 86400) (by omega), hsr, w64 (n := s % 86400) (by omega)]
  generalize s % 86400 = r at *
  by_cases hneg : n < 0
  · obtain ⟨g0, g1⟩ := start_near hn (q := n / 365) (by rw [if_pos hneg])
    rw [if_pos hneg, floor_eq n 365 (by decide) (by decide) (by omega), Option.bind_some, w64 (n := 1970 + n / 365) (by omega), stevedoreref4_Date.j1]
    exact l0_eq n r (by omega) hr (yearOf n - (1970 + n / 365)).toNat k _ (by omega) (by omega) (by omega)
  · obtain ⟨g0, g1⟩ := start_near hn (q := n / 366) (by rw [if_neg hneg])
    rw [if_neg hneg, w64 (n := 1970 + n / 366) (by omega), stevedoreref4_Date.j1]
    exact l0_eq n r (by omega) hr (yearOf n - (1970 + n / 366)).toNat k _ (by omega) (by omega) (by omega)
theorem refDate_out (k : Nat) (s : Int) (hk : 1 ≤ k) (h : s < -1099511627776 ∨ s > 1099511627776) : stevedoreref4_Date.f k s = some (0, 0, 0, 0, 0, 0) := by
  obtain ⟨k, rfl⟩ : ∃ j, k = j + 1 := ⟨k - 1, by omega⟩
  unfold stevedoreref4_Date.f
  by_cases g : s < -1099511627776
  · rw [if_pos g, stevedoreref4_Date.j0, if_pos rfl]
  · rw [if_neg g, decide_eq_true (by omega), stevedoreref4_Date.j0, if_pos rfl]
theorem Date_out (k : Nat) (s : Int) (hk : 1 ≤ k) (h : s < -1099511627776 ∨ s > 1099511627776) : clock_Date.f k s = some (0, 0, 0, 0, 0, 0) := by
  obtain ⟨k, rfl⟩ : ∃ j, k = j + 1 := ⟨k - 1, by omega⟩
  unfold clock_Date.f
  by_cases g : s < -1099511627776
  · rw [if_pos g, clock_Date.j0, if_pos rfl]
  · rw [if_neg g, decide_eq_true (by omega), clock_Date.j0, if_pos rfl]

/-! ### Seconds -/
theorem refSeconds_eq (k : Nat) (y m d h i s : Int) (hk : 20 ≤ k) : stevedoreref4_Seconds.f k y m d h i s = some (if okDate y m d h i s then (secs y m d h i s, true) else (0, false)) := by
  unfold stevedoreref4_Seconds.f
  by_cases g1 : y < 1
  · rw [if_pos g1, if_neg (by unfold okDate; omega)]
  rw [if_neg g1]
  by_cases g2 : y > 9999
  · rw [if_pos g2, if_neg (by unfold okDate; omega)]
  rw [if_neg g2]
  by_cases g3 : m < 1
  · rw [if_pos g3, if_neg (by unfold okDate; omega)]
  rw [if_neg g3]
  by_cases g4 : m > 12
  · rw [if_pos g4, if_neg (by unfold okDate; omega)]
  rw [if_neg g4]
  by_cases g5 : d < 1
  · rw [if_pos g5, if_neg (by unfold okDate; omega)]
  rw [if_neg g5, Month_eq y m (by omega), Option.bind_some]
  by_cases g6 : d > mlen y m
  · rw [if_pos g6, if_neg (by unfold okDate; omega)]
  rw [if_neg g6]
  by_cases g7 : h < 0
  · rw [if_pos g7, if_neg (by unfold okDate; omega)]
  rw [if_neg g7]
  by_cases g8 : h > 23
  · rw [if_pos g8, if_neg (by unfold okDate; omega)]
  rw [if_neg g8]
  by_cases g9 : i < 0
  · rw [if_pos g9, if_neg (by unfold okDate; omega)]
  rw [if_neg g9]
  by_cases g10 : i > 59
  · rw [if_pos g10, if_neg (by unfold okDate; omega)]
  rw [if_neg g10]
  by_cases g11 : s < 0
  · rw [if_pos g11, if_neg (by unfold okDate; omega)]
  rw [if_neg g11]
  by_cases g12 : s > 59
  · rw [if_pos g12, if_neg (by unfold okDate; omega)]
  have hl := mlen_le y m
  have b := dayNum_bound y m d (by omega) (by omega) (by omega)
  rw [if_neg g12, refDays_eq k y m d hk, Option.bind_some, if_pos (show okDay y m d by unfold okDay; omega), if_pos (show okDate y m d h i s by unfold okDate; omega)]
  unfold secs
  rw [w64 (n := dayNum y m d * 86400) (by omega), w64 (n := h * 3600) (by omega), w64 (n := i * 60) (by omega), w64 (n := dayNum y m d * 86400 + h * 3600) (by omega), w64 (n := dayNum y m d * 86400 + h * 3600 + i * 60) (by omega), w64 (by omega)]
end Go.Proofs.YtfmfikodnpnblaaGreatDoor.ClkRefDays
