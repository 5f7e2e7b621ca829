/- Words of doubles with the same key, which is not nought, are one word. No program here. -/
import Derived.Test.YtfmfikodnpnblaaDoorFlt
import Derived.Test.YtfmfikodnpnblaaDoorFltAdd
import Derived.Test.YtfmfikodnpnblaaDoorFltWords
set_option linter.unusedVariables false
set_option linter.unusedSimpArgs false
namespace Go.Proofs.YtfmfikodnpnblaaDoor.FltInj
open Ieee Go.Proofs.YtfmfikodnpnblaaDoor.Flt
/-- what a rung counts. -/
def rung (r : Nat) : Nat := if r < 4503599627370496 then r else (4503599627370496 + r % 4503599627370496) * p2 (r / 4503599627370496 - 1)
theorem rung_step (r : Nat) : rung r < rung (r + 1) := by
  unfold rung
  by_cases h : r + 1 < 4503599627370496
  · rw [if_pos h, if_pos (by omega)]; omega
  · rw [if_neg h]
    by_cases h0 : r < 4503599627370496
    · have e : r + 1 = 4503599627370496 := by omega
      rw [if_pos h0, e, show (4503599627370496 : Nat) % 4503599627370496 = 0 by rfl, show (4503599627370496 : Nat) / 4503599627370496 - 1 = 0 by rfl, show p2 0 = 1 by rw [← p2_is]]
      omega
    · rw [if_neg h0]
      have hp := p2_pos (r / 4503599627370496 - 1)
      by_cases hm : r % 4503599627370496 = 4503599627370495
      · have e1 : (r + 1) % 4503599627370496 = 0 := by omega
        have e2 : (r + 1) / 4503599627370496 - 1 = (r / 4503599627370496 - 1) + 1 := by omega
        rw [e1, e2, hm, p2_add, show p2 1 = 2 by rw [← p2_is]]
        generalize p2 (r / 4503599627370496 - 1) = g at *
        omega
      · have e1 : (r + 1) % 4503599627370496 = r % 4503599627370496 + 1 := by omega
        have e2 : (r + 1) / 4503599627370496 = r / 4503599627370496 := by omega
        rw [e1, e2]
        exact Nat.mul_lt_mul_of_pos_right (by omega) hp
theorem rung_mono {a b : Nat} (h : a < b) : rung a < rung b := by
  induction h with
  | refl => exact rung_step a
  | step _ ih => exact Nat.lt_trans ih (rung_step _)
theorem rung_inj {a b : Nat} (h : rung a = rung b) : a = b := by
  rcases Nat.lt_trichotomy a b with g | g | g
  · have := rung_mono g; omega
  · exact g
  · have := rung_mono g; omega
theorem word_key (s : Bool) (r : Nat) (h : r < 9218868437227405312) : key (double.word s r) = some (if s then -(rung r : Int) else (rung r : Int)) := by
  unfold key
  rw [read_word s r h]
  unfold rung
  by_cases h0 : r < 4503599627370496
  · rw [if_pos h0, if_pos h0]
    show some (units s r (-1074)) = _
    unfold units
    rw [show ((-1074 : Int) + 1074).toNat = 0 by rfl, show p2 0 = 1 by rw [← p2_is], Nat.mul_one]
  · rw [if_neg h0, if_neg h0]
    show some (units s _ _) = _
    unfold units
    rw [show (-1074 + ((r / 4503599627370496 - 1 : Nat) : Int) + 1074).toNat = r / 4503599627370496 - 1 by omega]
theorem word_inj {s t : Bool} {r q : Nat} (hr : r < 9218868437227405312) (hq : q < 9218868437227405312) {a : Int} (ha : a ≠ 0) (h1 : key (double.word s r) = some a) (h2 : key (double.word t q) = some a) : double.word s r = double.word t q := by
  rw [word_key s r hr] at h1
  rw [word_key t q hq] at h2
  injection h1 with h1
  injection h2 with h2
  have hst : s = t := by cases s <;> cases t <;> simp at h1 h2 <;> first | rfl | omega
  subst hst
  have : rung r = rung q := by
    cases s <;> simp at h1 h2 <;> omega
  rw [rung_inj this]
theorem inf_key (s : Bool) : key (double.word s 9218868437227405312) = some (if s then -big else big) := by
  cases s
  · show keyD (double.read 9218868437227405312) = _
    rw [show double.read 9218868437227405312 = .infinity false by decide +kernel]; rfl
  · show keyD (double.read 18442240474082181120) = _
    rw [show double.read 18442240474082181120 = .infinity true by decide +kernel]; rfl
theorem nearest_is (s : Bool) (m : Nat) (p : Int) : ∃ q, q ≤ 9218868437227405312 ∧ double.nearest s m p = double.word s q := by
  unfold Format.nearest
  by_cases h : m = 0
  · rw [if_pos h]; exact ⟨0, by omega, rfl⟩
  · rw [if_neg h]
    refine ⟨_, ?_, rfl⟩
    rw [← ir]
    exact Nat.min_le_right _ _
theorem nearest_inj {s t : Bool} {m n : Nat} {p q : Int} {a : Int} (ha : a ≠ 0) (hb : a.natAbs < p2 2150) (h1 : key (double.nearest s m p) = some a) (h2 : key (double.nearest t n q) = some a) : double.nearest s m p = double.nearest t n q := by
  have hbg := big_gt
  obtain ⟨r1, hr1, e1⟩ := nearest_is s m p
  obtain ⟨r2, hr2, e2⟩ := nearest_is t n q
  rw [e1] at h1 ⊢
  rw [e2] at h2 ⊢
  have l1 : r1 < 9218868437227405312 := by
    rcases Nat.lt_or_ge r1 9218868437227405312 with h | h
    · exact h
    · have : r1 = 9218868437227405312 := by omega
      rw [this, inf_key] at h1
      injection h1 with h1
      exfalso
      generalize p2 2150 = B at *
      cases s <;> simp at h1 <;> omega
  have l2 : r2 < 9218868437227405312 := by
    rcases Nat.lt_or_ge r2 9218868437227405312 with h | h
    · exact h
    · have : r2 = 9218868437227405312 := by omega
      rw [this, inf_key] at h2
      injection h2 with h2
      exfalso
      generalize p2 2150 = B at *
      cases t <;> simp at h2 <;> omega
  exact word_inj l1 l2 ha h1 h2
/-- a sum's, a product's, a quotient's word, where it is a whole number. -/
theorem write_number (s : Bool) (m : Nat) (i : Int) : double.write (.number s m i) = double.nearest s m i := rfl
end Go.Proofs.YtfmfikodnpnblaaDoor.FltInj
/- Sums and products of whole numbers, as words: what is exact is the word of the whole number. No program here. -/
namespace Go.Proofs.YtfmfikodnpnblaaDoor.FltExact
open Ieee Go.Proofs.YtfmfikodnpnblaaDoor.Flt Go.Proofs.YtfmfikodnpnblaaDoor.FltClk Go.Proofs.YtfmfikodnpnblaaDoor.FltAdd Go.Proofs.YtfmfikodnpnblaaDoor.FltInj

theorem ofInt_is (n : Int) : floatOfInt .f64 n = double.nearest (decide (n < 0)) n.natAbs 0 := rfl
theorem add_is {x y r : Nat} {a b : Int} (hx : key x = some a) (hy : key y = some b) (ha : a.natAbs < p2 2150) (hb : b.natAbs < p2 2150) (h : floatBits .add .f64 x y = some r) : ∃ s m i, r = double.nearest s m i := by
  obtain ⟨s, m, i, ex, _⟩ := key_number hx ha
  obtain ⟨t, n, j, ey, _⟩ := key_number hy hb
  have h' : Format.add double x y = some r := h
  unfold Format.add at h'
  rw [ex, ey] at h'
  injection h' with h'
  exact ⟨_, _, _, h'.symm⟩
theorem U_ne : U ≠ 0 := by have := U_pos; omega
/-- a sum of whole numbers. -/
theorem add_int (a b : Int) (ha : a.natAbs < 4503599627370496) (hb : b.natAbs < 4503599627370496) (h0 : a + b ≠ 0) : floatBits .add .f64 (floatOfInt .f64 a) (floatOfInt .f64 b) = some (floatOfInt .f64 (a + b)) := by
  have ka := key_ofInt a (by omega)
  have kb := key_ofInt b (by omega)
  have kc := key_ofInt (a + b) (by omega)
  have sa := int_small (n := a) (by omega)
  have sb := int_small (n := b) (by omega)
  have sc := int_small (n := a + b) (by omega)
  obtain ⟨r, h1, h2⟩ := key_add ka kb sa sb (q := (a + b).natAbs) (e := 1074) (by rw [← Int.add_mul, Int.natAbs_mul]; unfold U; rw [Int.natAbs_natCast]) (by rw [p2_53]; omega) (by omega)
  rw [← Int.add_mul] at h2
  obtain ⟨s, m, i, hr⟩ := add_is ka kb sa sb h1
  rw [h1]
  congr 1
  rw [hr] at h2 ⊢
  rw [ofInt_is] at kc ⊢
  exact nearest_inj (Int.mul_ne_zero h0 U_ne) sc h2 kc
/-- a product of whole numbers. -/
theorem mul_int (a b : Int) (ha : a.natAbs < 9007199254740992) (hb : b.natAbs < 9007199254740992) (hc : (a * b).natAbs < 9007199254740992) (h0 : a * b ≠ 0) : floatBits .mul .f64 (floatOfInt .f64 a) (floatOfInt .f64 b) = some (floatOfInt .f64 (a * b)) := by
  have ka := key_ofInt a ha
  have kb := key_ofInt b hb
  have kc := key_ofInt (a * b) hc
  have sc := int_small hc
  obtain ⟨s, m, i, ex, i0, _, _, _, hxa⟩ := key_number ka (int_small ha)
  obtain ⟨t, n, j, ey, j0, _, _, _, hyb⟩ := key_number kb (int_small hb)
  have hmul : floatBits .mul .f64 (floatOfInt .f64 a) (floatOfInt .f64 b) = some (double.nearest (s ^^ t) (m * n) (i + j)) := by
    show Format.mul double _ _ = _
    unfold Format.mul
    rw [ex, ey]
    rfl
  have ua : (a * U).natAbs = m * p2 (i + 1074).toNat := by rw [hxa, units_abs]
  have ub : (b * U).natAbs = n * p2 (j + 1074).toNat := by rw [hyb, units_abs]
  have hU : U.natAbs = p2 1074 := by unfold U; rw [Int.natAbs_natCast]
  rw [Int.natAbs_mul, hU] at ua ub
  have hk : key (double.nearest (s ^^ t) (m * n) (i + j)) = some (if (s ^^ t) = true then -(((a * b).natAbs * p2 1074 : Nat) : Int) else (((a * b).natAbs * p2 1074 : Nat) : Int)) := by
    refine nearest_key (s ^^ t) (m * n) (i + j) ((a * b).natAbs * p2 1074) ((i + 1074).toNat + (j + 1074).toNat) 1074 (a * b).natAbs 1074 (by omega) ?_ rfl (by rw [p2_53]; exact hc) (by omega)
    rw [p2_add, Int.natAbs_mul]
    calc m * n * (p2 (i + 1074).toNat * p2 (j + 1074).toNat) = (m * p2 (i + 1074).toNat) * (n * p2 (j + 1074).toNat) := by simp only [Nat.mul_assoc, Nat.mul_comm, Nat.mul_left_comm]
      _ = (a.natAbs * p2 1074) * (b.natAbs * p2 1074) := by rw [ua, ub]
      _ = a.natAbs * b.natAbs * p2 1074 * p2 1074 := by simp only [Nat.mul_assoc, Nat.mul_comm, Nat.mul_left_comm]
  have sign : (if (s ^^ t) = true then -(((a * b).natAbs * p2 1074 : Nat) : Int) else (((a * b).natAbs * p2 1074 : Nat) : Int)) = a * b * U := by
    have hp := p2_pos 1074
    have hUp := U_pos
    have an : a ≠ 0 := fun e => h0 (by rw [e, Int.zero_mul])
    have bn : b ≠ 0 := fun e => h0 (by rw [e, Int.mul_zero])
    have sa : s = decide (a < 0) := by
      unfold units at hxa
      cases s
      · by_cases h : a < 0
        · have := Int.mul_neg_of_neg_of_pos h hUp
          simp at hxa; omega
        · rw [decide_eq_false h]
      · by_cases h : a < 0
        · rw [decide_eq_true h]
        · have := Int.mul_pos (show 0 < a by omega) hUp
          simp at hxa; omega
    have sb : t = decide (b < 0) := by
      unfold units at hyb
      cases t
      · by_cases h : b < 0
        · have := Int.mul_neg_of_neg_of_pos h hUp
          simp at hyb; omega
        · rw [decide_eq_false h]
      · by_cases h : b < 0
        · rw [decide_eq_true h]
        · have := Int.mul_pos (show 0 < b by omega) hUp
          simp at hyb; omega
    have hUe : (p2 1074 : Int) = U := rfl
    rw [Int.natCast_mul, hUe, sa, sb]
    by_cases h1 : a < 0 <;> by_cases h2 : b < 0 <;> simp only [h1, h2, decide_true, decide_false, Bool.xor_true, Bool.xor_false, Bool.not_true, Bool.not_false, Bool.false_eq_true, if_true, if_false]
    · have := Int.mul_pos_of_neg_of_neg h1 h2
      rw [show (((a * b).natAbs : Nat) : Int) = a * b by omega]
    · have := Int.mul_neg_of_neg_of_pos h1 (show 0 < b by omega)
      rw [show (((a * b).natAbs : Nat) : Int) = -(a * b) by omega, Int.neg_mul, Int.neg_neg]
    · have := Int.mul_neg_of_pos_of_neg (show 0 < a by omega) h2
      rw [show (((a * b).natAbs : Nat) : Int) = -(a * b) by omega, Int.neg_mul, Int.neg_neg]
    · have := Int.mul_pos (show 0 < a by omega) (show 0 < b by omega)
      rw [show (((a * b).natAbs : Nat) : Int) = a * b by omega]
  rw [sign] at hk
  rw [hmul]
  congr 1
  rw [ofInt_is] at kc ⊢
  exact nearest_inj (Int.mul_ne_zero h0 U_ne) sc hk kc
end Go.Proofs.YtfmfikodnpnblaaDoor.FltExact
/- Which operations on doubles are valid: no NaN comes of them. No program here. -/
namespace Go.Proofs.YtfmfikodnpnblaaDoor.FltOk
open Ieee Go.Proofs.YtfmfikodnpnblaaDoorW.PrintWords Go.Proofs.YtfmfikodnpnblaaDoor.Flt Go.Proofs.YtfmfikodnpnblaaDoor.FltClk Go.Proofs.YtfmfikodnpnblaaDoor.FltAdd Go.Proofs.YtfmfikodnpnblaaDoor.FltInj Go.Proofs.YtfmfikodnpnblaaDoor.FltExact
/-- a number; no NaN. -/
def Real_ (x : Nat) : Prop := ∃ s m i, double.read x = .number s m i
def Ok_ (x : Nat) : Prop := Real_ x ∨ ∃ s, double.read x = .infinity s
theorem word_fin {s : Bool} {q : Nat} (h : q < 9218868437227405312) : Real_ (double.word s q) := by
  unfold Real_
  rw [read_word s q h]
  split
  · exact ⟨_, _, _, rfl⟩
  · exact ⟨_, _, _, rfl⟩
theorem word_inf (s : Bool) : double.read (double.word s 9218868437227405312) = .infinity s := by cases s <;> decide +kernel
theorem nearest_ok (s : Bool) (m : Nat) (p : Int) : Ok_ (double.nearest s m p) := by
  obtain ⟨q, hq, e⟩ := nearest_is s m p
  rw [e]
  by_cases h : q < 9218868437227405312
  · exact .inl (word_fin h)
  · rw [show q = 9218868437227405312 by omega]
    exact .inr ⟨s, word_inf s⟩
theorem nearest_zero (s : Bool) (p : Int) : Real_ (double.nearest s 0 p) := by
  unfold Format.nearest
  rw [if_pos rfl]
  exact word_fin (by omega)
theorem key_fin {x : Nat} {a : Int} (h : key x = some a) (hb : a.natAbs < p2 2150) : Real_ x := by
  obtain ⟨s, m, i, e, _⟩ := key_number h hb
  exact ⟨s, m, i, e⟩
theorem int_fin (n : Int) (h : n.natAbs < 9007199254740992) : Real_ (floatOfInt .f64 n) := key_fin (key_ofInt n h) (int_small h)
theorem add_ok {s x : Nat} (hs : Ok_ s) (hx : Real_ x) : fvalid .add s x = true ∧ Ok_ (fop .add s x) := by
  obtain ⟨t, n, j, ex⟩ := hx
  obtain ⟨r, h, hr⟩ : ∃ r, floatBits .add .f64 s x = some r ∧ Ok_ r := by
    show ∃ r, Format.add double s x = some r ∧ Ok_ r
    unfold Format.add
    rcases hs with ⟨u, m, i, es⟩ | ⟨u, es⟩
    · rw [es, ex]; exact ⟨_, rfl, nearest_ok _ _ _⟩
    · rw [es, ex]; exact ⟨_, rfl, .inr ⟨u, word_inf u⟩⟩
  obtain ⟨h1, h2⟩ := fop_of h
  exact ⟨h1, by rw [h2]; exact hr⟩
theorem sub_fin {x y : Nat} (hx : Real_ x) (hy : Real_ y) : fvalid .sub x y = true := by
  obtain ⟨t, n, j, ex⟩ := hx
  obtain ⟨u, m, i, ey⟩ := hy
  show (Format.sub double x y).isSome = true
  unfold Format.sub
  rw [ex, ey]
  rfl
theorem sub_self {x : Nat} (h : fvalid .sub x x = true) : Real_ x := by
  have h' : (Format.sub double x x).isSome = true := h
  unfold Format.sub at h'
  rcases read_cases x with ⟨s, t, e⟩ | ⟨s, e⟩ | ⟨s, m, i, e, _⟩
  · rw [e] at h'; cases h'
  · rw [e] at h'; cases s <;> cases h'
  · exact ⟨s, m, i, e⟩
theorem quo_ok {s : Nat} {n : Int} (hs : Ok_ s) (hn : n.natAbs < 9007199254740992) (h0 : n ≠ 0) : fvalid .quo s (floatOfInt .f64 n) = true := by
  obtain ⟨t, m, j, ex, _, _, _, _, hu⟩ := key_number (key_ofInt n hn) (int_small hn)
  have hm : m ≠ 0 := by
    rintro rfl
    have e : (n * U).natAbs = 0 := by rw [hu, units_abs]; exact Nat.zero_mul _
    rw [Int.natAbs_mul] at e
    have := U_pos
    rcases Nat.mul_eq_zero.1 e with e | e <;> omega
  show (Format.div double s (floatOfInt .f64 n)).isSome = true
  unfold Format.div
  rcases hs with ⟨u, k, i, es⟩ | ⟨u, es⟩
  · rw [es, ex]
    show (Option.map double.write (if m = 0 then _ else _)).isSome = true
    rw [if_neg hm]
    rfl
  · rw [es, ex]; rfl
theorem mul_fin {a b : Int} (ha : a.natAbs < 9007199254740992) (hb : b.natAbs < 9007199254740992) (hc : (a * b).natAbs < 9007199254740992) : fvalid .mul (floatOfInt .f64 a) (floatOfInt .f64 b) = true ∧ Real_ (fop .mul (floatOfInt .f64 a) (floatOfInt .f64 b)) := by
  by_cases h0 : a * b = 0
  · obtain ⟨s, m, i, ex, _, _, _, _, hu⟩ := key_number (key_ofInt a ha) (int_small ha)
    obtain ⟨t, n, j, ey, _, _, _, _, hv⟩ := key_number (key_ofInt b hb) (int_small hb)
    have h : floatBits .mul .f64 (floatOfInt .f64 a) (floatOfInt .f64 b) = some (double.nearest (s ^^ t) (m * n) (i + j)) := by
      show Format.mul double _ _ = _
      unfold Format.mul
      rw [ex, ey]
      rfl
    have hz : m * n = 0 := by
      have eu := congrArg Int.natAbs hu
      have ev := congrArg Int.natAbs hv
      rw [units_abs] at eu ev
      have p1 := p2_pos (i + 1074).toNat
      have p2' := p2_pos (j + 1074).toNat
      rcases Int.mul_eq_zero.1 h0 with e | e
      · rw [e] at eu
        simp only [Int.zero_mul, Int.natAbs_zero] at eu
        rcases Nat.mul_eq_zero.1 eu.symm with e | e
        · rw [e, Nat.zero_mul]
        · omega
      · rw [e] at ev
        simp only [Int.zero_mul, Int.natAbs_zero] at ev
        rcases Nat.mul_eq_zero.1 ev.symm with e | e
        · rw [e, Nat.mul_zero]
        · omega
    rw [hz] at h
    obtain ⟨h1, h2⟩ := fop_of h
    exact ⟨h1, by rw [h2]; exact nearest_zero _ _⟩
  · obtain ⟨h1, h2⟩ := fop_of (mul_int a b ha hb hc h0)
    exact ⟨h1, by rw [h2]; exact int_fin _ hc⟩
theorem F1024 : (4652218415073722368 : Nat) = floatOfInt .f64 1024 := by decide +kernel
/-- 1024 times a whole number. -/
theorem mul_1024 {n : Int} (h : n.natAbs < 4398046511104) (h0 : n ≠ 0) : fvalid .mul 4652218415073722368 (floatOfInt .f64 n) = true ∧ fop .mul 4652218415073722368 (floatOfInt .f64 n) = floatOfInt .f64 (1024 * n) := by
  rw [F1024]
  exact fop_of (mul_int 1024 n (by omega) (by omega) (by omega) (by omega))
theorem zero_ok : Ok_ 0 := .inl ⟨false, 0, -1074, by decide +kernel⟩
end Go.Proofs.YtfmfikodnpnblaaDoor.FltOk
/- Doubles that are whole numbers: sums, products, quotients that are whole. No program here. -/
namespace Go.Proofs.YtfmfikodnpnblaaDoor.FltWhole
open Ieee Go.Proofs.YtfmfikodnpnblaaDoorW.PrintWords Go.Proofs.YtfmfikodnpnblaaDoor.Flt Go.Proofs.YtfmfikodnpnblaaDoor.FltClk Go.Proofs.YtfmfikodnpnblaaDoor.FltAdd Go.Proofs.YtfmfikodnpnblaaDoor.FltInj Go.Proofs.YtfmfikodnpnblaaDoor.FltExact Go.Proofs.YtfmfikodnpnblaaDoor.FltOk
/-- x is the whole number n (a nought of either sign is 0). -/
def Wk (x : Nat) (n : Int) : Prop := key x = some (n * U)
theorem wk_int (n : Int) (h : n.natAbs < 9007199254740992) : Wk (floatOfInt .f64 n) n := key_ofInt n h
theorem abs_U (n : Int) : (n * U).natAbs = n.natAbs * p2 1074 := by rw [Int.natAbs_mul]; unfold U; rw [Int.natAbs_natCast]
theorem Wk.fin {x : Nat} {n : Int} (h : Wk x n) (hn : n.natAbs < 9007199254740992) : Real_ x := key_fin h (int_small hn)
theorem wk_add {x y : Nat} {a b : Int} (hx : Wk x a) (hy : Wk y b) (ha : a.natAbs < 4503599627370496) (hb : b.natAbs < 4503599627370496) : fvalid .add x y = true ∧ Wk (fop .add x y) (a + b) := by
  obtain ⟨r, h1, h2⟩ := key_add hx hy (int_small (by omega)) (int_small (by omega)) (q := (a + b).natAbs) (e := 1074) (by rw [← Int.add_mul, abs_U]) (by rw [p2_53]; omega) (by omega)
  obtain ⟨g1, g2⟩ := fop_of h1
  exact ⟨g1, by rw [g2]; show key r = _; rw [h2, Int.add_mul]⟩
theorem wk_sub {x y : Nat} {a b : Int} (hx : Wk x a) (hy : Wk y b) (ha : a.natAbs < 4503599627370496) (hb : b.natAbs < 4503599627370496) : fvalid .sub x y = true ∧ Wk (fop .sub x y) (a - b) := by
  obtain ⟨r, h1, h2⟩ := key_sub hx hy (int_small (by omega)) (int_small (by omega)) (q := (a - b).natAbs) (e := 1074) (by rw [← Int.sub_mul, abs_U]) (by rw [p2_53]; omega) (by omega)
  obtain ⟨g1, g2⟩ := fop_of h1
  exact ⟨g1, by rw [g2]; show key r = _; rw [h2, Int.sub_mul]⟩
theorem units_sign {s : Bool} {m : Nat} {i : Int} {a : Int} (h : a * U = units s m i) (h0 : a ≠ 0) : s = decide (a < 0) := by
  have hUp := U_pos
  unfold units at h
  generalize m * p2 (i + 1074).toNat = g at h
  cases s
  · by_cases h1 : a < 0
    · have := Int.mul_neg_of_neg_of_pos h1 hUp
      simp at h; omega
    · rw [decide_eq_false h1]
  · by_cases h1 : a < 0
    · rw [decide_eq_true h1]
    · have := Int.mul_pos (show 0 < a by omega) hUp
      simp at h; omega
/-- the sign of a product, a quotient. -/
theorem sign_of {s t : Bool} {a b c : Int} (hs : a ≠ 0 → s = decide (a < 0)) (ht : b ≠ 0 → t = decide (b < 0)) (h0 : c ≠ 0 → a ≠ 0 ∧ b ≠ 0) (hc : c ≠ 0 → ((a < 0 ↔ b < 0) → 0 < c) ∧ (¬ (a < 0 ↔ b < 0) → c < 0)) :
    (if (s ^^ t) = true then -((c.natAbs * p2 1074 : Nat) : Int) else ((c.natAbs * p2 1074 : Nat) : Int)) = c * U := by
  have hUe : (p2 1074 : Int) = U := rfl
  by_cases h : c = 0
  · subst h; simp
  · obtain ⟨a0, b0⟩ := h0 h
    have hcc := hc h
    rw [hs a0, ht b0, Int.natCast_mul, hUe]
    by_cases h1 : a < 0 <;> by_cases h2 : b < 0 <;> simp only [h1, h2, decide_true, decide_false, Bool.xor_true, Bool.xor_false, Bool.not_true, Bool.not_false, Bool.false_eq_true, if_true, if_false]
    · rw [show ((c.natAbs : Nat) : Int) = c by have : 0 < c := hcc.1 ⟨fun _ => h2, fun _ => h1⟩; omega]
    · rw [show ((c.natAbs : Nat) : Int) = -c by have : c < 0 := hcc.2 (fun g => h2 (g.1 h1)); omega, Int.neg_mul, Int.neg_neg]
    · rw [show ((c.natAbs : Nat) : Int) = -c by have : c < 0 := hcc.2 (fun g => h1 (g.2 h2)); omega, Int.neg_mul, Int.neg_neg]
    · rw [show ((c.natAbs : Nat) : Int) = c by have : 0 < c := hcc.1 ⟨fun g => absurd g h1, fun g => absurd g h2⟩; omega]
theorem wk_mul {x y : Nat} {a b : Int} (hx : Wk x a) (hy : Wk y b) (ha : a.natAbs < 9007199254740992) (hb : b.natAbs < 9007199254740992) (hc : (a * b).natAbs < 9007199254740992) : fvalid .mul x y = true ∧ Wk (fop .mul x y) (a * b) := by
  obtain ⟨s, m, i, ex, i0, _, _, _, hxa⟩ := key_number hx (int_small ha)
  obtain ⟨t, n, j, ey, j0, _, _, _, hyb⟩ := key_number hy (int_small hb)
  have hmul : floatBits .mul .f64 x y = some (double.nearest (s ^^ t) (m * n) (i + j)) := by
    show Format.mul double _ _ = _
    unfold Format.mul
    rw [ex, ey]
    rfl
  have ua : (a * U).natAbs = m * p2 (i + 1074).toNat := by rw [hxa, units_abs]
  have ub : (b * U).natAbs = n * p2 (j + 1074).toNat := by rw [hyb, units_abs]
  rw [abs_U] at ua ub
  obtain ⟨g1, g2⟩ := fop_of hmul
  refine ⟨g1, ?_⟩
  rw [g2]
  show keyD (double.read (double.nearest (s ^^ t) (m * n) (i + j))) = _
  rw [nearest_key (s ^^ t) (m * n) (i + j) ((a * b).natAbs * p2 1074) ((i + 1074).toNat + (j + 1074).toNat) 1074 (a * b).natAbs 1074 (by omega) (by
    rw [p2_add, Int.natAbs_mul]
    calc m * n * (p2 (i + 1074).toNat * p2 (j + 1074).toNat) = (m * p2 (i + 1074).toNat) * (n * p2 (j + 1074).toNat) := by simp only [Nat.mul_assoc, Nat.mul_comm, Nat.mul_left_comm]
      _ = (a.natAbs * p2 1074) * (b.natAbs * p2 1074) := by rw [ua, ub]
      _ = a.natAbs * b.natAbs * p2 1074 * p2 1074 := by simp only [Nat.mul_assoc, Nat.mul_comm, Nat.mul_left_comm]) rfl (by rw [p2_53]; exact hc) (by omega)]
  congr 1
  refine sign_of (units_sign hxa) (units_sign hyb) (fun h => ⟨fun e => h (by rw [e, Int.zero_mul]), fun e => h (by rw [e, Int.mul_zero])⟩) (fun h => ?_)
  have h1 : a ≠ 0 := fun e => h (by rw [e, Int.zero_mul])
  have h2 : b ≠ 0 := fun e => h (by rw [e, Int.mul_zero])
  by_cases a0 : a < 0 <;> by_cases b0 : b < 0
  · exact ⟨fun _ => Int.mul_pos_of_neg_of_neg a0 b0, fun g => absurd ⟨fun _ => b0, fun _ => a0⟩ g⟩
  · exact ⟨fun g => absurd (g.1 a0) b0, fun _ => Int.mul_neg_of_neg_of_pos a0 (show 0 < b by omega)⟩
  · exact ⟨fun g => absurd (g.2 b0) a0, fun _ => Int.mul_neg_of_pos_of_neg (show 0 < a by omega) b0⟩
  · exact ⟨fun _ => Int.mul_pos (by omega) (by omega), fun g => absurd ⟨fun h => absurd h a0, fun h => absurd h b0⟩ g⟩
theorem wk_quo {x y : Nat} {q d : Int} (hx : Wk x (q * d)) (hy : Wk y d) (h0 : d ≠ 0) (hq : (q * d).natAbs < 9007199254740992) (hd : d.natAbs < 9007199254740992) : fvalid .quo x y = true ∧ Wk (fop .quo x y) q := by
  obtain ⟨s, m, i, ex, i0, _, hm, _, hxa⟩ := key_number hx (int_small hq)
  obtain ⟨t, n, j, ey, j0, _, hn, _, hyb⟩ := key_number hy (int_small hd)
  have ua : ((q * d) * U).natAbs = m * p2 (i + 1074).toNat := by rw [hxa, units_abs]
  have ub : (d * U).natAbs = n * p2 (j + 1074).toNat := by rw [hyb, units_abs]
  rw [abs_U] at ua ub
  have P0 := p2_pos 1074
  have hqa : q.natAbs < 9007199254740992 := by
    rw [Int.natAbs_mul] at hq
    exact Nat.lt_of_le_of_lt (Nat.le_mul_of_pos_right _ (by omega)) hq
  have hn0 : n ≠ 0 := by
    rintro rfl
    rw [Nat.zero_mul] at ub
    rcases Nat.mul_eq_zero.1 ub with h | h <;> omega
  obtain ⟨I, hI⟩ : ∃ I, (i + 1074).toNat = I := ⟨_, rfl⟩
  obtain ⟨J, hJ⟩ : ∃ J, (j + 1074).toNat = J := ⟨_, rfl⟩
  rw [hI] at ua
  rw [hJ] at ub
  have main : m * p2 I = q.natAbs * n * p2 J := by
    rw [← ua, Int.natAbs_mul, Nat.mul_assoc, ub, Nat.mul_assoc]
  obtain ⟨more, hmore⟩ : ∃ more : Nat, more = 54 + n.log2 - m.log2 := ⟨_, rfl⟩
  have lm : m.log2 ≤ 52 := by
    by_cases h : m = 0
    · rw [h]; decide
    · have := log_lt (k := 53) (by rw [p2_53]; exact hm) h; omega
  -- the dividend is a whole number of divisors
  have hdiv : ∃ Q, m * p2 more = Q * n := by
    by_cases hm0 : m = 0
    · exact ⟨0, by rw [hm0]; simp⟩
    rcases Nat.lt_or_ge J I with h | h
    · have hle : I - J ≤ more := by
        have e1 : m * p2 (I - J) = q.natAbs * n := by
          have e2 : m * p2 (I - J) * p2 J = q.natAbs * n * p2 J := by rw [Nat.mul_assoc, ← p2_add, show I - J + J = I by omega, main]
          exact Nat.eq_of_mul_eq_mul_right (p2_pos J) e2
        have e3 := log_le hm0
        have e4 := lt_log n
        have e5 : q.natAbs * n ≤ p2 53 * n := Nat.mul_le_mul_right _ (by rw [p2_53]; omega)
        have e6 : p2 53 * n < p2 53 * p2 (n.log2 + 1) := Nat.mul_lt_mul_of_pos_left e4 (p2_pos 53)
        have e7 : p2 m.log2 * p2 (I - J) ≤ m * p2 (I - J) := Nat.mul_le_mul_right _ e3
        rw [← p2_add] at e6 e7
        rcases Nat.lt_or_ge more (I - J) with g | g
        · exfalso
          have := p2_le (show 53 + (n.log2 + 1) ≤ m.log2 + (I - J) by omega)
          omega
        · exact g
      refine ⟨q.natAbs * p2 (more - (I - J)), ?_⟩
      have e2 : m * p2 more * p2 I = q.natAbs * p2 (more - (I - J)) * n * p2 I := by
        calc m * p2 more * p2 I = m * p2 I * p2 more := by simp only [Nat.mul_assoc, Nat.mul_comm, Nat.mul_left_comm]
          _ = q.natAbs * n * (p2 J * p2 more) := by rw [main, Nat.mul_assoc]
          _ = q.natAbs * n * (p2 (more - (I - J)) * p2 I) := by rw [← p2_add, ← p2_add, show J + more = more - (I - J) + I by omega]
          _ = q.natAbs * p2 (more - (I - J)) * n * p2 I := by simp only [Nat.mul_assoc, Nat.mul_comm, Nat.mul_left_comm]
      exact Nat.eq_of_mul_eq_mul_right (p2_pos I) e2
    · refine ⟨q.natAbs * p2 (J - I + more), ?_⟩
      have e2 : m * p2 more * p2 I = q.natAbs * p2 (J - I + more) * n * p2 I := by
        calc m * p2 more * p2 I = m * p2 I * p2 more := by simp only [Nat.mul_assoc, Nat.mul_comm, Nat.mul_left_comm]
          _ = q.natAbs * n * (p2 J * p2 more) := by rw [main, Nat.mul_assoc]
          _ = q.natAbs * n * (p2 (J - I + more) * p2 I) := by rw [← p2_add, ← p2_add, show J + more = J - I + more + I by omega]
          _ = q.natAbs * p2 (J - I + more) * n * p2 I := by simp only [Nat.mul_assoc, Nat.mul_comm, Nat.mul_left_comm]
      exact Nat.eq_of_mul_eq_mul_right (p2_pos I) e2
  obtain ⟨Q, hQ⟩ := hdiv
  have hquo : (Datum.number s m i).quotient (52 + 2) (Datum.number t n j) = some (.number (s ^^ t) (2 * Q) (i - j - more - 1)) := by
    show (if n = 0 then (if m = 0 then none else some (Datum.infinity (s ^^ t))) else some (Datum.number (s ^^ t) (2 * ((m <<< (52 + 2 + n.log2 - m.log2)) / n) + ((m <<< (52 + 2 + n.log2 - m.log2)) % n != 0).toNat) (i - j - ((52 + 2 + n.log2 - m.log2 : Nat) : Int) - 1))) = _
    rw [if_neg hn0, show 52 + 2 + n.log2 - m.log2 = more by omega, Nat.shiftLeft_eq, p2_is, hQ, Nat.mul_div_cancel _ (by omega), Nat.mul_mod_left]
    simp
  have hf : floatBits .quo .f64 x y = some (double.nearest (s ^^ t) (2 * Q) (i - j - more - 1)) := by
    show Format.div double x y = _
    unfold Format.div
    rw [ex, ey]
    show ((Datum.number s m i).quotient (52 + 2) (Datum.number t n j)).map double.write = _
    rw [hquo]
    rfl
  obtain ⟨g1, g2⟩ := fop_of hf
  refine ⟨g1, ?_⟩
  rw [g2]
  have p1 : p2 1 = 2 := by rw [← p2_is]
  have hQI : Q * p2 I = q.natAbs * p2 J * p2 more := by
    have e : Q * p2 I * n = q.natAbs * p2 J * p2 more * n := by
      calc Q * p2 I * n = Q * n * p2 I := by simp only [Nat.mul_assoc, Nat.mul_comm, Nat.mul_left_comm]
        _ = m * p2 I * p2 more := by rw [← hQ]; simp only [Nat.mul_assoc, Nat.mul_comm, Nat.mul_left_comm]
        _ = q.natAbs * p2 J * p2 more * n := by rw [main]; simp only [Nat.mul_assoc, Nat.mul_comm, Nat.mul_left_comm]
    exact Nat.eq_of_mul_eq_mul_right (by omega) e
  show keyD (double.read (double.nearest (s ^^ t) (2 * Q) (i - j - more - 1))) = _
  rw [nearest_key (s ^^ t) (2 * Q) (i - j - more - 1) (q.natAbs * p2 1074) (I + 1074) (J + more + 1) q.natAbs 1074 (by omega) (by
    rw [p2_add, p2_add, p2_add, p1]
    calc 2 * Q * (p2 I * p2 1074) = Q * p2 I * (2 * p2 1074) := by simp only [Nat.mul_assoc, Nat.mul_comm, Nat.mul_left_comm]
      _ = q.natAbs * p2 1074 * (p2 J * p2 more * 2) := by rw [hQI]; simp only [Nat.mul_assoc, Nat.mul_comm, Nat.mul_left_comm]) rfl (by rw [p2_53]; exact hqa) (by omega)]
  congr 1
  refine sign_of (units_sign hxa) (units_sign hyb) (fun h => ⟨fun e => ?_, h0⟩) (fun h => ?_)
  · rcases Int.mul_eq_zero.1 e with e | e
    · exact h e
    · exact h0 e
  · by_cases q0 : q < 0 <;> by_cases d0 : d < 0
    · have := Int.mul_pos_of_neg_of_neg q0 d0
      exact ⟨fun g => absurd (g.2 d0) (by omega), fun _ => q0⟩
    · have := Int.mul_neg_of_neg_of_pos q0 (show 0 < d by omega)
      exact ⟨fun g => absurd (g.1 this) d0, fun _ => q0⟩
    · have := Int.mul_neg_of_pos_of_neg (show 0 < q by omega) d0
      exact ⟨fun _ => by omega, fun g => absurd ⟨fun _ => d0, fun _ => this⟩ g⟩
    · have := Int.mul_pos (show 0 < q by omega) (show 0 < d by omega)
      exact ⟨fun _ => by omega, fun g => absurd ⟨fun h => absurd h (by omega), fun h => absurd h d0⟩ g⟩
/-- order of whole numbers. -/
theorem wk_order {x y : Nat} {a b : Int} (hx : Wk x a) (hy : Wk y b) : FloatKind.f64.format.order x y = some (compare a b) := by
  show double.order x y = _
  rw [order_key hx hy, cmp_scale _ _ _ U_pos]
end Go.Proofs.YtfmfikodnpnblaaDoor.FltWhole
