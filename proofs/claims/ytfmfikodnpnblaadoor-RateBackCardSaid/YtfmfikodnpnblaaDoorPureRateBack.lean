/- Numerals and cuts of texts, plainly. No program here. -/
import Derived.Test.YtfmfikodnpnblaaDoorPaxSem
import Derived.Test.YtfmfikodnpnblaaDoorRateLibB
import Derived.Test.YtfmfikodnpnblaaDoorPRateBx
import Derived.Test.YtfmfikodnpnblaaDoorFltPlain
import Derived.Test.YtfmfikodnpnblaaDoorPRate1x
import Derived.Test.YtfmfikodnpnblaaDoorPRateBackx
set_option linter.unusedVariables false
set_option linter.unusedSimpArgs false
namespace Go.Proofs.YtfmfikodnpnblaaDoor.RateTxt
open Go.RowKit Go.Lib Go.Proofs.YtfmfikodnpnblaaDoorW.PrintWords Go.Proofs.YtfmfikodnpnblaaDoorW.PrintMore Go.Proofs.YtfmfikodnpnblaaDoor.Base Go.Proofs.YtfmfikodnpnblaaDoor.ClkLib Go.Proofs.YtfmfikodnpnblaaDoor.PaxSem Go.Proofs.YtfmfikodnpnblaaDoor.RateLibB
theorem strOf_append (a b : List UInt8) : strOf a ++ strOf b = strOf (a ++ b) := by
  unfold strOf
  apply ByteArray.ext
  rw [ByteArray.data_append]
  simp
theorem strOf_size (l : List UInt8) : (strOf l).size = l.length := by show l.toArray.size = _; simp
theorem strOf_list (l : List UInt8) : (strOf l).data.toList = l := by show l.toArray.toList = l; simp
theorem strOf_self (s : ByteArray) : strOf s.data.toList = s := by unfold strOf; apply ByteArray.ext; simp
theorem nDigits_le : ∀ (k u : Nat), u < 10 ^ (k + 1) → nDigits u ≤ k + 1
  | 0, u, h => by rw [nDigits_small (by simpa using h)]; omega
  | k + 1, u, h => by
    by_cases hu : u < 10
    · rw [nDigits_small hu]; omega
    · rw [nDigits_big hu]
      have := nDigits_le k (u / 10) (by rw [Nat.pow_succ] at h; omega)
      omega
theorem dec_len {u : Nat} (h : u < 100000000000000000000) : (decDigits u).length ≤ 20 := by
  rw [decDigits_length]
  exact nDigits_le 19 u (by omega)
theorem itoa_nat (u : Nat) : Lib.itoa (u : Int) = decDigits u := by unfold Lib.itoa; rw [if_neg (by omega)]; simp
theorem Itoa_eq {n : Int} (h0 : 0 ≤ n) (h1 : n ≤ 9000000000000000000) : strconv_Itoa.f n = some (strOf (decDigits n.toNat)) := by
  obtain ⟨u, rfl⟩ := Int.eq_ofNat_of_zero_le h0
  unfold strconv_Itoa.f
  rw [if_pos (by omega), itoa_nat]
  simp

theorem extract_one (l : List UInt8) : (strOf l).extract 1 (strOf l).size = strOf (l.drop 1) := by
  apply ByteArray.ext
  rw [ByteArray.data_extract]
  unfold strOf
  apply Array.ext'
  simp [Array.toList_extract, ByteArray.size, List.extract]
  exact List.take_of_length_le (by simp)
def head (b : List UInt8) : List UInt8 := b.takeWhile (· != 46)
def rest (b : List UInt8) : List UInt8 := b.dropWhile (· != 46)
theorem index_eq (b : List UInt8) : Lib.indexByte b 46 = if rest b = [] then -1 else ((head b).length : Int) := by
  induction b with
  | nil => rfl
  | cons c t ih =>
    rw [Lib.indexByte]
    unfold head rest at ih ⊢
    rw [List.takeWhile_cons, List.dropWhile_cons]
    by_cases hc : c = 46
    · subst hc
      rfl
    · have h1 : (c == 46) = false := by rw [beq_eq_false_iff_ne]; exact hc
      have h2 : (c != 46) = true := by rw [bne, h1]; rfl
      rw [h1, if_neg (by decide), h2, if_pos rfl, if_pos rfl, ih]
      by_cases hr : t.dropWhile (· != 46) = []
      · rw [if_pos hr, if_pos hr]; rfl
      · rw [if_neg hr, if_neg hr, if_neg (by rw [beq_iff_eq]; omega), List.length_cons]; omega
theorem head_rest (b : List UInt8) : head b ++ rest b = b := List.takeWhile_append_dropWhile
theorem rest_head {b : List UInt8} {c : UInt8} {t : List UInt8} (h : rest b = c :: t) : c = 46 := by
  have := List.head_dropWhile_not (p := (· != (46 : UInt8))) (l := b) (by show rest b ≠ []; rw [h]; simp)
  simp only [show b.dropWhile (· != (46 : UInt8)) = c :: t from h, List.head_cons] at this
  simpa using this
theorem cut_eq (b : List UInt8) (h : b.length ≤ 1000) : strings_Cut.f (strOf b) (⟨#[46]⟩ : ByteArray) = some (strOf (head b), strOf ((rest b).drop 1), rest b != []) := by
  show (if (strOf b).size ≤ _ then some (cutAt (strOf b) 46) else _) = _
  rw [strOf_size, if_pos (by omega)]
  unfold cutAt
  rw [strOf_list, index_eq]
  have hb := head_rest b
  by_cases hr : rest b = []
  · rw [if_pos hr, if_neg (by decide), hr]
    rw [hr, List.append_nil] at hb
    rw [hb]; rfl
  · have e : (rest b != []) = true := by simpa using hr
    rw [if_neg hr, if_pos (by omega), e]
    congr 2
    · apply ByteArray.ext
      rw [ByteArray.data_extract]
      apply Array.ext'
      have e3 : (head b ++ rest b).take (head b).length = head b := List.take_left' rfl
      rw [hb] at e3
      simp [strOf, List.extract, e3]
    · congr 1
      apply ByteArray.ext
      rw [ByteArray.data_extract]
      apply Array.ext'
      rw [strOf_size]
      have : ((head b).length : Int) + 1 = (((head b).length + 1 : Nat) : Int) := by omega
      rw [this, Int.toNat_natCast]
      have e2 : (strOf b).data.toList = head b ++ rest b := by rw [strOf_list, hb]
      rw [Array.toList_extract, e2, List.extract]
      rw [List.drop_append, List.drop_of_length_le (by omega), List.nil_append, show (head b).length + 1 - (head b).length = 1 by omega]
      rw [List.take_of_length_le]
      · simp [strOf]
      · have := congrArg List.length hb
        simp only [List.length_append, List.length_drop] at this ⊢
        omega
theorem size_len (s : ByteArray) : s.size = s.data.toList.length := Lib.size_eq s
theorem decFrom_eq : ∀ (l : List UInt8) (a : Nat), l.all isD = true → Lib.decFrom a l = some (l.foldl (fun v c => v * 10 + (c.toNat - 48)) a)
  | [], a, _ => rfl
  | c :: l, a, h => by
    rw [List.all_cons, Bool.and_eq_true] at h
    have hd := (isD_iff c).1 h.1
    rw [Lib.decFrom, Lib.digitVal, if_pos hd, List.foldl_cons]
    exact decFrom_eq l _ h.2
end Go.Proofs.YtfmfikodnpnblaaDoor.RateTxt
/- A double's sign, its size, its thousandths; a whole number by 1000. No program here. -/
namespace Go.Proofs.YtfmfikodnpnblaaDoor.RateFlt
open Ieee Go.RowKit Go.Proofs.YtfmfikodnpnblaaDoorW.PrintWords Go.Proofs.YtfmfikodnpnblaaDoorW.PrintMore Go.Proofs.YtfmfikodnpnblaaDoor.Base Go.Proofs.YtfmfikodnpnblaaDoor.Flt Go.Proofs.YtfmfikodnpnblaaDoor.FltClk Go.Proofs.YtfmfikodnpnblaaDoor.FltAdd Go.Proofs.YtfmfikodnpnblaaDoor.FltInj Go.Proofs.YtfmfikodnpnblaaDoor.FltExact Go.Proofs.YtfmfikodnpnblaaDoor.FltOk Go.Proofs.YtfmfikodnpnblaaDoor.FltWhole Go.Proofs.YtfmfikodnpnblaaDoor.FltRound Go.Proofs.YtfmfikodnpnblaaDoor.RateLib Go.Proofs.YtfmfikodnpnblaaDoor.RateLibB Go.Proofs.YtfmfikodnpnblaaDoor.ClkLib
/-! ### words -/
theorem key_abs (x : Nat) : (key (x % 9223372036854775808) = none ∧ key x = none) ∨ ∃ n : Nat, key (x % 9223372036854775808) = some (n : Int) ∧ key x = some (if x / 9223372036854775808 % 2 = 1 then -(n : Int) else (n : Int)) := by
  unfold key Format.read
  rw [lp, bn, ir, sw]
  dsimp only
  have e1 : x % 9223372036854775808 % 9223372036854775808 = x % 9223372036854775808 := by omega
  have e2 : (x % 9223372036854775808 / 9223372036854775808 % 2 == 1) = false := by rw [beq_eq_false_iff_ne]; omega
  rw [e1, e2]
  have e3 : (x / 9223372036854775808 % 2 == 1) = decide (x / 9223372036854775808 % 2 = 1) := by rw [Bool.eq_iff_iff]; simp
  rw [e3]
  have hs : ∀ (sg : Bool) (m : Nat) (k : Int), keyD (.number sg m k) = some (if sg = true then -((m * p2 (k + 1074).toNat : Nat) : Int) else ((m * p2 (k + 1074).toNat : Nat) : Int)) := fun sg m k => rfl
  have hi : ∀ sg : Bool, keyD (.infinity sg) = some (if sg = true then -((p2 2200 : Nat) : Int) else ((p2 2200 : Nat) : Int)) := fun sg => rfl
  have dec : ∀ n : Int, (if decide (x / 9223372036854775808 % 2 = 1) = true then -n else n) = if x / 9223372036854775808 % 2 = 1 then -n else n := fun n => by
    by_cases h : x / 9223372036854775808 % 2 = 1
    · rw [decide_eq_true h, if_pos rfl, if_pos h]
    · rw [decide_eq_false h, if_neg (by decide), if_neg h]
  by_cases c1 : x % 9223372036854775808 < 4503599627370496
  · rw [if_pos c1, if_pos c1, hs, hs, dec]
    exact .inr ⟨_, rfl, rfl⟩
  · rw [if_neg c1, if_neg c1]
    by_cases c2 : x % 9223372036854775808 < 9218868437227405312
    · rw [if_pos c2, if_pos c2, hs, hs, dec]
      exact .inr ⟨_, rfl, rfl⟩
    · rw [if_neg c2, if_neg c2]
      by_cases c3 : x % 9223372036854775808 = 9218868437227405312
      · rw [if_pos c3, if_pos c3, hi, hi, dec]
        exact .inr ⟨_, rfl, rfl⟩
      · rw [if_neg c3, if_neg c3]
        exact .inl ⟨rfl, rfl⟩
theorem wf_64 {x : Nat} (h : (Lit.float .f64 x).wf = true) : x < 18446744073709551616 := by
  simpa [Lit.wf] using h
theorem signbit_is {x : Nat} (h : x < 18446744073709551616) : math_Signbit.f x = some (decide (9223372036854775808 ≤ x)) := by
  unfold math_Signbit.f
  congr 1
  by_cases hx : 9223372036854775808 ≤ x
  · rw [decide_eq_true hx]; exact decide_eq_true (by unfold wrap64; omega)
  · rw [decide_eq_false hx]; exact decide_eq_false (by unfold wrap64; omega)
theorem abs_is {x : Nat} (h : x < 18446744073709551616) : math_Abs.f x = some (x % 9223372036854775808) := by
  unfold math_Abs.f
  congr 1
  show (IntKind.u64.wrap (((BitVec.ofInt 64 (x : Int) &&& ~~~(BitVec.ofInt 64 9223372036854775808)).toNat : Nat) : Int)).toNat = _
  rw [show ~~~(BitVec.ofInt 64 9223372036854775808) = BitVec.ofNat 64 9223372036854775807 by decide, BitVec.toNat_and, BitVec.ofInt_natCast, BitVec.toNat_ofNat, BitVec.toNat_ofNat, Nat.mod_eq_of_lt h]
  rw [show 9223372036854775807 % 2 ^ 64 = 2 ^ 63 - 1 by decide, Nat.and_two_pow_sub_one_eq_mod, wu64 (by omega) (by omega)]
  omega
theorem copysign_is {y : Nat} (h : y < 9223372036854775808) : math_Copysign.f y 13830554455654793216 = some (y + 9223372036854775808) := by
  have e1 : (Go.bits .andNot .u64 (y : Int) 9223372036854775808) = (y : Int) := by
    have := abs_is (x := y) (by omega)
    unfold math_Abs.f at this
    injection this with this
    have h0 : 0 ≤ Go.bits .andNot .u64 (y : Int) 9223372036854775808 := by
      show 0 ≤ IntKind.u64.wrap _
      rw [wu64_eq]; omega
    omega
  have e2 : Go.bits .and .u64 ((13830554455654793216 : Nat) : Int) 9223372036854775808 = 9223372036854775808 := by decide +kernel
  unfold math_Copysign.f
  rw [e1, e2]
  congr 1
  have e3 : Go.bits .or .u64 (y : Int) 9223372036854775808 = Go.bits .or .u64 9223372036854775808 (y : Int) := by
    show IntKind.u64.wrap (((BitVec.ofInt 64 (y : Int) ||| BitVec.ofInt 64 9223372036854775808).toNat : Nat) : Int) = IntKind.u64.wrap (((BitVec.ofInt 64 9223372036854775808 ||| BitVec.ofInt 64 (y : Int)).toNat : Nat) : Int)
    rw [BitVec.or_comm]
  rw [e3, or_u64 63 (x := 9223372036854775808) (y := (y : Int)) (by decide) (by decide) (by decide) (by omega) (by omega) (by omega)]
  omega
/-- a word without its sign bit. -/
theorem read_pos {a : Nat} (ha : a < 9223372036854775808) {s : Bool} {m : Nat} {i : Int} (h : double.read a = .number s m i) : s = false := by
  unfold Format.read at h
  rw [lp, bn, ir, sw] at h
  dsimp only at h
  have e : (a / 9223372036854775808 % 2 == 1) = false := by rw [beq_eq_false_iff_ne]; omega
  rw [e] at h
  split at h
  · injection h with h _ _; exact h.symm
  · split at h
    · injection h with h _ _; exact h.symm
    · split at h <;> cases h
def u : Nat := p2 1074
theorem u_pos : 0 < u := p2_pos 1074
theorem U_u : U = (u : Int) := rfl
theorem read_1000 : double.read 4652007308841189376 = .number false 8796093022208000 (-43) := by decide +kernel
theorem m1000 : 8796093022208000 = 1000 * p2 43 := by
  have : p2 43 = 8796093022208 := by rw [← p2_is]
  omega
/-! ### 1000 times a double -/
theorem mul_1000 {a X : Nat} (ha : a < 9223372036854775808) (h : key a = some (X : Int)) (hX : X < p2 2150) :
    fvalid .mul 4652007308841189376 a = true ∧ ((1000 * X < p2 1900 ∧ ∃ P : Nat, key (fop .mul 4652007308841189376 a) = some (P : Int) ∧ 9007199254740992 * P ≤ 9007199254740993 * (1000 * X) ∧ 9007199254740991 * (1000 * X) ≤ 9007199254740992 * P) ∨
      (p2 1800 ≤ 1000 * X ∧ ∃ c, key (fop .mul 4652007308841189376 a) = some c ∧ ((p2 1700 : Nat) : Int) ≤ c)) := by
  obtain ⟨s, m, i, e, i0, i1, hm, _, hu⟩ := key_number h (by simpa using hX)
  obtain rfl := read_pos ha e
  have hXm : X = m * p2 (i + 1074).toNat := by
    have := congrArg Int.natAbs hu
    rw [units_abs] at this
    simpa using this
  have hmul : floatBits .mul .f64 4652007308841189376 a = some (double.nearest false (8796093022208000 * m) (-43 + i)) := by
    show Format.mul double _ _ = _
    unfold Format.mul
    rw [read_1000, e]
    rfl
  obtain ⟨g1, g2⟩ := fop_of hmul
  refine ⟨g1, ?_⟩
  rw [g2]
  have hN : 8796093022208000 * m * p2 (i + 1074).toNat = 1000 * X * p2 43 := by
    rw [hXm, m1000]
    simp only [Nat.mul_assoc, Nat.mul_comm, Nat.mul_left_comm]
  by_cases hs : 1000 * X < p2 1900
  · left
    obtain ⟨K, k1, k2, k3⟩ := near_int false (8796093022208000 * m) (-43 + i) (1000 * X) (i + 1074).toNat 43 (by omega) hN hs
    refine ⟨hs, K, k1, ?_, ?_⟩
    · rw [p2_53] at k2; omega
    · rw [p2_53] at k3; omega
  · right
    have h18 := p2_le (show 1800 ≤ 1900 by omega)
    exact ⟨by omega, near_big (8796093022208000 * m) (-43 + i) (1000 * X) (i + 1074).toNat 43 (by omega) hN (by omega)⟩
/-! ### floor, what is behind the point, the nearest whole number -/
theorem u_big {P : Nat} (hP : P < 2251799813685248 * u) : P < p2 2150 := by
  have e : p2 51 = 2251799813685248 := by rw [← p2_is]
  have : 2251799813685248 * u = p2 1125 := by unfold u; rw [← e, ← p2_add]
  have := p2_le (show 1125 ≤ 2150 by omega)
  omega
theorem floor_facts {p P : Nat} (h : key p = some (P : Int)) (hP : P < 2251799813685248 * u) :
    math_Floor.f p = some (floorBits p) ∧ fintOk (floorBits p) = true ∧ fint (floorBits p) = ((P / u : Nat) : Int) ∧ fvalid .sub p (floorBits p) = true ∧ key (fop .sub p (floorBits p)) = some ((P % u : Nat) : Int) := by
  have hb := u_big hP
  have hu := u_pos
  obtain ⟨s, m, i, e, i0, i1, hm, _, hun⟩ := key_number h (by simpa using hb)
  have hPm : P = m * p2 (i + 1074).toNat := by
    have := congrArg Int.natAbs hun
    rw [units_abs] at this
    simpa using this
  have hf : math_Floor.f p = some (floorBits p) := by
    unfold math_Floor.f
    rw [e]
    rfl
  have hkf := key_floor h (by simpa using hb)
  rw [U_u, ← Int.natCast_ediv, ← Int.natCast_mul] at hkf
  have hle : P / u * u ≤ P := Nat.div_mul_le_self P u
  have hq : P / u < 2251799813685248 := Nat.div_lt_of_lt_mul (by rw [Nat.mul_comm]; exact hP)
  have ht : (((P / u * u : Nat) : Int)).tdiv U = ((P / u : Nat) : Int) := by
    rw [U_u, Int.natCast_mul, Int.mul_tdiv_cancel _ (by omega)]
  have t0 : -9223372036854775808 ≤ (((P / u * u : Nat) : Int)).tdiv U := by rw [ht]; generalize P / u = z at *; omega
  have t1 : (((P / u * u : Nat) : Int)).tdiv U ≤ 9223372036854775807 := by rw [ht]; generalize P / u = z at *; omega
  have hi := int_key hkf (by rw [Int.natAbs_natCast]; omega) t0 t1
  rw [ht] at hi
  obtain ⟨f1, f2⟩ := fint_of hi
  have hd : (P : Int) - ((P / u * u : Nat) : Int) = ((P % u : Nat) : Int) := by
    have := Nat.div_add_mod P u
    rw [Nat.mul_comm] at this
    omega
  have hqe : ∃ q e : Nat, P % u = q * p2 e ∧ q < p2 53 ∧ e ≤ 2045 := by
    rcases Nat.lt_or_ge (i + 1074).toNat 1074 with g | g
    · refine ⟨m % p2 (1074 - (i + 1074).toNat), (i + 1074).toNat, ?_, ?_, by omega⟩
      · have eu : u = p2 (1074 - (i + 1074).toNat) * p2 (i + 1074).toNat := by unfold u; rw [← p2_add]; congr 1; omega
        rw [eu, hPm, Nat.mul_mod_mul_right]
      · rw [p2_53]; exact Nat.lt_of_le_of_lt (Nat.mod_le _ _) hm
    · refine ⟨0, 0, ?_, p2_pos 53, by omega⟩
      have eu : P = m * p2 ((i + 1074).toNat - 1074) * u := by unfold u; rw [Nat.mul_assoc, ← p2_add, hPm]; congr 2; omega
      rw [eu, Nat.mul_mod_left, Nat.zero_mul]
  obtain ⟨q, e', hq1, hq2, hq3⟩ := hqe
  obtain ⟨r, h1, h2⟩ := key_sub h hkf (by simpa using hb) (by rw [Int.natAbs_natCast]; omega) (q := q) (e := e') (by rw [hd, Int.natAbs_natCast]; exact hq1) hq2 hq3
  obtain ⟨g1, g2⟩ := fop_of h1
  exact ⟨hf, f1, f2, g1, by rw [g2, h2, hd]⟩
/-- the nearest whole number, half up. -/
def N (P : Nat) : Nat := if u ≤ 2 * (P % u) then P / u + 1 else P / u
theorem N_near (P : Nat) : 2 * (N P * u) ≤ 2 * P + u ∧ 2 * P ≤ 2 * (N P * u) + u := by
  have h1 := Nat.div_add_mod P u
  have h2 := Nat.mod_lt P u_pos
  have hu := u_pos
  rw [Nat.mul_comm] at h1
  unfold N
  split
  · rw [Nat.add_mul, Nat.one_mul]
    generalize P / u * u = z at *
    omega
  · generalize P / u * u = z at *
    omega
theorem N_eq {P k : Nat} (h1 : 2 * P < 2 * (k * u) + u) (h2 : 2 * (k * u) < 2 * P + u) : N P = k := by
  have hu := u_pos
  have hdm := Nat.div_add_mod P u
  rw [Nat.mul_comm] at hdm
  by_cases h : k * u ≤ P
  · have e : P / u = k := Nat.div_eq_of_lt_le h (by rw [Nat.add_mul, Nat.one_mul]; generalize k * u = y at *; omega)
    rw [e] at hdm
    unfold N
    rw [e, if_neg (by generalize k * u = y at *; omega)]
  · have k1 : 1 ≤ k := by
      rcases Nat.eq_zero_or_pos k with g | g
      · subst g; rw [Nat.zero_mul] at h; omega
      · exact g
    obtain ⟨j, rfl⟩ : ∃ j, k = j + 1 := ⟨k - 1, by omega⟩
    rw [Nat.add_mul, Nat.one_mul] at h1 h2 h
    have e : P / u = j := Nat.div_eq_of_lt_le (by generalize j * u = y at *; omega) (by rw [Nat.add_mul, Nat.one_mul]; generalize j * u = y at *; omega)
    rw [e] at hdm
    unfold N
    rw [e, if_pos (by generalize j * u = y at *; omega)]
end Go.Proofs.YtfmfikodnpnblaaDoor.RateFlt
/- A whole number by 1000; how far a difference lies from the exact one. No program here. -/
namespace Go.Proofs.YtfmfikodnpnblaaDoor.RateFltQ
open Ieee Go.RowKit Go.Proofs.YtfmfikodnpnblaaDoorW.PrintWords Go.Proofs.YtfmfikodnpnblaaDoorW.PrintMore Go.Proofs.YtfmfikodnpnblaaDoor.Base Go.Proofs.YtfmfikodnpnblaaDoor.Flt Go.Proofs.YtfmfikodnpnblaaDoor.FltClk Go.Proofs.YtfmfikodnpnblaaDoor.FltAdd Go.Proofs.YtfmfikodnpnblaaDoor.FltInj Go.Proofs.YtfmfikodnpnblaaDoor.FltExact Go.Proofs.YtfmfikodnpnblaaDoor.FltOk Go.Proofs.YtfmfikodnpnblaaDoor.FltWhole Go.Proofs.YtfmfikodnpnblaaDoor.FltRound Go.Proofs.YtfmfikodnpnblaaDoor.RateFlt
theorem quo_err {D n q r : Nat} (hn : 0 < n) (hd : n * q + r = D) (hr : r < n) : (2 * q + (r != 0).toNat) * n ≤ 2 * D + n ∧ 2 * D ≤ (2 * q + (r != 0).toNat) * n + n := by
  by_cases h : r = 0
  · subst h
    have e : (2 * q + ((0 : Nat) != 0).toNat) * n = 2 * (n * q) := by
      show (2 * q + 0) * n = _
      rw [Nat.add_zero, Nat.mul_assoc, Nat.mul_comm q n]
    rw [e]; omega
  · have e : (2 * q + (r != 0).toNat) * n = 2 * (n * q) + n := by
      rw [show (r != 0) = true by rw [bne_iff_ne]; exact h]
      show (2 * q + 1) * n = _
      rw [Nat.add_mul, Nat.mul_assoc, Nat.mul_comm q n, Nat.one_mul]
    rw [e]; omega
/-- k thousandths, k not above 2^50. -/
theorem quo_1000 {k : Nat} (h : k ≤ 1125899906842624) : ∃ y K : Nat, fvalid .quo (floatOfInt .f64 (k : Int)) 4652007308841189376 = true ∧ fop .quo (floatOfInt .f64 (k : Int)) 4652007308841189376 = y ∧ y < 9223372036854775808 ∧ key y = some (K : Int) ∧ 4503599627370496 * (1000 * K) ≤ 4503599627370497 * (k * u) ∧ 4503599627370495 * (k * u) ≤ 4503599627370496 * (1000 * K) ∧ (k = 0 → y = 0) := by
  have hu := u_pos
  rcases Nat.eq_zero_or_pos k with h0 | h0
  · subst h0
    refine ⟨0, 0, by decide +kernel, by decide +kernel, by omega, by decide +kernel, by omega, by omega, fun _ => rfl⟩
  have hk := key_ofInt (k : Int) (by omega)
  rw [U_u, ← Int.natCast_mul] at hk
  have hsm : k * u < p2 1130 := by
    have e : p2 50 = 1125899906842624 := by rw [← p2_is]
    have h1 : k * u ≤ 1125899906842624 * u := Nat.mul_le_mul_right _ h
    have h2 : 1125899906842624 * u = p2 1124 := by unfold u; rw [← e, ← p2_add]
    have := p2_lt (show 1124 < 1130 by omega)
    omega
  have h21 := p2_le (show 1130 ≤ 2150 by omega)
  obtain ⟨s, m, i, e, i0, i1, hm, hm0, hun⟩ := key_number hk (by rw [Int.natAbs_natCast]; omega)
  have hkm : k * u = m * p2 (i + 1074).toNat := by
    have := congrArg Int.natAbs hun
    rw [units_abs, Int.natAbs_natCast] at this
    exact this
  have hku : u ≤ k * u := Nat.le_mul_of_pos_left _ h0
  have hwp : ∃ r, r ≤ 9218868437227405312 ∧ floatOfInt .f64 (k : Int) = double.word false r := by
    rw [ofInt_is]
    rw [show decide ((k : Int) < 0) = false by rw [decide_eq_false_iff_not]; omega]
    obtain ⟨r, hr, hr'⟩ := nearest_is false (k : Int).natAbs 0
    exact ⟨r, hr, hr'⟩
  obtain ⟨r0, hr0, hwr⟩ := hwp
  have hword : ∀ r, double.word false r = r := fun r => by simp [Format.word]
  obtain rfl : s = false := by
    refine read_pos (a := floatOfInt .f64 (k : Int)) ?_ e
    rw [hwr, hword]; omega
  obtain ⟨I, hI⟩ : ∃ I : Nat, (i + 1074).toNat = I := ⟨_, rfl⟩
  rw [hI] at hkm
  have p53 := p2_53
  have p52 := p2_52
  have hI1 : 1021 < I := by
    rcases Nat.lt_or_ge 1021 I with g | g
    · exact g
    · exfalso
      have h1 : m * p2 I < p2 53 * p2 I := Nat.mul_lt_mul_of_pos_right (by omega) (p2_pos I)
      rw [← p2_add] at h1
      have := p2_le (show 53 + I ≤ 1074 by omega)
      unfold u at hku
      unfold u at hkm
      omega
  have hm52 : 4503599627370496 ≤ m := by
    rcases Nat.lt_or_ge m 4503599627370496 with g | g
    · have := hm0 g; omega
    · exact g
  have lm : m.log2 = 52 := by
    have h1 := log_lt (k := 53) (n := m) (by rw [p2_53]; exact hm) (by omega)
    have h2 : 52 ≤ m.log2 := by
      rcases Nat.lt_or_ge m.log2 52 with g | g
      · have h3 := lt_log m
        have := p2_le (show m.log2 + 1 ≤ 52 by omega)
        omega
      · exact g
    omega
  have ln : Nat.log2 8796093022208000 = 52 := by decide +kernel
  obtain ⟨q, hq⟩ : ∃ q, m * p2 54 / 8796093022208000 = q := ⟨_, rfl⟩
  obtain ⟨r, hr⟩ : ∃ r, m * p2 54 % 8796093022208000 = r := ⟨_, rfl⟩
  have hdm := Nat.div_add_mod (m * p2 54) 8796093022208000
  have hrl := Nat.mod_lt (m * p2 54) (show 8796093022208000 > 0 by omega)
  rw [hq, hr] at hdm
  rw [hr] at hrl
  have hquo : (Datum.number false m i).quotient (52 + 2) (Datum.number false 8796093022208000 (-43)) = some (.number false (2 * q + (r != 0).toNat) (i - 12)) := by
    show (if (8796093022208000 : Nat) = 0 then (if m = 0 then none else some (Datum.infinity (false ^^ false))) else some (Datum.number (false ^^ false) (2 * ((m <<< (52 + 2 + Nat.log2 8796093022208000 - m.log2)) / 8796093022208000) + ((m <<< (52 + 2 + Nat.log2 8796093022208000 - m.log2)) % 8796093022208000 != 0).toNat) (i - (-43) - ((52 + 2 + Nat.log2 8796093022208000 - m.log2 : Nat) : Int) - 1))) = _
    rw [if_neg (by omega), ln, lm, show 52 + 2 + 52 - 52 = 54 by omega, Nat.shiftLeft_eq, p2_is, hq, hr]
    congr 2
    omega
  have hf : floatBits .quo .f64 (floatOfInt .f64 (k : Int)) 4652007308841189376 = some (double.nearest false (2 * q + (r != 0).toNat) (i - 12)) := by
    show Format.div double _ _ = _
    unfold Format.div
    rw [e, read_1000]
    show ((Datum.number false m i).quotient (52 + 2) (Datum.number false 8796093022208000 (-43))).map double.write = _
    rw [hquo]
    rfl
  obtain ⟨g1, g2⟩ := fop_of hf
  obtain ⟨M, hM⟩ : ∃ M, 2 * q + (r != 0).toNat = M := ⟨_, rfl⟩
  have herr := quo_err (by omega) hdm hrl
  rw [hM] at herr hf g2
  have e54 : p2 54 = 18014398509481984 := by rw [← p2_is]
  rw [e54] at herr
  -- the value
  obtain ⟨V, hV⟩ : ∃ V, M * p2 (I - 12) = V := ⟨_, rfl⟩
  have hP := p2_pos (I - 12)
  have hI12 : p2 I = 4096 * p2 (I - 12) := by
    have e12 : p2 12 = 4096 := by rw [← p2_is]
    rw [← e12, ← p2_add]; congr 1; omega
  obtain ⟨g, hg⟩ : ∃ g, p2 (I - 12) = g := ⟨_, rfl⟩
  rw [hg] at hV hP hI12
  rw [hI12] at hkm
  -- 2D = m * 2^55, in thousandths of the divisor: 4096 m * 2^43
  have hMn1 : M * 1000 ≤ 4096 * m + 1000 := by omega
  have hMn2 : 4096 * m ≤ M * 1000 + 1000 := by omega
  have hV1 : 1000 * V ≤ k * u + 1000 * g := by
    rw [hkm, ← hV]
    have := Nat.mul_le_mul_right g hMn1
    calc 1000 * (M * g) = M * 1000 * g := by simp only [Nat.mul_assoc, Nat.mul_comm, Nat.mul_left_comm]
      _ ≤ (4096 * m + 1000) * g := this
      _ = m * (4096 * g) + 1000 * g := by rw [Nat.add_mul]; congr 1; simp only [Nat.mul_assoc, Nat.mul_comm, Nat.mul_left_comm]
  have hV2 : k * u ≤ 1000 * V + 1000 * g := by
    rw [hkm, ← hV]
    have := Nat.mul_le_mul_right g hMn2
    calc m * (4096 * g) = 4096 * m * g := by simp only [Nat.mul_assoc, Nat.mul_comm, Nat.mul_left_comm]
      _ ≤ (M * 1000 + 1000) * g := this
      _ = 1000 * (M * g) + 1000 * g := by rw [Nat.add_mul]; congr 1; simp only [Nat.mul_assoc, Nat.mul_comm, Nat.mul_left_comm]
  have hV3 : 18014398509481984 * g ≤ V := by
    rw [← hV]
    exact Nat.mul_le_mul_right _ (by omega)
  have hplace : (i - 12) + 1074 = ((I - 12 : Nat) : Int) - ((0 : Nat) : Int) := by omega
  have p0 : p2 0 = 1 := by rw [← p2_is]
  have h19 := p2_le (show 1131 ≤ 1900 by omega)
  have e31 : p2 1131 = p2 1130 * 2 := by rw [show (1131 : Nat) = 1130 + 1 by omega, p2_add, show p2 1 = 2 by rw [← p2_is]]
  obtain ⟨K, k1, k2, k3⟩ := near_int false M (i - 12) V (I - 12) 0 hplace (by rw [hg, hV, p0, Nat.mul_one]) (by omega)
  rw [p2_53] at k2 k3
  refine ⟨_, K, g1, rfl, ?_, by rw [g2]; simpa using k1, by omega, by omega, fun h => by omega⟩
  rw [g2]
  obtain ⟨q1, hq1, hq2⟩ := nearest_is false M (i - 12)
  rw [hq2, hword]; omega
/-- how far a difference lies from the exact one. -/
theorem sub_near {x y : Nat} {a b : Int} (hx : key x = some a) (hy : key y = some b) (ha : a.natAbs < p2 1800) (hb : b.natAbs < p2 1800) :
    fvalid .sub x y = true ∧ ∃ R : Nat, (key (fop .sub x y) = some (if a < b then -(R : Int) else (R : Int)) ∧ 9007199254740992 * R ≤ 9007199254740993 * (a - b).natAbs) := by
  have h18 := p2_le (show 1800 ≤ 2150 by omega)
  obtain ⟨s, m, i, ex, h0, h1, h2, h3, hxa⟩ := key_number hx (by omega)
  obtain ⟨t, n, j, ey, g0, g1, g2, g3, hyb⟩ := key_number hy (by omega)
  obtain ⟨v, hv⟩ : ∃ v, min i j = v := ⟨_, rfl⟩
  have hv0 : -1074 ≤ v := by omega
  obtain ⟨T, hT⟩ : ∃ T, signed s m (i - v).toNat + signed (!t) n (j - v).toNat = T := ⟨_, rfl⟩
  have hc : a - b = T * (p2 (v + 1074).toNat : Nat) := by
    have h4 : a - b = units s m i + units (!t) n j := by rw [units_neg, hxa, hyb]; rfl
    rw [h4, units_base s m hv0 (show v ≤ i by omega), units_base (!t) n hv0 (show v ≤ j by omega), ← Int.add_mul, hT]
  have hmag : T.natAbs * p2 (v + 1074).toNat = (a - b).natAbs * p2 0 := by
    rw [hc, Int.natAbs_mul, Int.natAbs_natCast, show p2 0 = 1 by rw [← p2_is], Nat.mul_one]
  have hPp : (0 : Int) < (p2 (v + 1074).toNat : Nat) := by have := p2_pos (v + 1074).toNat; omega
  have hsum : ∃ neg : Bool, floatBits .sub .f64 x y = some (double.nearest neg T.natAbs v) ∧ (neg = true ↔ T < 0 ∨ (T = 0 ∧ neg = true)) := by
    refine ⟨if T = 0 then s && !t else decide (T < 0), ?_, ?_⟩
    · show Format.sub double x y = _
      unfold Format.sub
      rw [ex, ey, ← hT, ← hv]
      rfl
    · by_cases h : T = 0
      · rw [if_pos h]
        constructor
        · intro h'; exact .inr ⟨h, h'⟩
        · rintro (h' | h')
          · omega
          · exact h'.2
      · rw [if_neg h, decide_eq_true_iff]
        constructor
        · intro h'; exact .inl h'
        · rintro (h' | h')
          · exact h'
          · exact absurd h'.1 h
  obtain ⟨neg, hs, hneg⟩ := hsum
  obtain ⟨f1, f2⟩ := fop_of hs
  have e1 : p2 1801 = p2 1800 * 2 := by rw [show (1801 : Nat) = 1800 + 1 by omega, p2_add, show p2 1 = 2 by rw [← p2_is]]
  have h19 := p2_le (show 1801 ≤ 1900 by omega)
  obtain ⟨R, r1, r2, r3⟩ := near_int neg T.natAbs v (a - b).natAbs (v + 1074).toNat 0 (by omega) hmag (by omega)
  rw [p2_53] at r2 r3
  refine ⟨f1, R, ?_, by omega⟩
  rw [f2, r1]
  rcases Int.lt_trichotomy T 0 with h | h | h
  · have : a - b < 0 := by rw [hc]; exact Int.mul_neg_of_neg_of_pos h hPp
    rw [if_pos (hneg.2 (.inl h)), if_pos (by omega)]
  · have h4 : a - b = 0 := by rw [hc, h, Int.zero_mul]
    have : R = 0 := by rw [h4] at r2 r3; simp at r2 r3; omega
    subst this
    simp
  · have : 0 < a - b := by rw [hc]; exact Int.mul_pos h hPp
    have hnn : ¬ neg = true := fun h' => by rcases hneg.1 h' with h'' | h'' <;> omega
    rw [if_neg hnn, if_neg (by omega)]
end Go.Proofs.YtfmfikodnpnblaaDoor.RateFltQ
/- A number of thousandths as a text, and a text's number: what Text's end, Parse's beginning and the law's digits come to. No program here. -/
namespace Go.Proofs.YtfmfikodnpnblaaDoor.RateNum
open Go.RowKit Go.Lib Go.Proofs.YtfmfikodnpnblaaDoorW.PrintWords Go.Proofs.YtfmfikodnpnblaaDoorW.PrintMore Go.Proofs.YtfmfikodnpnblaaDoor.Base Go.Proofs.YtfmfikodnpnblaaDoor.ClkLib Go.Proofs.YtfmfikodnpnblaaDoor.PaxSem Go.Proofs.YtfmfikodnpnblaaDoor.RateLibB Go.Proofs.YtfmfikodnpnblaaDoor.RateTxt
open PRate1 (rate_Text.j0 stevedorelaw36_digits.l0 stevedorelaw36_digits.f)
def d1 (n : Nat) : UInt8 := UInt8.ofNat (48 + n)
theorem decDigits_small {u : Nat} (h : u < 10) : decDigits u = [d1 u] := by rw [decDigits, dif_pos h]; rfl
theorem decDigits_step {u : Nat} (h : 10 ≤ u) : decDigits u = decDigits (u / 10) ++ [d1 (u % 10)] := by rw [decDigits, dif_neg (by omega)]; rfl
def pad (r : Nat) : List UInt8 := [d1 (r / 100), d1 (r / 10 % 10), d1 (r % 10)]
theorem pad_is {r : Nat} (h : r < 1000) : (decDigits (1000 + r)).drop 1 = pad r := by
  rw [decDigits_step (by omega), decDigits_step (u := (1000 + r) / 10) (by omega), decDigits_step (u := (1000 + r) / 10 / 10) (by omega), decDigits_small (u := (1000 + r) / 10 / 10 / 10) (by omega),
    show (1000 + r) / 10 / 10 % 10 = r / 100 by omega, show (1000 + r) / 10 % 10 = r / 10 % 10 by omega, show (1000 + r) % 10 = r % 10 by omega]
  rfl
theorem d1_isD {n : Nat} (h : n < 10) : isD (d1 n) = true := by rw [isD_iff]; unfold d1; rw [dg_toNat n h]; omega
theorem pad_all {r : Nat} (h : r < 1000) : (pad r).all isD = true := by
  unfold pad
  simp only [List.all_cons, List.all_nil, Bool.and_true]
  rw [d1_isD (by omega), d1_isD (by omega), d1_isD (by omega)]
  rfl
theorem dval_pad (l : List UInt8) {r : Nat} (h : r < 1000) : dval (l ++ pad r) = dval l * 1000 + r := by
  have e : l ++ pad r = ((l ++ [d1 (r / 100)]) ++ [d1 (r / 10 % 10)]) ++ [d1 (r % 10)] := by simp [pad]
  rw [e, dval_snoc, dval_snoc, dval_snoc]
  unfold d1
  rw [dg_toNat _ (by omega), dg_toNat _ (by omega), dg_toNat _ (by omega)]
  omega
/-- n thousandths. -/
def body (n : Nat) : List UInt8 := decDigits (n / 1000) ++ 46 :: pad (n % 1000)
def txt (neg : Bool) (n : Nat) : List UInt8 := if neg then 45 :: body n else body n
theorem dec_short {u : Nat} (h : u < 10000000000000) : (decDigits u).length ≤ 13 := by
  have := nDigits_le 12 u (by simpa using h)
  rw [decDigits_length]; omega
theorem body_len {n : Nat} (h : n ≤ 1125899906842624) : (body n).length ≤ 17 := by
  unfold body
  have := dec_short (u := n / 1000) (by omega)
  rw [List.length_append, List.length_cons]
  show _ + (3 + 1) ≤ 17
  omega
theorem txt_len {neg : Bool} {n : Nat} (h : n ≤ 1125899906842624) : (txt neg n).length ≤ 18 := by
  have := body_len h
  unfold txt
  cases neg
  · exact Nat.le_succ_of_le this
  · show (body n).length + 1 ≤ 18
    omega
theorem Text_j0 (k : Nat) (neg : Bool) {n : Nat} (h : n ≤ 1125899906842624) : rate_Text.j0 (k + 1) neg (n : Int) = some (strOf (txt neg n)) := by
  have h1 := dec_short (u := n / 1000) (by omega)
  have hl := body_len h
  have e1 : wrap64 (Int.tdiv (n : Int) 1000) = ((n / 1000 : Nat) : Int) := by
    rw [Int.tdiv_eq_ediv_of_nonneg (by omega), wrap64_id (by omega) (by omega)]; omega
  have e2 : wrap64 (1000 + Int.tmod (n : Int) 1000) = ((1000 + n % 1000 : Nat) : Int) := by
    rw [Int.tmod_eq_emod_of_nonneg (by omega), wrap64_id (by omega) (by omega)]; omega
  have e3 : (⟨#[46]⟩ : ByteArray) = strOf [46] := rfl
  have e4 : (⟨#[45]⟩ : ByteArray) = strOf [45] := rfl
  have e5 : strOf (decDigits (n / 1000)) ++ strOf [46] ++ strOf (pad (n % 1000)) = strOf (body n) := by
    rw [strOf_append, strOf_append]; unfold body; simp
  have h4 : 1 ≤ (decDigits (1000 + n % 1000)).length := by
    have := decDigits_ne (1000 + n % 1000)
    rcases Nat.eq_zero_or_pos (decDigits (1000 + n % 1000)).length with g | g
    · exact absurd (List.length_eq_zero_iff.1 g) this
    · exact g
  rw [rate_Text.j0, e1, Itoa_eq (by omega) (by omega), Option.bind_some, Int.toNat_natCast, strOf_size, if_pos (by omega), e2, Itoa_eq (by omega) (by omega), Option.bind_some, Int.toNat_natCast, if_pos (by rw [strOf_size]; omega),
    extract_one, pad_is (by omega), e3, if_pos (by rw [strOf_append, strOf_size, strOf_size, List.length_append]; show _ + 1 + 3 ≤ _; omega), e5]
  cases neg
  · rw [if_neg (by decide)]; rfl
  · rw [if_pos rfl, strOf_size, if_pos (by omega), e4, strOf_append]; rfl
/-! ### the law's digits -/
theorem ten_cut {i : Nat} (h : i < 10) : (⟨#[48, 49, 50, 51, 52, 53, 54, 55, 56, 57]⟩ : ByteArray).extract i (i + 1) = strOf [d1 i] := by
  have : ∀ i, i < 10 → (⟨#[48, 49, 50, 51, 52, 53, 54, 55, 56, 57]⟩ : ByteArray).extract i (i + 1) = strOf [d1 i] := by
    intro i hi
    apply ByteArray.ext
    match i, hi with
    | 0, _ => decide
    | 1, _ => decide
    | 2, _ => decide
    | 3, _ => decide
    | 4, _ => decide
    | 5, _ => decide
    | 6, _ => decide
    | 7, _ => decide
    | 8, _ => decide
    | 9, _ => decide
    | i + 10, hi => omega
  exact this i h
theorem digits_l0 (d : Nat) : ∀ (k n : Nat) (s : List UInt8), n < 10 ^ (d + 1) → n ≤ 1125899906842624 → d < k → s.length + d ≤ 100 → stevedorelaw36_digits.l0 k (n : Int) (strOf s) = some (strOf (decDigits n ++ s)) := by
  have small : ∀ (k n : Nat) (s : List UInt8), n < 10 → s.length ≤ 100 → stevedorelaw36_digits.l0 (k + 1) (n : Int) (strOf s) = some (strOf (decDigits n ++ s)) := by
    intro k n s hn hs
    have w : wrap64 ((n : Int) + 1) = ((n + 1 : Nat) : Int) := by rw [wrap64_id (by omega) (by omega)]; omega
    rw [stevedorelaw36_digits.l0, if_neg (by omega), if_pos (by omega), w, if_pos (by omega), if_pos (by omega), Int.toNat_natCast, Int.toNat_natCast, ten_cut hn, if_pos (by rw [strOf_size, strOf_size]; show 1 + s.length ≤ _; omega), strOf_append, decDigits_small hn]
  induction d with
  | zero =>
    intro k n s hn hm hk hs
    obtain ⟨k, rfl⟩ : ∃ m, k = m + 1 := ⟨k - 1, by omega⟩
    exact small k n s (by simpa using hn) (by omega)
  | succ d ih =>
    intro k n s hn hm hk hs
    obtain ⟨k, rfl⟩ : ∃ m, k = m + 1 := ⟨k - 1, by omega⟩
    by_cases h10 : n < 10
    · exact small k n s h10 (by omega)
    · have t : Int.tmod (n : Int) 10 = ((n % 10 : Nat) : Int) := by rw [Int.tmod_eq_emod_of_nonneg (by omega)]; omega
      have q : wrap64 (Int.tdiv (n : Int) 10) = ((n / 10 : Nat) : Int) := by rw [Int.tdiv_eq_ediv_of_nonneg (by omega), wrap64_id (by omega) (by omega)]; omega
      have w : wrap64 (((n % 10 : Nat) : Int) + 1) = ((n % 10 + 1 : Nat) : Int) := by rw [wrap64_id (by omega) (by omega)]; omega
      rw [stevedorelaw36_digits.l0, if_pos (by omega), t, if_pos (by omega), w, if_pos (by omega), if_pos (by omega), Int.toNat_natCast, Int.toNat_natCast, ten_cut (by omega), if_pos (by rw [strOf_size, strOf_size]; show 1 + s.length ≤ _; omega), q, strOf_append,
        ih k (n / 10) _ (by rw [Nat.pow_succ] at hn; omega) (by omega) (by omega) (by show s.length + 1 + d ≤ 100; omega), decDigits_step (u := n) (by omega), List.append_assoc]
theorem digits_f (k : Nat) {n : Nat} (h : n ≤ 1125899906842624) (hk : 16 ≤ k) : stevedorelaw36_digits.f k (n : Int) = some (strOf (decDigits n)) := by
  have := digits_l0 15 k n [] (by omega) h (by omega) (by simp)
  rw [List.append_nil] at this
  exact this
/-! ### Parse's beginning -/
theorem body_head {n : Nat} : head (body n) = decDigits (n / 1000) ∧ rest (body n) = 46 :: pad (n % 1000) := by
  have hne : ∀ c ∈ decDigits (n / 1000), (c != 46) = true := fun c hc => by
    have := List.all_eq_true.1 (decDigits_all (n / 1000)) c hc
    rw [isD_iff] at this
    rw [bne_iff_ne]
    rintro rfl
    exact absurd this.1 (by decide)
  unfold head rest body
  rw [List.takeWhile_append_of_pos hne, List.dropWhile_append_of_pos hne]
  simp
theorem body_first (n : Nat) : ∃ c r, body n = c :: r ∧ isD c = true := by
  have h1 := decDigits_ne (n / 1000)
  have h2 := decDigits_all (n / 1000)
  unfold body
  match hd : decDigits (n / 1000), h1 with
  | c :: r, _ =>
    rw [hd, List.all_cons, Bool.and_eq_true] at h2
    exact ⟨c, _, rfl, h2.1⟩
theorem txt_not {neg : Bool} {n : Nat} {l : List UInt8} (h : l = [78, 97, 78] ∨ l = [43, 73, 110, 102] ∨ l = [45, 73, 110, 102] ∨ l = [43, 66, 105, 103] ∨ l = [45, 66, 105, 103]) : txt neg n ≠ l := by
  obtain ⟨c, r, e, hc⟩ := body_first n
  rw [isD_iff] at hc
  intro he
  unfold txt at he
  rw [e] at he
  cases neg
  · rcases h with rfl | rfl | rfl | rfl | rfl <;> (injection he with h1 _; subst h1; revert hc; decide)
  · rcases h with rfl | rfl | rfl | rfl | rfl <;> first
      | (injection he with h1 _; revert h1; decide)
      | (injection he with _ h2; injection h2 with h1 _; subst h1; revert hc; decide)
theorem cutPrefix_txt (neg : Bool) (n : Nat) : strings_CutPrefix.f (strOf (txt neg n)) (⟨#[45]⟩ : ByteArray) = some (strOf (body n), neg) := by
  obtain ⟨c, r, e, hc⟩ := body_first n
  rw [isD_iff] at hc
  unfold strings_CutPrefix.f
  rw [strOf_list]
  show some (strOf (Lib.trimPrefix (txt neg n) [45]), Lib.hasPrefix (txt neg n) [45]) = _
  cases neg
  · have hp : Lib.hasPrefix (txt false n) [45] = false := by
      show List.isPrefixOf [45] (body n) = false
      rw [e]
      have : ((45 : UInt8) == c) = false := by rw [beq_eq_false_iff_ne]; rintro rfl; exact absurd hc.1 (by decide)
      simp [List.isPrefixOf, this]
    unfold Lib.trimPrefix
    rw [hp]
    rfl
  · have hp : Lib.hasPrefix (txt true n) [45] = true := by
      show List.isPrefixOf [45] (45 :: body n) = true
      simp [List.isPrefixOf]
    unfold Lib.trimPrefix
    rw [hp]
    rfl
theorem atoi_body {n : Nat} (h : n ≤ 1125899906842624) : ClkAtoiRateB.strconv_Atoi.f (strOf (decDigits (n / 1000)) ++ strOf (pad (n % 1000))) = some ((n : Int), none) := by
  have h1 := dec_short (u := n / 1000) (by omega)
  have hall : (decDigits (n / 1000) ++ pad (n % 1000)).all isD = true := by rw [List.all_append, decDigits_all, pad_all (by omega)]; rfl
  have hv : dval (decDigits (n / 1000) ++ pad (n % 1000)) = n := by rw [dval_pad _ (by omega), decDigits_dval]; omega
  have hl : (decDigits (n / 1000) ++ pad (n % 1000)).length ≤ 16 := by rw [List.length_append]; show _ + 3 ≤ 16; omega
  unfold ClkAtoiRateB.strconv_Atoi.f
  rw [strOf_append, strOf_size, strOf_list, if_pos (by omega)]
  have hne := decDigits_ne (n / 1000)
  generalize hL : decDigits (n / 1000) ++ pad (n % 1000) = L at *
  match L, hall with
  | [], _ => simp [pad] at hL
  | c :: r, hall =>
    have hc := hall
    rw [List.all_cons, Bool.and_eq_true] at hc
    have hc := (isD_iff c).1 hc.1
    have n1 : (c == 45) = false := by rw [beq_eq_false_iff_ne]; rintro rfl; exact absurd hc.1 (by decide)
    have n2 : (c == 43) = false := by rw [beq_eq_false_iff_ne]; rintro rfl; exact absurd hc.1 (by decide)
    rw [Lib.atoi, n1, n2, if_neg (by decide), if_neg (by decide), Lib.decNat, if_neg (by simp), decFrom_eq (c :: r) 0 hall]
    show some (((dval (c :: r) : Nat) : Int), none) = _
    rw [hv]
theorem Parse_j (k : Nat) (neg : Bool) {n : Nat} (h : n ≤ 1125899906842624) : PRateB.rate_Parse.f k (strOf (txt neg n)) = PRateB.rate_Parse.j0 k (strOf (txt neg n)) neg (n : Int) false := by
  have hb := body_len h
  have hl : (strOf (txt neg n)).toList = txt neg n := by rw [toList_eq, strOf_list]
  unfold PRateB.rate_Parse.f
  rw [hl, if_neg (txt_not (.inl rfl)), if_neg (txt_not (.inr (.inl rfl))), if_neg (txt_not (.inr (.inr (.inl rfl)))), if_neg (txt_not (.inr (.inr (.inr (.inl rfl))))), if_neg (txt_not (.inr (.inr (.inr (.inr rfl))))),
    cutPrefix_txt, Option.bind_some, cut_eq (body n) (by omega), Option.bind_some, body_head.1, body_head.2, List.drop_one, List.tail_cons]
  have h1 := dec_short (u := n / 1000) (by omega)
  rw [if_pos (by rw [strOf_size, strOf_size]; show _ + 3 ≤ _; omega), atoi_body h, Option.bind_some]
  show PRateB.rate_Parse.j0 k (strOf (txt neg n)) neg (n : Int) (decide ((n : Int) > 1125899906842624)) = _
  rw [decide_eq_false (by omega)]
end Go.Proofs.YtfmfikodnpnblaaDoor.RateNum
/- rate.Text of a number, rate.Parse of that text. No program here. -/
namespace Go.Proofs.YtfmfikodnpnblaaDoor.RateTxtF
open Ieee Go.RowKit Go.Lib Go.Proofs.YtfmfikodnpnblaaDoorW.PrintWords Go.Proofs.YtfmfikodnpnblaaDoorW.PrintMore Go.Proofs.YtfmfikodnpnblaaDoor.Base Go.Proofs.YtfmfikodnpnblaaDoor.Flt Go.Proofs.YtfmfikodnpnblaaDoor.FltClk Go.Proofs.YtfmfikodnpnblaaDoor.FltAdd Go.Proofs.YtfmfikodnpnblaaDoor.FltInj Go.Proofs.YtfmfikodnpnblaaDoor.FltExact Go.Proofs.YtfmfikodnpnblaaDoor.FltOk Go.Proofs.YtfmfikodnpnblaaDoor.FltWhole Go.Proofs.YtfmfikodnpnblaaDoor.FltRound Go.Proofs.YtfmfikodnpnblaaDoor.FltNeg Go.Proofs.YtfmfikodnpnblaaDoor.RateLib Go.Proofs.YtfmfikodnpnblaaDoor.RateLibB Go.Proofs.YtfmfikodnpnblaaDoor.ClkLib Go.Proofs.YtfmfikodnpnblaaDoor.RateTxt Go.Proofs.YtfmfikodnpnblaaDoor.RateNum Go.Proofs.YtfmfikodnpnblaaDoor.RateFlt Go.Proofs.YtfmfikodnpnblaaDoor.RateFltQ
open PRate1 (rate_Text.j0 rate_Text.f math_IsInf.f)
theorem ord {x y : Nat} {a b : Int} (hx : key x = some a) (hy : key y = some b) : FloatKind.f64.format.order x y = some (compare a b) := order_key hx hy
theorem eq_test (a b : Int) : (some (compare a b) != some Ordering.eq) = !decide (a = b) := by
  rcases Int.lt_trichotomy a b with h | h | h
  · rw [cmp_lt h, decide_eq_false (by omega)]; rfl
  · rw [cmp_eq h, decide_eq_true h]; rfl
  · rw [cmp_gt h, decide_eq_false (by omega)]; rfl
theorem gt_test (a b : Int) : (some (compare a b) == some Ordering.gt) = decide (b < a) := by
  rcases Int.lt_trichotomy a b with h | h | h
  · rw [cmp_lt h, decide_eq_false (by omega)]; rfl
  · rw [cmp_eq h, decide_eq_false (by omega)]; rfl
  · rw [cmp_gt h, decide_eq_true h]; rfl
theorem lt_test (a b : Int) : (some (compare a b) == some Ordering.lt) = decide (a < b) := by
  rcases Int.lt_trichotomy a b with h | h | h
  · rw [cmp_lt h, decide_eq_true h]; rfl
  · rw [cmp_eq h, decide_eq_false (by omega)]; rfl
  · rw [cmp_gt h, decide_eq_false (by omega)]; rfl
theorem ge_test (a b : Int) : (some (compare a b) == some Ordering.gt || some (compare a b) == some Ordering.eq) = decide (b ≤ a) := by
  rcases Int.lt_trichotomy a b with h | h | h
  · rw [cmp_lt h, decide_eq_false (by omega)]; rfl
  · rw [cmp_eq h, decide_eq_true (by omega)]; rfl
  · rw [cmp_gt h, decide_eq_true (by omega)]; rfl
theorem le_test (a b : Int) : (some (compare a b) == some Ordering.lt || some (compare a b) == some Ordering.eq) = decide (a ≤ b) := by
  rcases Int.lt_trichotomy a b with h | h | h
  · rw [cmp_lt h, decide_eq_true (by omega)]; rfl
  · rw [cmp_eq h, decide_eq_true (by omega)]; rfl
  · rw [cmp_gt h, decide_eq_false (by omega)]; rfl
/-! ### numbers -/
theorem key_of {x : Nat} {s : Bool} {m : Nat} {i : Int} (h : double.read x = .number s m i) : key x = some (units s m i) := by unfold key; rw [h]; rfl
theorem key_max : key 9218868437227405311 = some ((9007199254740991 * p2 2045 : Nat) : Int) := key_of (show double.read 9218868437227405311 = .number false 9007199254740991 971 by decide +kernel)
theorem key_half : key 4602678819172646912 = some ((p2 1073 : Nat) : Int) := by
  rw [key_of (show double.read 4602678819172646912 = .number false 4503599627370496 (-53) by decide +kernel)]
  show some (((4503599627370496 * p2 1021 : Nat)) : Int) = _
  rw [← p2_52, ← p2_add]
theorem key_2_50 : key 4832362400168542208 = some ((1125899906842624 * u : Nat) : Int) := by
  rw [key_of (show double.read 4832362400168542208 = .number false 4503599627370496 (-2) by decide +kernel)]
  show some (((4503599627370496 * p2 1072 : Nat)) : Int) = _
  have : u = 4 * p2 1072 := by unfold u; rw [show (1074 : Nat) = 2 + 1072 by omega, p2_add, show p2 2 = 4 by rw [← p2_is]]
  rw [this]
  congr 2
  omega
theorem key_2_40 : key 4787326403894837248 = some ((1099511627776 * u : Nat) : Int) := by
  rw [key_of (show double.read 4787326403894837248 = .number false 4503599627370496 (-12) by decide +kernel)]
  show some (((4503599627370496 * p2 1062 : Nat)) : Int) = _
  have : u = 4096 * p2 1062 := by unfold u; rw [show (1074 : Nat) = 12 + 1062 by omega, p2_add, show p2 12 = 4096 by rw [← p2_is]]
  rw [this]
  congr 2
  omega
theorem key_m2_40 : key 14010698440749613056 = some (-((1099511627776 * u : Nat) : Int)) := by
  rw [key_of (show double.read 14010698440749613056 = .number true 4503599627370496 (-12) by decide +kernel)]
  show some (-(((4503599627370496 * p2 1062 : Nat)) : Int)) = _
  have : u = 4096 * p2 1062 := by unfold u; rw [show (1074 : Nat) = 12 + 1062 by omega, p2_add, show p2 12 = 4096 by rw [← p2_is]]
  rw [this]
  congr 3
  omega
theorem key_0 : key 0 = some 0 := by decide +kernel
theorem u_half : u = 2 * p2 1073 := by unfold u; rw [show (1074 : Nat) = 1 + 1073 by omega, p2_add, show p2 1 = 2 by rw [← p2_is]]
/-- a finite size is not above the greatest. -/
theorem le_max {a X : Nat} (h : key a = some (X : Int)) (hX : X < p2 2150) : X ≤ 9007199254740991 * p2 2045 := by
  obtain ⟨s, m, i, e, i0, i1, hm, _, hu⟩ := key_number h (by rw [Int.natAbs_natCast]; exact hX)
  have hXm : X = m * p2 (i + 1074).toNat := by
    have := congrArg Int.natAbs hu
    rw [units_abs, Int.natAbs_natCast] at this
    exact this
  rw [hXm]
  exact Nat.mul_le_mul (by omega) (p2_le (by omega))
def bigT (s : ByteArray) : Prop := s = (⟨#[45, 66, 105, 103]⟩ : ByteArray) ∨ s = (⟨#[43, 66, 105, 103]⟩ : ByteArray)
theorem u_small50 : 1125899906842624 * u < p2 1700 := by
  have e : p2 50 = 1125899906842624 := by rw [← p2_is]
  have h2 : 1125899906842624 * u = p2 1124 := by unfold u; rw [← e, ← p2_add]
  have := p2_lt (show 1124 < 1700 by omega)
  omega
theorem wrap_succ {z : Nat} (h : z < 1125899906842624) : wrap64 ((z : Int) + 1) = ((z + 1 : Nat) : Int) := by unfold wrap64; omega
theorem ge_half {r : Nat} (h : u ≤ 2 * r) : ((p2 1073 : Nat) : Int) ≤ (r : Int) := by have := u_half; generalize p2 1073 = g at *; omega
theorem lt_half {r : Nat} (h : ¬ u ≤ 2 * r) : ¬ ((p2 1073 : Nat) : Int) ≤ (r : Int) := by have := u_half; generalize p2 1073 = g at *; omega
/-- Text of a number. -/
theorem text_eq (k : Nat) {x X : Nat} (hx : x < 18446744073709551616) (ha : key (x % 9223372036854775808) = some (X : Int)) (hX : X < p2 2150) :
    (∃ P : Nat, P < 1125899906842624 * u ∧ 9007199254740992 * P ≤ 9007199254740993 * (1000 * X) ∧ 9007199254740991 * (1000 * X) ≤ 9007199254740992 * P ∧ rate_Text.f (k + 1) x = some (strOf (txt (decide (9223372036854775808 ≤ x)) (N P)))) ∨
    (9007199254740992 * (1125899906842624 * u) ≤ 9007199254740993 * (1000 * X) ∧ ∃ t, rate_Text.f (k + 1) x = some t ∧ bigT t) := by
  have hb50 := u_small50
  have hu := u_pos
  obtain ⟨c, hc, hcX, hcX'⟩ : ∃ c : Int, key x = some c ∧ -(X : Int) ≤ c ∧ c ≤ (X : Int) := by
    rcases key_abs x with h | ⟨n, h1, h2⟩
    · rw [h.1] at ha; cases ha
    · rw [h1] at ha
      injection ha with ha
      refine ⟨_, h2, ?_, ?_⟩
      · split <;> omega
      · split <;> omega
  have hmx := le_max ha hX
  have e1 : (FloatKind.f64.format.order x x != some .eq) = false := by rw [ord hc hc, eq_test, decide_eq_true rfl]; rfl
  have e2 : math_IsInf.f x 1 = some false := by
    unfold math_IsInf.f
    rw [if_neg (by omega), if_neg (by omega), ord hc key_max, gt_test, decide_eq_false (by omega)]
  have e3 : math_IsInf.f x (-1) = some false := by
    unfold math_IsInf.f
    rw [if_neg (by omega), if_pos (by omega), ord (key_neg hc) key_max, gt_test, decide_eq_false (by omega)]
  obtain ⟨hv, hcase⟩ := mul_1000 (Nat.mod_lt x (by omega)) ha hX
  unfold rate_Text.f
  rw [if_neg (by rw [e1]; decide), e2]
  simp only [Option.bind_some]
  rw [if_neg (by decide), e3]
  simp only [Option.bind_some]
  rw [if_neg (by decide), signbit_is hx]
  simp only [Option.bind_some]
  rw [abs_is hx]
  simp only [Option.bind_some]
  rw [if_pos hv]
  rcases hcase with ⟨hs, P, hP, b1, b2⟩ | ⟨hs, c', hc', hbig⟩
  · rw [ord hP key_2_50, ge_test]
    by_cases hPb : 1125899906842624 * u ≤ P
    · right
      rw [decide_eq_true (by omega), if_pos rfl]
      refine ⟨by omega, ?_⟩
      by_cases hs : 9223372036854775808 ≤ x
      · rw [decide_eq_true hs, if_pos rfl]; exact ⟨_, rfl, .inl rfl⟩
      · rw [decide_eq_false hs, if_neg (by decide)]; exact ⟨_, rfl, .inr rfl⟩
    · left
      refine ⟨P, by omega, b1, b2, ?_⟩
      rw [decide_eq_false (by omega), if_neg (by decide)]
      obtain ⟨f1, f2, f3, f4, f5⟩ := floor_facts hP (by omega)
      rw [f1]
      simp only [Option.bind_some]
      rw [if_pos f2, if_pos f4, ord f5 key_half, ge_test, f3]
      have hq : P / u < 1125899906842624 := Nat.div_lt_of_lt_mul (by rw [Nat.mul_comm]; omega)
      by_cases hh : u ≤ 2 * (P % u)
      · have hN : N P = P / u + 1 := by unfold N; rw [if_pos hh]
        rw [decide_eq_true (ge_half hh), if_pos rfl, hN]
        rw [wrap_succ hq]
        exact Text_j0 k _ (Nat.succ_le_of_lt hq)
      · have hN : N P = P / u := by unfold N; rw [if_neg hh]
        rw [decide_eq_false (lt_half hh), if_neg (by decide), hN]
        exact Text_j0 k _ (Nat.le_of_lt hq)
  · right
    have hgt : 9007199254740992 * (1125899906842624 * u) ≤ 9007199254740993 * (1000 * X) := by
      have := p2_le (show 1700 ≤ 1800 by omega)
      omega
    rw [ord hc' key_2_50, ge_test, decide_eq_true (by omega), if_pos rfl]
    refine ⟨hgt, ?_⟩
    by_cases hs : 9223372036854775808 ≤ x
    · rw [decide_eq_true hs, if_pos rfl]; exact ⟨_, rfl, .inl rfl⟩
    · rw [decide_eq_false hs, if_neg (by decide)]; exact ⟨_, rfl, .inr rfl⟩
/-! ### a text of thousandths -/
/-- what Parse makes of n thousandths. -/
def back (neg : Bool) (n : Nat) : Nat := fop .quo (floatOfInt .f64 (n : Int)) 4652007308841189376 + if neg then 9223372036854775808 else 0
theorem back_facts (neg : Bool) {n : Nat} (h : n ≤ 1125899906842624) : ∃ K : Nat, back neg n < 18446744073709551616 ∧ decide (9223372036854775808 ≤ back neg n) = neg ∧ key (back neg n % 9223372036854775808) = some (K : Int) ∧ key (back neg n) = some (if neg then -(K : Int) else (K : Int)) ∧ K < p2 1700 ∧
    4503599627370496 * (1000 * K) ≤ 4503599627370497 * (n * u) ∧ 4503599627370495 * (n * u) ≤ 4503599627370496 * (1000 * K) ∧ (n = 0 → back neg n = if neg then 9223372036854775808 else 0) := by
  obtain ⟨y, K, _, hy, hyl, hk, h1, h2, h0⟩ := quo_1000 h
  have hb : back neg n = y + if neg then 9223372036854775808 else 0 := by unfold back; rw [hy]
  have hnu : n * u ≤ 1125899906842624 * u := Nat.mul_le_mul_right _ h
  have := u_small50
  have hm : back neg n % 9223372036854775808 = y := by rw [hb]; cases neg <;> simp <;> omega
  refine ⟨K, by rw [hb]; cases neg <;> simp <;> omega, by rw [hb]; cases neg <;> simp <;> omega, by rw [hm]; exact hk, ?_, by omega, h1, h2, fun h => by rw [hb, h0 h]; simp⟩
  rcases key_abs (back neg n) with h | ⟨n', g1, g2⟩
  · rw [hm, hk] at h; cases h.1
  · rw [hm, hk] at g1
    injection g1 with g1
    rw [g2, ← g1]
    have hd : back neg n / 9223372036854775808 % 2 = 1 ↔ neg = true := by rw [hb]; cases neg <;> simp <;> omega
    by_cases hn : neg = true
    · rw [if_pos (hd.2 hn), if_pos hn]
    · rw [if_neg (fun h => hn (hd.1 h)), if_neg hn]
/-- Text of what Parse makes of n thousandths: that text again. -/
theorem text_back (k : Nat) (neg : Bool) {n : Nat} (h : n < 1125899906842624) : rate_Text.f (k + 1) (back neg n) = some (strOf (txt neg n)) := by
  obtain ⟨K, b1, b2, b3, b4, b5, b6, b7, b8⟩ := back_facts neg (Nat.le_of_lt h)
  have hu := u_pos
  have hnu : n * u + u ≤ 1125899906842624 * u := by
    have := Nat.mul_le_mul_right u (show n + 1 ≤ 1125899906842624 by omega)
    rw [Nat.add_mul, Nat.one_mul] at this
    exact this
  have hp := p2_le (show 1700 ≤ 2150 by omega)
  obtain ⟨W, hW⟩ : ∃ W, n * u = W := ⟨_, rfl⟩
  rcases text_eq k b1 b3 (by omega) with ⟨P, p1, p2', p3, p4⟩ | ⟨hg, _⟩
  · rw [p4, b2]
    rw [hW] at b6 b7 hnu
    have hN : N P = n := N_eq (by rw [hW]; omega) (by rw [hW]; omega)
    rw [hN]
  · exfalso
    rw [hW] at b6 b7 hnu
    omega
end Go.Proofs.YtfmfikodnpnblaaDoor.RateTxtF
/- RateBack, plainly: a number of thousandths comes back; a number's text reads as that number to a thousandth. No program here. -/
namespace Go.Proofs.YtfmfikodnpnblaaDoor.PureRateBack
open Ieee Go.RowKit Go.Lib Go.Proofs.YtfmfikodnpnblaaDoorW.PrintWords Go.Proofs.YtfmfikodnpnblaaDoorW.PrintMore Go.Proofs.YtfmfikodnpnblaaDoor.Base Go.Proofs.YtfmfikodnpnblaaDoor.Flt Go.Proofs.YtfmfikodnpnblaaDoor.FltClk Go.Proofs.YtfmfikodnpnblaaDoor.FltAdd Go.Proofs.YtfmfikodnpnblaaDoor.FltInj Go.Proofs.YtfmfikodnpnblaaDoor.FltOk Go.Proofs.YtfmfikodnpnblaaDoor.FltNeg Go.Proofs.YtfmfikodnpnblaaDoor.RateLib Go.Proofs.YtfmfikodnpnblaaDoor.RateLibB Go.Proofs.YtfmfikodnpnblaaDoor.ClkLib Go.Proofs.YtfmfikodnpnblaaDoor.PaxSem Go.Proofs.YtfmfikodnpnblaaDoor.RateTxt Go.Proofs.YtfmfikodnpnblaaDoor.RateNum Go.Proofs.YtfmfikodnpnblaaDoor.RateFlt Go.Proofs.YtfmfikodnpnblaaDoor.RateFltQ Go.Proofs.YtfmfikodnpnblaaDoor.RateTxtF
open PRate1 (rate_Text.j0 rate_Text.f math_IsInf.f stevedoreref35_SameFloat.f)
open PRateB (rate_Parse.j0 rate_Parse.f)
open PRateBack (stevedorelaw36_RateBack.j0 stevedorelaw36_RateBack.j1 stevedorelaw36_RateBack.j2 stevedorelaw36_RateBack.j3 stevedorelaw36_RateBack.f)
open RateTold (stevedorelaw36_told.f)
theorem and_below (x : Int) (m : Nat) (hm : m < 9223372036854775808) : 0 ≤ Go.bits .and .i64 x m ∧ Go.bits .and .i64 x m ≤ m := by
  have h : Go.bits .and .i64 x m = wrap64 (((BitVec.ofInt 64 x &&& BitVec.ofInt 64 (m : Int)).toNat : Nat) : Int) := wi64 _
  have e : (BitVec.ofInt 64 (m : Int)).toNat = m := by rw [BitVec.ofInt_natCast, BitVec.toNat_ofNat, Nat.mod_eq_of_lt (by omega)]
  have h2 : (BitVec.ofInt 64 x &&& BitVec.ofInt 64 (m : Int)).toNat ≤ m := by rw [BitVec.toNat_and, e]; exact Nat.and_le_right
  rw [h, wrap64_id (by omega) (by omega)]
  omega
/-! ### Parse of a text -/
theorem parse_j0 (k : Nat) (neg : Bool) {n : Nat} (h : n ≤ 1125899906842624) (s : ByteArray) : ∃ t, rate_Text.f (k + 1) (back neg n) = some t ∧ rate_Parse.j0 (k + 2) s neg (n : Int) false = some (if t.toList = s.toList then (back neg n, 0) else (0, 2)) := by
  obtain ⟨K, b1, b2, b3, b4, b5, b6, b7, b8⟩ := back_facts neg h
  have hp := p2_le (show 1700 ≤ 2150 by omega)
  obtain ⟨t, ht⟩ : ∃ t, rate_Text.f (k + 1) (back neg n) = some t := by
    rcases text_eq k b1 b3 (by omega) with ⟨P, _, _, _, p4⟩ | ⟨_, t, p4, _⟩
    · exact ⟨_, p4⟩
    · exact ⟨_, p4⟩
  refine ⟨t, ht, ?_⟩
  obtain ⟨y, K', hv, hy, hyl, _⟩ := quo_1000 h
  rw [rate_Parse.j0, if_neg (by decide), if_pos hv, hy]
  cases neg
  · rw [if_neg (by decide)]
    have hb : back false n = y := by unfold back; rw [hy]; rfl
    rw [hb] at ht ⊢
    rw [ht, Option.bind_some]
    split <;> rfl
  · rw [if_pos rfl, copysign_is hyl, Option.bind_some]
    have hb : back true n = y + 9223372036854775808 := by unfold back; rw [hy]; rfl
    rw [hb] at ht ⊢
    rw [ht, Option.bind_some]
    split <;> rfl
theorem parse_txt (k : Nat) (neg : Bool) {n : Nat} (h : n < 1125899906842624) : rate_Parse.f (k + 2) (strOf (txt neg n)) = some (back neg n, 0) := by
  obtain ⟨t, h1, h2⟩ := parse_j0 k neg (Nat.le_of_lt h) (strOf (txt neg n))
  rw [text_back k neg h] at h1
  injection h1 with h1
  subst h1
  rw [Parse_j _ _ (Nat.le_of_lt h), h2, if_pos rfl]
theorem parse_any (k : Nat) (neg : Bool) {n : Nat} (h : n ≤ 1125899906842624) : ∃ r, rate_Parse.f (k + 2) (strOf (txt neg n)) = some r := by
  obtain ⟨t, h1, h2⟩ := parse_j0 k neg h (strOf (txt neg n))
  exact ⟨_, by rw [Parse_j _ _ h, h2]⟩
theorem parse_big (k : Nat) {t : ByteArray} (h : bigT t) : rate_Parse.f k t = some (0, 7) := by
  rcases h with rfl | rfl
  · have e : (⟨#[45, 66, 105, 103]⟩ : ByteArray).toList = [45, 66, 105, 103] := by rw [toList_eq]
    unfold rate_Parse.f
    rw [e, if_neg (by decide), if_neg (by decide), if_neg (by decide), if_neg (by decide), if_pos rfl]
  · have e : (⟨#[43, 66, 105, 103]⟩ : ByteArray).toList = [43, 66, 105, 103] := by rw [toList_eq]
    unfold rate_Parse.f
    rw [e, if_neg (by decide), if_neg (by decide), if_neg (by decide), if_pos rfl]
theorem parse_nan (k : Nat) : rate_Parse.f k (⟨#[78, 97, 78]⟩ : ByteArray) = some (9221120237041090561, 0) := by
  have e : (⟨#[78, 97, 78]⟩ : ByteArray).toList = [78, 97, 78] := by rw [toList_eq]
  unfold rate_Parse.f
  rw [e, if_pos rfl]
  rfl
theorem parse_inf (k : Nat) : rate_Parse.f k (⟨#[43, 73, 110, 102]⟩ : ByteArray) = some (9218868437227405312, 0) := by
  have e : (⟨#[43, 73, 110, 102]⟩ : ByteArray).toList = [43, 73, 110, 102] := by rw [toList_eq]
  unfold rate_Parse.f
  rw [e, if_neg (by decide), if_pos rfl]
  rfl
theorem parse_minf (k : Nat) : rate_Parse.f k (⟨#[45, 73, 110, 102]⟩ : ByteArray) = some (18442240474082181120, 0) := by
  have e : (⟨#[45, 73, 110, 102]⟩ : ByteArray).toList = [45, 73, 110, 102] := by rw [toList_eq]
  unfold rate_Parse.f
  rw [e, if_neg (by decide), if_neg (by decide), if_pos rfl]
  rfl
/-! ### the law's end -/
theorem end_bad {k x z : Nat} {t : ByteArray} (h : stevedoreref35_SameFloat.f x z = some true) : stevedorelaw36_RateBack.j2 (k + 1) x t z 0 true = some true := by
  rw [stevedorelaw36_RateBack.j2, if_pos rfl]
  show Option.bind (some true) _ = _
  rw [Option.bind_some, if_pos rfl, if_pos rfl, h]
  rfl
theorem end_nan (k : Nat) {x : Nat} (h : key x = none) : stevedorelaw36_RateBack.j1 (k + 2) x false = some true := by
  have e : (FloatKind.f64.format.order x x != some .eq) = true := by rw [show FloatKind.f64.format.order x x = none from order_nan (.inl h)]; rfl
  have e2 : (FloatKind.f64.format.order 9221120237041090561 9221120237041090561 != some .eq) = true := by rw [show FloatKind.f64.format.order 9221120237041090561 9221120237041090561 = none from order_nan (.inl (by decide +kernel))]; rfl
  have ht : rate_Text.f (k + 1) x = some (⟨#[78, 97, 78]⟩ : ByteArray) := by unfold rate_Text.f; rw [if_pos e]
  rw [stevedorelaw36_RateBack.j1, if_neg (by decide), ht, Option.bind_some, parse_nan, Option.bind_some, if_pos e]
  exact end_bad (by unfold stevedoreref35_SameFloat.f; rw [if_pos e, if_pos e2])
theorem end_inf (k : Nat) : stevedorelaw36_RateBack.j1 (k + 2) 9218868437227405312 false = some true := by
  have ht : rate_Text.f (k + 1) 9218868437227405312 = some (⟨#[43, 73, 110, 102]⟩ : ByteArray) := by
    unfold rate_Text.f
    rw [if_neg (by decide +kernel), show math_IsInf.f 9218868437227405312 1 = some true by decide +kernel, Option.bind_some, if_pos rfl]
  rw [stevedorelaw36_RateBack.j1, if_neg (by decide), ht, Option.bind_some, parse_inf, Option.bind_some, if_neg (by decide +kernel), if_neg (by decide +kernel)]
  exact end_bad (by decide +kernel)
theorem end_minf (k : Nat) : stevedorelaw36_RateBack.j1 (k + 2) 18442240474082181120 false = some true := by
  have ht : rate_Text.f (k + 1) 18442240474082181120 = some (⟨#[45, 73, 110, 102]⟩ : ByteArray) := by
    unfold rate_Text.f
    rw [if_neg (by decide +kernel), show math_IsInf.f 18442240474082181120 1 = some false by decide +kernel, Option.bind_some, if_neg (by decide), show math_IsInf.f 18442240474082181120 (-1) = some true by decide +kernel, Option.bind_some, if_pos rfl]
  rw [stevedorelaw36_RateBack.j1, if_neg (by decide), ht, Option.bind_some, parse_minf, Option.bind_some, if_neg (by decide +kernel), if_neg (by decide +kernel)]
  exact end_bad (by decide +kernel)
theorem key_tp : ∃ m : Nat, key 4562254508917369340 = some (m : Int) ∧ 990 * u ≤ 1000000 * m := by
  refine ⟨4611686018427388 * p2 1012, key_of (show double.read 4562254508917369340 = .number false 4611686018427388 (-62) by decide +kernel), ?_⟩
  have : u = 4611686018427387904 * p2 1012 := by unfold u; rw [show (1074 : Nat) = 62 + 1012 by omega, p2_add, show p2 62 = 4611686018427387904 by rw [← p2_is]]
  rw [this]; omega
theorem key_tm : ∃ m : Nat, key 13785626545772145148 = some (-(m : Int)) ∧ 990 * u ≤ 1000000 * m := by
  refine ⟨4611686018427388 * p2 1012, key_of (show double.read 13785626545772145148 = .number true 4611686018427388 (-62) by decide +kernel), ?_⟩
  have : u = 4611686018427387904 * p2 1012 := by unfold u; rw [show (1074 : Nat) = 62 + 1012 by omega, p2_add, show p2 62 = 4611686018427387904 by rw [← p2_is]]
  rw [this]; omega
theorem near_thou {X P n K W u : Nat} (hW : n * u = W) (hX : X ≤ 1099511627776 * u) (p1 : 9007199254740992 * P ≤ 9007199254740993 * (1000 * X)) (p2 : 9007199254740991 * (1000 * X) ≤ 9007199254740992 * P)
    (n1 : 2 * W ≤ 2 * P + u) (n2 : 2 * P ≤ 2 * W + u) (b6 : 4503599627370496 * (1000 * K) ≤ 4503599627370497 * W) (b7 : 4503599627370495 * W ≤ 4503599627370496 * (1000 * K)) : 1000 * K ≤ 1000 * X + 900 * u / 1000 ∧ 1000 * X ≤ 1000 * K + 900 * u / 1000 := by
  omega
theorem zero_of {a : Nat} (h : a < 9223372036854775808) (hk : key a = some 0) : a = 0 := by
  by_cases hi : a < 9218868437227405312
  · have h1 := word_key false a hi
    rw [show double.word false a = a by simp [Format.word], hk] at h1
    injection h1 with h1
    rw [if_neg (by decide)] at h1
    have h0 : rung 0 = 0 := by unfold rung; rw [if_pos (by omega)]
    exact rung_inj (by rw [h0]; omega)
  · exfalso
    unfold key Format.read at hk
    rw [lp, bn, ir, sw] at hk
    dsimp only at hk
    rw [if_neg (by omega), if_neg (by omega)] at hk
    split at hk
    · have e : (a / 9223372036854775808 % 2 == 1) = false := by rw [beq_eq_false_iff_ne]; omega
      rw [e] at hk
      have hk2 : some big = some 0 := hk
      injection hk2 with hk2
      have := big_pos
      omega
    · cases hk
theorem end_far {k x z : Nat} {t : ByteArray} {e : Int} : stevedorelaw36_RateBack.j3 (k + 1) x t z e true = some true := by
  rw [stevedorelaw36_RateBack.j3, if_pos rfl]
  rfl
theorem j2_is {k x z : Nat} {t : ByteArray} {e c : Int} (hc : key x = some c) (b : Bool) (hb : b = true ↔ ((1099511627776 * u : Nat) : Int) < c ∨ c < -((1099511627776 * u : Nat) : Int)) : stevedorelaw36_RateBack.j2 (k + 1) x t z e false = stevedorelaw36_RateBack.j3 k x t z e b := by
  rw [stevedorelaw36_RateBack.j2, if_neg (by decide), ord hc key_2_40, gt_test, ord hc key_m2_40, lt_test]
  by_cases h1 : ((1099511627776 * u : Nat) : Int) < c
  · rw [decide_eq_true h1, if_pos rfl, hb.2 (.inl h1)]
  · rw [decide_eq_false h1, if_neg (by decide)]
    congr 1
    rw [Bool.eq_iff_iff, decide_eq_true_iff, hb]
    exact ⟨.inr, fun h => h.resolve_left h1⟩
theorem same_zero (neg : Bool) : stevedoreref35_SameFloat.f (if neg then 9223372036854775808 else 0) (if neg then 9223372036854775808 else 0) = some true := by cases neg <;> decide +kernel
theorem end_near (k : Nat) {x X P : Nat} {neg : Bool} (hneg : decide (9223372036854775808 ≤ x) = neg) (hx : x < 18446744073709551616) (ha : key (x % 9223372036854775808) = some (X : Int)) (hc : key x = some (if neg then -(X : Int) else (X : Int))) (hX : X ≤ 1099511627776 * u)
    (p1 : 9007199254740992 * P ≤ 9007199254740993 * (1000 * X)) (p2' : 9007199254740991 * (1000 * X) ≤ 9007199254740992 * P) (hn : N P < 1125899906842624) :
    stevedorelaw36_RateBack.j3 (k + 2) x (strOf (txt neg (N P))) (back neg (N P)) 0 false = some true := by
  obtain ⟨K, b1, b2, b3, b4, b5, b6, b7, b8⟩ := back_facts neg (Nat.le_of_lt hn)
  obtain ⟨n1, n2⟩ := N_near P
  have hu := u_pos
  have h50 := u_small50
  have h78 := p2_le (show 1700 ≤ 1800 by omega)
  obtain ⟨t1, t2⟩ := near_thou (K := K) rfl hX p1 p2' n1 n2 b6 b7
  obtain ⟨kz, hkz⟩ : ∃ kz : Int, (if neg then -(K : Int) else (K : Int)) = kz := ⟨_, rfl⟩
  obtain ⟨kx, hkx⟩ : ∃ kx : Int, (if neg then -(X : Int) else (X : Int)) = kx := ⟨_, rfl⟩
  rw [hkz] at b4
  rw [hkx] at hc
  have hzK : kz.natAbs = K := by rw [← hkz]; cases neg <;> simp
  have hxX : kx.natAbs = X := by rw [← hkx]; cases neg <;> simp
  have hdiff : (kz - kx).natAbs = (K - X) + (X - K) := by
    rw [← hkz, ← hkx]
    cases neg
    · show ((K : Int) - (X : Int)).natAbs = _; omega
    · show (-(K : Int) - -(X : Int)).natAbs = _; omega
  obtain ⟨hv, R, hR, hR2⟩ := sub_near b4 hc (by rw [hzK]; omega) (by rw [hxX]; omega)
  obtain ⟨D, hD⟩ : ∃ D : Int, (if kz < kx then -(R : Int) else (R : Int)) = D := ⟨_, rfl⟩
  rw [hD] at hR
  have hDR : -(R : Int) ≤ D ∧ D ≤ (R : Int) := by rw [← hD]; split <;> omega
  obtain ⟨m1, hm1, hm1'⟩ := key_tp
  obtain ⟨m2, hm2, hm2'⟩ := key_tm
  have hR3 : 1000000 * R ≤ 990 * u := by rw [hdiff] at hR2; omega
  rw [stevedorelaw36_RateBack.j3, if_neg (by decide), if_pos hv]
  show Option.bind (some true) _ = _
  rw [Option.bind_some, if_pos rfl, if_pos rfl, text_back _ _ hn, Option.bind_some, if_pos rfl, ord hR hm1, le_test, decide_eq_true (by omega), if_pos rfl, ord hR hm2, ge_test, decide_eq_true (by omega), if_pos rfl, ord hc key_0, eq_test]
  by_cases h0 : kx = 0
  · rw [decide_eq_true h0, if_neg (by decide)]
    have hX0 : X = 0 := by omega
    subst hX0
    have hP0 : P = 0 := by omega
    subst hP0
    have hN0 : N 0 = 0 := by unfold N; rw [Nat.zero_mod, Nat.zero_div, if_neg (by omega)]
    have hx0 := zero_of (Nat.mod_lt x (by omega)) ha
    have hxe : x = if neg then 9223372036854775808 else 0 := by
      rw [← hneg]
      by_cases h : 9223372036854775808 ≤ x
      · rw [decide_eq_true h, if_pos rfl]; omega
      · rw [decide_eq_false h, if_neg (by decide)]; omega
    rw [b8 hN0, hxe, same_zero]
    rfl
  · rw [decide_eq_false h0]; rfl
theorem end_real (k : Nat) {x X : Nat} (hx : x < 18446744073709551616) (ha : key (x % 9223372036854775808) = some (X : Int)) (hX : X < p2 2150) : stevedorelaw36_RateBack.j1 (k + 4) x false = some true := by
  have hu := u_pos
  obtain ⟨neg, hneg⟩ : ∃ neg : Bool, decide (9223372036854775808 ≤ x) = neg := ⟨_, rfl⟩
  have hc : key x = some (if neg then -(X : Int) else (X : Int)) := by
    rcases key_abs x with h | ⟨n', g1, g2⟩
    · rw [ha] at h; cases h.1
    · rw [ha] at g1
      injection g1 with g1
      rw [g2, ← g1, ← hneg]
      by_cases h : 9223372036854775808 ≤ x
      · rw [decide_eq_true h, if_pos (by omega), if_pos rfl]
      · rw [decide_eq_false h, if_neg (by omega), if_neg (by decide)]
  obtain ⟨kx, hkx⟩ : ∃ kx : Int, (if neg then -(X : Int) else (X : Int)) = kx := ⟨_, rfl⟩
  have hc' := hc
  rw [hkx] at hc'
  have hxX : kx.natAbs = X := by rw [← hkx]; cases neg <;> simp
  have hfx := key_fin hc' (by rw [hxX]; exact hX)
  obtain ⟨r, hr1, hr2⟩ := key_sub (q := 0) (e := 0) hc' hc' (by rw [hxX]; exact hX) (by rw [hxX]; exact hX) (by rw [Int.sub_self]; simp) (p2_pos 53) (by omega)
  obtain ⟨g1, g2⟩ := fop_of hr1
  rw [Int.sub_self, ← g2] at hr2
  have hj1 : ∀ t z e, rate_Text.f (k + 3) x = some t → rate_Parse.f (k + 3) t = some (z, e) → stevedorelaw36_RateBack.j1 (k + 4) x false = stevedorelaw36_RateBack.j2 (k + 3) x t z e false := by
    intro t z e ht hp
    rw [stevedorelaw36_RateBack.j1, if_neg (by decide), ht, Option.bind_some, hp, Option.bind_some, ord hc' hc', eq_test, decide_eq_true rfl, if_neg (by decide), if_pos g1, ord hr2 key_0, eq_test, decide_eq_true rfl]
    rfl
  rcases text_eq (k + 2) hx ha hX with ⟨P, hP, p1, p2', ht⟩ | ⟨hbig, t, ht, hbt⟩
  · rw [hneg] at ht
    obtain ⟨n1, n2⟩ := N_near P
    have hN50 : N P ≤ 1125899906842624 := by
      rcases Nat.lt_or_ge 1125899906842624 (N P) with h | h
      · exfalso
        have := Nat.mul_le_mul_right u (Nat.succ_le_of_lt h)
        rw [Nat.succ_mul] at this
        generalize N P * u = z at *
        omega
      · exact h
    by_cases hfar : 1099511627776 * u < X
    · obtain ⟨⟨z, e⟩, hp⟩ := parse_any (k + 1) neg hN50
      rw [hj1 _ _ _ ht hp, j2_is hc' true (by simp; omega)]
      exact end_far
    · have hN : N P < 1125899906842624 := by
        rcases Nat.lt_or_ge (N P) 1125899906842624 with h | h
        · exact h
        · exfalso
          have := Nat.mul_le_mul_right u h
          generalize N P * u = z at *
          omega
      rw [hj1 _ _ _ ht (parse_txt (k + 1) neg hN), j2_is hc' false (by simp; omega)]
      exact end_near k hneg hx ha hc (by omega) p1 p2' hN
  · rw [hj1 _ _ _ ht (parse_big _ hbt), j2_is hc' true (by simp; omega)]
    exact end_far
theorem inf_of {x : Nat} (hx : x < 18446744073709551616) {n : Nat} (h : key (x % 9223372036854775808) = some (n : Int)) (hn : ¬ n < p2 2150) : x = 9218868437227405312 ∨ x = 18442240474082181120 := by
  have hi : x % 9223372036854775808 = 9218868437227405312 := by
    by_cases h1 : x % 9223372036854775808 = 9218868437227405312
    · exact h1
    · exfalso
      rcases read_cases (x % 9223372036854775808) with ⟨s, t, e⟩ | ⟨s, e⟩ | ⟨s, m, i, e, i0, i1, hm, _⟩
      · unfold key at h; rw [e] at h; cases h
      · unfold Format.read at e
        rw [lp, bn, ir, sw] at e
        dsimp only at e
        split at e
        · cases e
        · split at e
          · cases e
          · split at e
            · rename_i h2; exact h1 (by omega)
            · cases e
      · rw [key_of e] at h
        injection h with h
        have := (units_bound (s := s) i0 i1 hm).2
        omega
  omega
theorem end_any (k : Nat) {x : Nat} (hx : x < 18446744073709551616) : stevedorelaw36_RateBack.j1 (k + 4) x false = some true := by
  rcases key_abs x with h | ⟨n, h1, h2⟩
  · exact end_nan (k + 2) h.2
  · by_cases hn : n < p2 2150
    · exact end_real k hx h1 hn
    · rcases inf_of hx h1 hn with rfl | rfl
      · exact end_inf (k + 2)
      · exact end_minf (k + 2)
theorem law (k : Nat) (hk : 20 ≤ k) (a0 : Int) (a1 : Bool) {x : Nat} (hx : x < 18446744073709551616) : stevedorelaw36_RateBack.f k a0 a1 x = some true := by
  obtain ⟨n, hn⟩ : ∃ n : Nat, Go.bits .and .i64 a0 1125899906842623 = (n : Int) := ⟨_, (Int.toNat_of_nonneg (and_below a0 1125899906842623 (by omega)).1).symm⟩
  have hn1 : n < 1125899906842624 := by have := (and_below a0 1125899906842623 (by omega)).2; rw [show ((1125899906842623 : Nat) : Int) = 1125899906842623 by rfl, hn] at this; omega
  have h1 := dec_short (u := n / 1000) (by omega)
  have hl := body_len (n := n) (by omega)
  have e1 : wrap64 (Int.tdiv (n : Int) 1000) = ((n / 1000 : Nat) : Int) := by
    rw [Int.tdiv_eq_ediv_of_nonneg (by omega), wrap64_id (by omega) (by omega)]; omega
  have e2 : wrap64 (1000 + Int.tmod (n : Int) 1000) = ((1000 + n % 1000 : Nat) : Int) := by
    rw [Int.tmod_eq_emod_of_nonneg (by omega), wrap64_id (by omega) (by omega)]; omega
  have e3 : (⟨#[46]⟩ : ByteArray) = strOf [46] := rfl
  have e4 : (⟨#[45]⟩ : ByteArray) = strOf [45] := rfl
  have e5 : strOf (decDigits (n / 1000)) ++ strOf [46] ++ strOf (pad (n % 1000)) = strOf (body n) := by
    rw [strOf_append, strOf_append]; unfold body; simp
  have h4 : 1 ≤ (decDigits (1000 + n % 1000)).length := by
    have := decDigits_ne (1000 + n % 1000)
    rcases Nat.eq_zero_or_pos (decDigits (1000 + n % 1000)).length with g | g
    · exact absurd (List.length_eq_zero_iff.1 g) this
    · exact g
  obtain ⟨j, rfl⟩ : ∃ j, k = j + 5 := ⟨k - 5, by omega⟩
  have hj0 : ∀ neg : Bool, stevedorelaw36_RateBack.j0 (j + 5) x (strOf (txt neg n)) = some true := by
    intro neg
    rw [stevedorelaw36_RateBack.j0, parse_txt (j + 2) neg hn1, Option.bind_some, if_pos rfl, text_back _ neg hn1, Option.bind_some, bne_self_eq_false]
    exact end_any j hx
  unfold stevedorelaw36_RateBack.f
  rw [hn, e1, digits_f _ (by omega) (by omega), Option.bind_some, strOf_size, if_pos (by omega), e2, digits_f _ (by omega) (by omega), Option.bind_some, if_pos (by rw [strOf_size]; omega),
    extract_one, pad_is (by omega), e3, if_pos (by rw [strOf_append, strOf_size, strOf_size, List.length_append]; show _ + 1 + 3 ≤ _; omega), e5]
  cases a1
  · rw [if_neg (by decide)]; exact hj0 false
  · rw [if_pos rfl, strOf_size, if_pos (by omega), e4, strOf_append]; exact hj0 true
theorem RateBack (a0 : Int) (a1 : Bool) (a2 : Nat) (h : (Lit.float .f64 a2).wf = true) : ∃ k, stevedorelaw36_RateBack.f k a0 a1 a2 = some true := ⟨20, law 20 (by omega) a0 a1 (wf_64 h)⟩
end Go.Proofs.YtfmfikodnpnblaaDoor.PureRateBack
