/- RateEven, plainly: the sums over lists by FltExact, the quotients (nine times twenty-one) reckoned by the kernel. -/
import Derived.Test.YtfmfikodnpnblaaDoorPRateEvenx
import Derived.Test.YtfmfikodnpnblaaDoorClkTold
import Derived.Test.YtfmfikodnpnblaaDoorFltExact
set_option linter.unusedVariables false
set_option linter.unusedSimpArgs false
namespace Go.Proofs.YtfmfikodnpnblaaDoor.PureRateEven
open Go.RowKit Go.Proofs Go.Proofs.YtfmfikodnpnblaaDoorW.PrintWords Go.Proofs.YtfmfikodnpnblaaDoorW.PrintLast Go.Proofs.YtfmfikodnpnblaaDoorW.PrintMore Go.Proofs.YtfmfikodnpnblaaDoor.PRateEven Go.Proofs.YtfmfikodnpnblaaDoor.PRate1 Go.Proofs.YtfmfikodnpnblaaDoor.Flt Go.Proofs.YtfmfikodnpnblaaDoor.FltExact Go.Proofs.YtfmfikodnpnblaaDoor.RateTold Go.Proofs.YtfmfikodnpnblaaDoor.ClkLib

set_option maxRecDepth 1000000
abbrev F (i : Int) : Nat := floatOfInt .f64 i
theorem wrap_id {i : Int} (h : -9223372036854775808 ≤ i) (h2 : i < 9223372036854775808) : wrap64 i = i := by unfold wrap64; omega
/-- one round of the first loop. -/
theorem a_step (k : Nat) (acc : List Int) (s : Int) (l : List Int) (i c : Int) (h0 : 0 ≤ i) (hi : i ≤ 1000) (h1 : i < (l.length : Int)) (hc : rd l i = c) (c0 : 0 < c) (c1 : c ≤ 1073741824) (ha : acc.length < 1000) (s0 : 0 ≤ s) (s1 : s ≤ 1152921504606846976) :
    rate_Bits.l0 (k + 1) acc s l (l.length : Int) i = rate_Bits.l0 k (acc ++ [c]) (s + c) l (l.length : Int) (i + 1) := by
  have hm : mn c 1073741824 = c := by unfold mn; rw [if_neg (by omega)]
  rw [rate_Bits.l0, if_pos h1, if_pos h0, if_pos h1, hc, hm, if_pos c0, if_pos (by omega), wrap_id (by omega) (by omega), wrap_id (by omega) (by omega)]
theorem a_run (n : Nat) : ∀ (k : Nat) (acc : List Int) (s : Int) (l : List Int) (i c : Int), 0 ≤ i → i + n ≤ 1000 → i + n ≤ (l.length : Int) → (∀ j : Int, i ≤ j → j < i + n → rd l j = c) → 0 < c → c ≤ 1073741824 → acc.length + n ≤ 1000 → 0 ≤ s → s + n * c ≤ 1152921504606846976 →
    rate_Bits.l0 (k + n) acc s l (l.length : Int) i = rate_Bits.l0 k (acc ++ List.replicate n c) (s + n * c) l (l.length : Int) (i + n) := by
  induction n with
  | zero =>
    intro k acc s l i c _ _ _ _ _ _ _ _ _
    rw [show s + ((0 : Nat) : Int) * c = s by simp, show i + ((0 : Nat) : Int) = i by omega, List.replicate_zero, List.append_nil]
    rfl
  | succ n ih =>
    intro k acc s l i c h0 hi h1 hc c0 c1 ha s0 s1
    have e : ((n + 1 : Nat) : Int) * c = n * c + c := by rw [Int.natCast_add, Int.add_mul]; simp
    have p : 0 ≤ (n : Int) * c := Int.mul_nonneg (by omega) (by omega)
    rw [show k + (n + 1) = (k + n) + 1 by omega, a_step (k + n) acc s l i c h0 (by omega) (by omega) (hc i (by omega) (by omega)) c0 c1 (by omega) s0 (by omega),
      ih k (acc ++ [c]) (s + c) l (i + 1) c (by omega) (by omega) (by omega) (fun j a b => hc j (by omega) (by omega)) c0 c1 (by rw [List.length_append, List.length_singleton]; omega) (by omega) (by omega)]
    rw [List.append_assoc, List.singleton_append, ← List.replicate_succ, show s + c + (n : Int) * c = s + ((n + 1 : Nat) : Int) * c by rw [e]; omega, show i + 1 + (n : Int) = i + ((n + 1 : Nat) : Int) by omega]
theorem a_end (k : Nat) (acc : List Int) (s : Int) (l : List Int) (i : Int) (h : ¬ i < (l.length : Int)) (hs : s ≠ 0) : rate_Bits.l0 (k + 1) acc s l (l.length : Int) i = rate_Bits.l1 k s 0 acc (acc.length : Int) 0 := by
  rw [rate_Bits.l0, if_neg h, if_neg hs]
/-- one round of the second loop. -/
theorem b_step (k : Nat) (T s : Int) (l : List Int) (i c t u : Int) (h0 : 0 ≤ i) (hi : i ≤ 1000) (h1 : i < (l.length : Int)) (hc : rd l i = c) (c0 : 0 < c) (c1 : c ≤ 1073741824) (ht : rate_log.f T = some t) (hu : rate_log.f c = some u) (d0 : u < t) (d1 : t ≤ 65536) (u0 : 0 ≤ u) (s0 : 0 ≤ s) (s1 : s + c * (t - u) < 4503599627370496) :
    rate_Bits.l1 (k + 1) T (F s) l (l.length : Int) i = rate_Bits.l1 k T (F (s + c * (t - u))) l (l.length : Int) (i + 1) := by
  have p : 0 < c * (t - u) := Int.mul_pos c0 (by omega)
  have m := mul_int c (t - u) (by omega) (by omega) (by omega) (by omega)
  have a := add_int s (c * (t - u)) (by omega) (by omega) (by omega)
  have fm : fop .mul (floatOfInt .f64 c) (floatOfInt .f64 (t - u)) = F (c * (t - u)) := by unfold fop; rw [m]; rfl
  have fa : fop .add (F s) (F (c * (t - u))) = F (s + c * (t - u)) := by unfold fop; rw [a]; rfl
  have vm : fvalid .mul (floatOfInt .f64 c) (floatOfInt .f64 (t - u)) = true := by unfold fvalid; rw [m]; rfl
  have va : fvalid .add (F s) (F (c * (t - u))) = true := by unfold fvalid; rw [a]; rfl
  rw [rate_Bits.l1, if_pos h1, if_pos h0, if_pos h1, ht, Option.bind_some, hc, hu, Option.bind_some, wrap_id (i := t - u) (by omega) (by omega), if_pos vm, fm, if_pos va, fa, wrap_id (by omega) (by omega)]
theorem b_run (n : Nat) : ∀ (k : Nat) (T s : Int) (l : List Int) (i c t u : Int), 0 ≤ i → i + n ≤ 1000 → i + n ≤ (l.length : Int) → (∀ j : Int, i ≤ j → j < i + n → rd l j = c) → 0 < c → c ≤ 1073741824 → rate_log.f T = some t → rate_log.f c = some u → u < t → t ≤ 65536 → 0 ≤ u → 0 ≤ s → s + n * (c * (t - u)) < 4503599627370496 →
    rate_Bits.l1 (k + n) T (F s) l (l.length : Int) i = rate_Bits.l1 k T (F (s + n * (c * (t - u)))) l (l.length : Int) (i + n) := by
  induction n with
  | zero =>
    intro k T s l i c t u _ _ _ _ _ _ _ _ _ _ _ _ _
    rw [show s + ((0 : Nat) : Int) * (c * (t - u)) = s by simp, show i + ((0 : Nat) : Int) = i by omega]
    rfl
  | succ n ih =>
    intro k T s l i c t u h0 hi h1 hc c0 c1 ht hu d0 d1 u0 s0 s1
    have q : 0 < c * (t - u) := Int.mul_pos c0 (by omega)
    have e : ((n + 1 : Nat) : Int) * (c * (t - u)) = n * (c * (t - u)) + c * (t - u) := by rw [Int.natCast_add, Int.add_mul]; simp
    have p : 0 ≤ (n : Int) * (c * (t - u)) := Int.mul_nonneg (by omega) (by omega)
    rw [show k + (n + 1) = (k + n) + 1 by omega, b_step (k + n) T s l i c t u h0 (by omega) (by omega) (hc i (by omega) (by omega)) c0 c1 ht hu d0 d1 u0 s0 (by omega),
      ih k T (s + c * (t - u)) l (i + 1) c t u (by omega) (by omega) (by omega) (fun j a b => hc j (by omega) (by omega)) c0 c1 ht hu d0 d1 u0 (by omega) (by omega)]
    rw [show s + c * (t - u) + (n : Int) * (c * (t - u)) = s + ((n + 1 : Nat) : Int) * (c * (t - u)) by rw [e]; omega, show i + 1 + (n : Int) = i + ((n + 1 : Nat) : Int) by omega]
/-- what the last row says, as a test. -/
def last (T : Int) (S : Int) : Option Nat := if (fvalid .mul 4652218415073722368 (F T)) = true then (if (fvalid .quo (F S) (fop .mul 4652218415073722368 (F T))) = true then (some (fop .quo (F S) (fop .mul 4652218415073722368 (F T)))) else (none)) else (none)
theorem b_end (k : Nat) (T S : Int) (l : List Int) (i : Int) (h : ¬ i < (l.length : Int)) : rate_Bits.l1 (k + 1) T (F S) l (l.length : Int) i = last T S := by
  rw [rate_Bits.l1, if_neg h]; rfl
theorem rd_rep {n : Nat} {c j : Int} (h : j < (n : Int)) (h0 : 0 ≤ j) : rd (List.replicate n c) j = c := by
  unfold rd
  have hj : j.toNat < n := by omega
  rw [List.getD, List.getElem?_replicate, if_pos hj]
  rfl
theorem rd_cons0 {c : Int} {l : List Int} : rd (c :: l) 0 = c := rfl
theorem rd_cons {b : Int} {n : Nat} {c j : Int} (h : j < 1 + (n : Int)) (h0 : 1 ≤ j) : rd (b :: List.replicate n c) j = c := by
  obtain ⟨m, rfl⟩ : ∃ m : Nat, j = (m : Int) + 1 := ⟨(j - 1).toNat, by omega⟩
  show (b :: List.replicate n c).getD ((m : Int) + 1).toNat 0 = c
  rw [show ((m : Int) + 1).toNat = m + 1 by omega, List.getD_cons_succ]
  have := rd_rep (n := n) (c := c) (j := (m : Int)) (by omega) (by omega)
  unfold rd at this
  rwa [Int.toNat_natCast] at this
theorem f_is (k : Nat) (l : List Int) (h : l.length ≤ 1000) : rate_Bits.f k l = rate_Bits.l0 k [] 0 l (l.length : Int) 0 := by
  unfold rate_Bits.f
  have hm : mn (l.length : Int) 1000 = (l.length : Int) := by unfold mn; split <;> omega
  rw [hm, if_pos (by omega), if_pos (by omega), Int.toNat_natCast, List.take_length]
/-- Bits of n numbers alike. -/
theorem bits_rep (n : Nat) (c t u S T : Int) (n0 : 1 ≤ n) (hn : n ≤ 1000) (c0 : 0 < c) (c1 : c ≤ 1073741824) (hT : (n : Int) * c = T) (ht : rate_log.f T = some t) (hu : rate_log.f c = some u) (d0 : u < t) (d1 : t ≤ 65536) (u0 : 0 ≤ u) (hS : (n : Int) * (c * (t - u)) = S) (hS1 : S < 4503599627370496) :
    rate_Bits.f (((0 + 1 + n) + 1) + n) (List.replicate n c) = last T S := by
  have hl : (List.replicate n c).length = n := List.length_replicate
  have p : 0 < (n : Int) * c := Int.mul_pos (by omega) c0
  have b : (n : Int) * c ≤ 1152921504606846976 := by
    have : (n : Int) * c ≤ 1000 * 1073741824 := Int.mul_le_mul (by omega) c1 (by omega) (by omega)
    omega
  rw [f_is _ _ (by omega), a_run n _ [] 0 (List.replicate n c) 0 c (by omega) (by omega) (by omega) (fun j a b => rd_rep (by omega) (by omega)) c0 c1 (by simpa using hn) (by omega) (by omega),
    List.nil_append, a_end _ _ _ _ _ (by omega) (by omega), show 0 + (n : Int) * c = T by omega]
  have z : (0 : Nat) = F 0 := by decide +kernel
  rw [show rate_Bits.l1 (0 + 1 + n) T 0 (List.replicate n c) ((List.replicate n c).length : Int) 0 = rate_Bits.l1 (0 + 1 + n) T (F 0) (List.replicate n c) ((List.replicate n c).length : Int) 0 from congrArg (fun z => rate_Bits.l1 (0 + 1 + n) T z (List.replicate n c) ((List.replicate n c).length : Int) 0) z,
    b_run n _ T 0 (List.replicate n c) 0 c t u (by omega) (by omega) (by omega) (fun j a b => rd_rep (by omega) (by omega)) c0 c1 ht hu d0 d1 u0 (by omega) (by omega),
    b_end _ _ _ _ _ (by omega), show 0 + (n : Int) * (c * (t - u)) = S by omega]
/-- Bits of one number, then n alike. -/
theorem bits_cons (n : Nat) (b c t u v S T : Int) (hn : n ≤ 999) (b0 : 0 < b) (b1 : b ≤ 1073741824) (c0 : 0 < c) (c1 : c ≤ 1073741824) (hT : b + (n : Int) * c = T) (ht : rate_log.f T = some t) (hv : rate_log.f b = some v) (hu : rate_log.f c = some u) (d0 : u < t) (d2 : v < t) (d1 : t ≤ 65536) (u0 : 0 ≤ u) (v0 : 0 ≤ v) (hS : b * (t - v) + (n : Int) * (c * (t - u)) = S) (hS1 : S < 4503599627370496) :
    rate_Bits.f ((((0 + 1 + n) + 1) + 1 + n) + 1) (b :: List.replicate n c) = last T S := by
  have hl : (b :: List.replicate n c).length = n + 1 := by rw [List.length_cons, List.length_replicate]
  have p : 0 ≤ (n : Int) * c := Int.mul_nonneg (by omega) (by omega)
  have q : 0 < b * (t - v) := Int.mul_pos b0 (by omega)
  have q2 : 0 ≤ (n : Int) * (c * (t - u)) := Int.mul_nonneg (by omega) (Int.mul_nonneg (by omega) (by omega))
  have bb : (n : Int) * c ≤ 1000 * 1073741824 := Int.mul_le_mul (by omega) c1 (by omega) (by omega)
  rw [f_is _ _ (by omega), a_step _ [] 0 (b :: List.replicate n c) 0 b (by omega) (by omega) (by omega) rd_cons0 b0 b1 (by decide) (by omega) (by omega),
    a_run n _ ([] ++ [b]) (0 + b) (b :: List.replicate n c) (0 + 1) c (by omega) (by omega) (by omega) (fun j a b => rd_cons (by omega) (by omega)) c0 c1 (by show 1 + n ≤ 1000; omega) (by omega) (by omega),
    List.nil_append, List.singleton_append, a_end _ _ _ _ _ (by omega) (by omega), show 0 + b + (n : Int) * c = T by omega]
  have z : (0 : Nat) = F 0 := by decide +kernel
  rw [show rate_Bits.l1 (0 + 1 + n + 1) T 0 (b :: List.replicate n c) ((b :: List.replicate n c).length : Int) 0 = rate_Bits.l1 (0 + 1 + n + 1) T (F 0) (b :: List.replicate n c) ((b :: List.replicate n c).length : Int) 0 from congrArg (fun z => rate_Bits.l1 (0 + 1 + n + 1) T z (b :: List.replicate n c) ((b :: List.replicate n c).length : Int) 0) z,
    b_step _ T 0 (b :: List.replicate n c) 0 b t v (by omega) (by omega) (by omega) rd_cons0 b0 b1 ht hv d2 d1 v0 (by omega) (by omega),
    b_run n _ T (0 + b * (t - v)) (b :: List.replicate n c) (0 + 1) c t u (by omega) (by omega) (by omega) (fun j a b => rd_cons (by omega) (by omega)) c0 c1 ht hu d0 d1 u0 (by omega) (by omega),
    b_end _ _ _ _ _ (by omega), show 0 + b * (t - v) + (n : Int) * (c * (t - u)) = S by omega]
/-- Bits of numbers that are none. -/
theorem bits_none (k : Nat) : rate_Bits.f (k + 3) [-5, 0] = some 9221120237041090561 := by
  rw [f_is _ _ (by decide)]
  have m1 : mn (-5) 1073741824 = -5 := rfl
  have m2 : mn 0 1073741824 = 0 := rfl
  rw [show rate_Bits.l0 (k + 3) [] 0 [-5, 0] (([-5, 0] : List Int).length : Int) 0 = rate_Bits.l0 (k + 2 + 1) [] 0 [-5, 0] 2 0 from rfl, rate_Bits.l0, if_pos (by decide), if_pos (by decide), if_pos (by decide), if_neg (by decide)]
  rw [show wrap64 (0 + 1) = 1 from wrap_id (by decide) (by decide), show k + 2 = (k + 1) + 1 by omega, rate_Bits.l0, if_pos (by decide), if_pos (by decide), if_pos (by decide), if_neg (by decide)]
  rw [show wrap64 (1 + 1) = 2 from wrap_id (by decide) (by decide), rate_Bits.l0, if_neg (by decide), if_pos rfl]
  rfl
/-- what the law asks of the two numbers. -/
def good (n : Nat) (a b : Option Nat) : Bool := match a, b with
  | some t104, some t107 => (FloatKind.f64.format.order t104 (floatOfInt .f64 n) == some .eq) && (FloatKind.f64.format.order t107 0 == some .gt || FloatKind.f64.format.order t107 0 == some .eq) && (fvalid .add (floatOfInt .f64 n) 4591870180066957722) && (FloatKind.f64.format.order t107 (fop .add (floatOfInt .f64 n) 4591870180066957722) == some .lt || FloatKind.f64.format.order t107 (fop .add (floatOfInt .f64 n) 4591870180066957722) == some .eq)
  | _, _ => false
/-- the case n, m, without lists. -/
def case (n m : Nat) : Bool := match rate_log.f ((2 ^ n : Nat) * 2 ^ m), rate_log.f (2 ^ m), rate_log.f (2 ^ m * 2), rate_log.f (2 ^ m * 2 + ((2 ^ n - 1 : Nat) : Int) * 2 ^ m) with
  | some a, some b, some c, some d => decide (b < a) && decide (a ≤ 65536) && decide (0 ≤ b) && decide (b < d) && decide (c < d) && decide (d ≤ 65536) && decide (0 ≤ c)
      && decide (((2 ^ n : Nat) : Int) * (2 ^ m * (a - b)) < 4503599627370496) && decide ((2 ^ m * 2) * (d - c) + ((2 ^ n - 1 : Nat) : Int) * (2 ^ m * (d - b)) < 4503599627370496)
      && good n (last ((2 ^ n : Nat) * 2 ^ m) (((2 ^ n : Nat) : Int) * (2 ^ m * (a - b)))) (last (2 ^ m * 2 + ((2 ^ n - 1 : Nat) : Int) * 2 ^ m) ((2 ^ m * 2) * (d - c) + ((2 ^ n - 1 : Nat) : Int) * (2 ^ m * (d - b))))
  | _, _, _, _ => false
def row (n : Nat) : Bool := (List.range 21).all fun m => case n m
theorem r1 : row 1 = true := by decide +kernel
theorem r2 : row 2 = true := by decide +kernel
theorem r3 : row 3 = true := by decide +kernel
theorem r4 : row 4 = true := by decide +kernel
theorem r5 : row 5 = true := by decide +kernel
theorem r6 : row 6 = true := by decide +kernel
theorem r7 : row 7 = true := by decide +kernel
theorem r8 : row 8 = true := by decide +kernel
theorem cases_ {n m : Nat} (n0 : 1 ≤ n) (h : n < 9) (hm : m < 21) : case n m = true := by
  have : row n = true := by
    match n, n0, h with
    | 1, _, _ => exact r1
    | 2, _, _ => exact r2
    | 3, _, _ => exact r3
    | 4, _, _ => exact r4
    | 5, _, _ => exact r5
    | 6, _, _ => exact r6
    | 7, _, _ => exact r7
    | 8, _, _ => exact r8
    | n + 9, _, h => omega
  exact List.all_eq_true.1 this m (List.mem_range.2 hm)
/-- one symbol: by the kernel. -/
theorem r0 : ((List.range 21).all fun m => stevedorelaw36_RateEven.l0 20 0 (m : Int) [] 0 == some true) = true := by decide +kernel
theorem shl_is {n : Nat} (h : n ≤ 62) : shl .i64 1 (IntKind.u64.wrap (n : Int)) = ((2 ^ n : Nat) : Int) := by
  have hw : IntKind.u64.wrap (n : Int) = (n : Int) := by
    show (n : Int) % 18446744073709551616 = _
    omega
  have hp : (2 : Nat) ^ n ≤ 2 ^ 62 := Nat.pow_le_pow_right (by decide) h
  unfold shl
  rw [hw, Int.toNat_natCast, Nat.min_eq_left (show n ≤ IntKind.i64.bits by show n ≤ 64; omega), Int.one_mul, show (2 : Int) ^ n = ((2 ^ n : Nat) : Int) by rw [Int.natCast_pow]; rfl]
  generalize (2 : Nat) ^ n = p at hp ⊢
  have e : IntKind.i64.wrap (p : Int) = wrap64 (p : Int) := i64_w _
  rw [e]
  exact wrap_id (by omega) (by omega)
/-- the law's own loop lays the list. -/
theorem l_run (n m : Nat) (hn : n ≤ 9) (hm : m ≤ 62) (j : Nat) : ∀ (k i : Nat), i + j ≤ 2 ^ n →
    stevedorelaw36_RateEven.l0 (k + j) n m (List.replicate i ((2 ^ m : Nat) : Int)) i = stevedorelaw36_RateEven.l0 k n m (List.replicate (i + j) ((2 ^ m : Nat) : Int)) ((i + j : Nat) : Int) := by
  have hp : (2 : Nat) ^ n ≤ 2 ^ 9 := Nat.pow_le_pow_right (by decide) hn
  induction j with
  | zero => intro k i _; rfl
  | succ j ih =>
    intro k i hi
    have w1 : (0 : Int) ≤ IntKind.u64.wrap (n : Int) := by show (0 : Int) ≤ (n : Int) % 18446744073709551616; omega
    have w2 : (0 : Int) ≤ IntKind.u64.wrap (m : Int) := by show (0 : Int) ≤ (m : Int) % 18446744073709551616; omega
    rw [show k + (j + 1) = (k + j) + 1 by omega, stevedorelaw36_RateEven.l0, if_pos w1, shl_is (by omega), if_pos (by omega), if_pos w2, if_pos (by rw [List.length_replicate]; omega), shl_is hm, wrap_id (by omega) (by omega), ← List.replicate_succ',
      show ((i : Int) + 1) = ((i + 1 : Nat) : Int) by omega, ih k (i + 1) (by omega), show i + 1 + j = i + (j + 1) by omega]
theorem set_rep {n : Nat} {c b : Int} (h : 1 ≤ n) : (List.replicate n c).set (0 : Int).toNat b = b :: List.replicate (n - 1) c := by
  obtain ⟨m, rfl⟩ : ∃ m, n = m + 1 := ⟨n - 1, by omega⟩
  rfl
theorem nan_ne : (FloatKind.f64.format.order 9221120237041090561 9221120237041090561 != some .eq) = true := by decide +kernel
theorem most {n m : Nat} (n0 : 1 ≤ n) (h : n < 9) (hm : m < 21) : ∃ k, stevedorelaw36_RateEven.l0 k n m [] 0 = some true := by
  have hc := cases_ n0 h hm
  unfold case at hc
  have hp : (2 : Nat) ^ n ≤ 2 ^ 8 := Nat.pow_le_pow_right (by decide) (by omega)
  have hp1 : 2 ^ 1 ≤ (2 : Nat) ^ n := Nat.pow_le_pow_right (by decide) n0
  have hq : (2 : Nat) ^ m ≤ 2 ^ 20 := Nat.pow_le_pow_right (by decide) (by omega)
  have hq1 : 2 ^ 0 ≤ (2 : Nat) ^ m := Nat.pow_le_pow_right (by decide) (by omega)
  have e2 : (2 : Int) ^ m = ((2 ^ m : Nat) : Int) := by rw [Int.natCast_pow]; rfl
  rw [e2] at hc
  generalize hN : (2 : Nat) ^ n = N at hc hp hp1
  generalize hC : (2 : Nat) ^ m = C at hc hq hq1
  split at hc
  · rename_i a b c d ha hb hcc hd
    simp only [Bool.and_eq_true, decide_eq_true_eq] at hc
    obtain ⟨⟨⟨⟨⟨⟨⟨⟨⟨h1, h2⟩, h3⟩, h4⟩, h5⟩, h6⟩, h7⟩, h8⟩, h9⟩, hg⟩ := hc
    have A := bits_rep N C a b _ _ (by omega) (by omega) (by omega) (by omega) rfl ha hb h1 h2 h3 rfl h8
    have B := bits_cons (N - 1) (C * 2) C d b c _ _ (by omega) (by omega) (by omega) (by omega) (by omega) rfl hd hcc hb h4 h5 h6 h3 h7 rfl h9
    rw [show (0 + 1 + (N - 1) + 1) + 1 + (N - 1) + 1 = 0 + 1 + N + 1 + N by omega] at B
    have Z := bits_none (0 + 1 + N + N - 2)
    rw [show 0 + 1 + N + N - 2 + 3 = 0 + 1 + N + 1 + N by omega] at Z
    refine ⟨(0 + 1 + N + 1 + N) + 1 + N, ?_⟩
    have L := l_run n m (by omega) (by omega) N ((0 + 1 + N + 1 + N) + 1) 0 (by omega)
    rw [hC] at L
    refine L.trans ?_
    have w1 : (0 : Int) ≤ IntKind.u64.wrap (n : Int) := by show (0 : Int) ≤ (n : Int) % 18446744073709551616; omega
    unfold good at hg
    split at hg
    · rename_i x y hx hy
      simp only [Bool.and_eq_true] at hg
      obtain ⟨⟨⟨g1, g2⟩, g3⟩, g4⟩ := hg
      rw [stevedorelaw36_RateEven.l0, if_pos w1, shl_is (by omega), hN, if_neg (by omega), Nat.zero_add N, A, hx, Option.bind_some, if_pos (by rw [List.length_replicate]; omega), set_rep (by omega), rd_rep (by omega) (by omega),
        wrap_id (by omega) (by omega), B, hy, Option.bind_some, Z, Option.bind_some, show stevedorelaw36_told.f = some true from rfl, Option.bind_some, if_pos rfl, if_pos g1, if_pos g2, if_pos g3, if_pos g4, nan_ne]
    · cases hg
  · cases hc
theorem RateEven (a0 a1 : Int) : ∃ k, stevedorelaw36_RateEven.f k a0 a1 = some true := by
  have hu : ∀ a : Int, 0 ≤ IntKind.u64.wrap a := fun a => by
    have : IntKind.u64.wrap a = a % 18446744073709551616 := rfl
    omega
  have h0 := hu a0
  have h1 := hu a1
  obtain ⟨n, hn, hn9⟩ : ∃ n : Nat, wrap64 (Int.tmod (IntKind.u64.wrap a0) 9) = (n : Int) ∧ n < 9 := by
    refine ⟨(IntKind.u64.wrap a0 % 9).toNat, ?_, by omega⟩
    rw [Int.tmod_eq_emod_of_nonneg h0, show wrap64 (IntKind.u64.wrap a0 % 9) = IntKind.u64.wrap a0 % 9 by unfold wrap64; omega]
    omega
  obtain ⟨m, hm, hm21⟩ : ∃ n : Nat, wrap64 (Int.tmod (IntKind.u64.wrap a1) 21) = (n : Int) ∧ n < 21 := by
    refine ⟨(IntKind.u64.wrap a1 % 21).toNat, ?_, by omega⟩
    rw [Int.tmod_eq_emod_of_nonneg h1, show wrap64 (IntKind.u64.wrap a1 % 21) = IntKind.u64.wrap a1 % 21 by unfold wrap64; omega]
    omega
  unfold stevedorelaw36_RateEven.f
  rw [hn, hm]
  by_cases z : n = 0
  · subst z
    exact ⟨20, eq_of_beq (List.all_eq_true.1 r0 m (List.mem_range.2 hm21))⟩
  · exact most (by omega) hn9 hm21
end Go.Proofs.YtfmfikodnpnblaaDoor.PureRateEven
