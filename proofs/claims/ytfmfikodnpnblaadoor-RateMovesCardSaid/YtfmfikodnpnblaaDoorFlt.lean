/- Doubles as whole numbers of 2^-1074: what a word stands for, how two words stand to each other, that an exact result is written exactly. No program here. -/
import Derived.Laws.FloatArith
import GoSem.Extern.MathFloor
set_option linter.unusedVariables false
set_option linter.unusedSimpArgs false
namespace Go.Proofs.YtfmfikodnpnblaaDoor.Flt
open Ieee

/-- a power of two that nothing reckons out. -/
def p2 (n : Nat) : Nat := 2 ^ n
theorem p2_pos (n : Nat) : 0 < p2 n := Nat.two_pow_pos n
theorem p2_add (a b : Nat) : p2 (a + b) = p2 a * p2 b := Nat.pow_add 2 a b
theorem p2_le {a b : Nat} (h : a ≤ b) : p2 a ≤ p2 b := Nat.pow_le_pow_right (by omega) h
theorem p2_lt {a b : Nat} (h : a < b) : p2 a < p2 b := Nat.pow_lt_pow_right (by omega) h
theorem p2_is (n : Nat) : 2 ^ n = p2 n := rfl
theorem p2_53 : p2 53 = 9007199254740992 := by decide
theorem p2_52 : p2 52 = 4503599627370496 := by decide
attribute [irreducible] p2
/-- a number's whole units of 2^-1074. -/
def units (neg : Bool) (m : Nat) (i : Int) : Int := if neg then -((m * p2 (i + 1074).toNat : Nat) : Int) else ((m * p2 (i + 1074).toNat : Nat) : Int)
def big : Int := (p2 2200 : Nat)
/-- what a word counts as: none: a NaN. -/
def keyD : Datum → Option Int
  | .nan .. => none
  | .infinity s => some (if s then -big else big)
  | .number s m i => some (units s m i)
def key (x : Nat) : Option Int := keyD (double.read x)

theorem signed_eq (neg : Bool) (m up : Nat) : signed neg m up = if neg then -((m * p2 up : Nat) : Int) else ((m * p2 up : Nat) : Int) := by
  unfold signed
  rw [Nat.shiftLeft_eq, p2_is]

theorem lp : double.leastPlace = -1074 := by decide
theorem bn : double.binade = 4503599627370496 := by decide
theorem ir : double.infRung = 9218868437227405312 := by decide
theorem sw : double.signWeight = 9223372036854775808 := by decide

/-- the forms of what is read. -/
theorem read_cases (x : Nat) : (∃ s t, double.read x = .nan s t) ∨ (∃ s, double.read x = .infinity s) ∨ ∃ s m i, double.read x = .number s m i ∧ -1074 ≤ i ∧ i ≤ 971 ∧ m < 9007199254740992 ∧ (m < 4503599627370496 → i = -1074) := by
  unfold Format.read
  rw [lp, bn, ir, sw]
  dsimp only
  split
  · rename_i h
    exact .inr (.inr ⟨_, _, _, rfl, by omega, by omega, by omega, fun _ => rfl⟩)
  · split
    · rename_i h1 h2
      exact .inr (.inr ⟨_, _, _, rfl, by omega, by omega, by omega, fun h => by omega⟩)
    · split
      · exact .inr (.inl ⟨_, rfl⟩)
      · exact .inl ⟨_, _, rfl⟩

theorem pow_le_2150 {m : Nat} {i : Int} (h0 : -1074 ≤ i) (h1 : i ≤ 971) (hm : m < 9007199254740992) : m * p2 (i + 1074).toNat < p2 2150 := by
  have h2 : p2 (i + 1074).toNat ≤ p2 2045 := p2_le (by omega)
  rw [← p2_53] at hm
  have h3 : p2 2098 = p2 53 * p2 2045 := p2_add 53 2045
  have h4 : p2 2098 ≤ p2 2150 := p2_le (by omega)
  have h5 : m * p2 (i + 1074).toNat ≤ m * p2 2045 := Nat.mul_le_mul_left _ h2
  have h6 : m * p2 2045 < p2 53 * p2 2045 := Nat.mul_lt_mul_of_pos_right hm (p2_pos _)
  omega

theorem units_bound {s : Bool} {m : Nat} {i : Int} (h0 : -1074 ≤ i) (h1 : i ≤ 971) (hm : m < 9007199254740992) : -((p2 2150 : Nat) : Int) < units s m i ∧ units s m i < ((p2 2150 : Nat) : Int) := by
  have h := pow_le_2150 h0 h1 hm
  unfold units
  generalize m * p2 (i + 1074).toNat = q at h
  generalize p2 2150 = B at h
  cases s
  · simp only [Bool.false_eq_true, if_false]; omega
  · simp only [if_true]; omega
theorem big_gt : ((p2 2150 : Nat) : Int) < big := by
  unfold big
  have := p2_lt (show 2150 < 2200 by omega)
  omega
theorem big_pos : (0 : Int) < big := by
  unfold big
  have := p2_pos 2200
  omega

theorem units_base (s : Bool) (m : Nat) {i base : Int} (hb : -1074 ≤ base) (h : base ≤ i) : units s m i = signed s m (i - base).toNat * (p2 (base + 1074).toNat : Nat) := by
  have e : (i + 1074).toNat = (i - base).toNat + (base + 1074).toNat := by omega
  unfold units
  rw [signed_eq, e, p2_add, ← Nat.mul_assoc]
  generalize m * p2 (i - base).toNat = q
  generalize p2 (base + 1074).toNat = r
  cases s
  · simp only [Bool.false_eq_true, if_false]; exact Int.natCast_mul _ _
  · simp only [if_true]; rw [Int.natCast_mul, Int.neg_mul]
theorem cmp_lt {a b : Int} (h : a < b) : compare a b = .lt := by
  show compareOfLessAndEq a b = _
  unfold compareOfLessAndEq
  rw [if_pos h]
theorem cmp_eq {a b : Int} (h : a = b) : compare a b = .eq := by
  show compareOfLessAndEq a b = _
  unfold compareOfLessAndEq
  rw [if_neg (by omega), if_pos h]
theorem cmp_gt {a b : Int} (h : b < a) : compare a b = .gt := by
  show compareOfLessAndEq a b = _
  unfold compareOfLessAndEq
  rw [if_neg (by omega), if_neg (by omega)]
theorem cmp_scale (a b c : Int) (hc : 0 < c) : compare (a * c) (b * c) = compare a b := by
  rcases Int.lt_trichotomy a b with h | h | h
  · rw [cmp_lt h, cmp_lt (Int.mul_lt_mul_of_pos_right h hc)]
  · rw [cmp_eq h, h, cmp_eq rfl]
  · rw [cmp_gt h, cmp_gt (Int.mul_lt_mul_of_pos_right h hc)]

theorem order_key {x y : Nat} {a b : Int} (hx : key x = some a) (hy : key y = some b) : double.order x y = some (compare a b) := by
  unfold key at hx hy
  unfold Format.order
  have hbg := big_gt
  have hbp := big_pos
  rcases read_cases x with ⟨s, t, e⟩ | ⟨s, e⟩ | ⟨s, m, i, e, h0, h1, h2, _⟩
  · rw [e] at hx; cases hx
  · rcases read_cases y with ⟨s', t', e'⟩ | ⟨s', e'⟩ | ⟨s', m', i', e', h0', h1', h2', _⟩
    · rw [e'] at hy; cases hy
    · rw [e] at hx; rw [e'] at hy
      rw [e, e']
      injection hx with hx
      injection hy with hy
      subst hx hy
      show some (compare s'.toNat s.toNat) = _
      cases s <;> cases s' <;> simp only [Bool.toNat_true, Bool.toNat_false, if_true, if_false, Bool.false_eq_true]
      · rw [cmp_eq rfl]; rfl
      · rw [cmp_gt (by omega)]; rfl
      · rw [cmp_lt (by omega)]; rfl
      · rw [cmp_eq rfl]; rfl
    · have hu := units_bound (s := s') h0' h1' h2'
      rw [e] at hx; rw [e'] at hy
      rw [e, e']
      injection hx with hx
      injection hy with hy
      subst hx hy
      show some (if s then Ordering.lt else .gt) = _
      generalize p2 2150 = B at hu hbg
      cases s
      · simp only [Bool.false_eq_true, if_false]; rw [cmp_gt (by omega)]
      · simp only [if_true]; rw [cmp_lt (by omega)]
  · have hu := units_bound (s := s) h0 h1 h2
    rcases read_cases y with ⟨s', t', e'⟩ | ⟨s', e'⟩ | ⟨s', m', i', e', h0', h1', h2', _⟩
    · rw [e'] at hy; cases hy
    · rw [e] at hx; rw [e'] at hy
      rw [e, e']
      injection hx with hx
      injection hy with hy
      subst hx hy
      show some (if s' then Ordering.gt else .lt) = _
      generalize p2 2150 = B at hu hbg
      cases s'
      · simp only [Bool.false_eq_true, if_false]; rw [cmp_lt (by omega)]
      · simp only [if_true]; rw [cmp_gt (by omega)]
    · rw [e] at hx; rw [e'] at hy
      rw [e, e']
      injection hx with hx
      injection hy with hy
      subst hx hy
      show some (compare (signed s m (i - min i i').toNat) (signed s' m' (i' - min i i').toNat)) = _
      have hp : (0 : Int) < ((p2 (min i i' + 1074).toNat : Nat) : Int) := by have := p2_pos (min i i' + 1074).toNat; omega
      rw [units_base s m (base := min i i') (by omega) (by omega), units_base s' m' (base := min i i') (by omega) (by omega), cmp_scale _ _ _ hp]
theorem order_nan {x y : Nat} (h : key x = none ∨ key y = none) : double.order x y = none := by
  unfold key at h
  unfold Format.order
  rcases h with h | h
  · rcases read_cases x with ⟨s, t, e⟩ | ⟨s, e⟩ | ⟨s, m, i, e, _⟩
    · rw [e]
      cases double.read y <;> rfl
    · rw [e] at h; cases h
    · rw [e] at h; cases h
  · rcases read_cases y with ⟨s, t, e⟩ | ⟨s, e⟩ | ⟨s, m, i, e, _⟩
    · rw [e]
      cases double.read x <;> rfl
    · rw [e] at h; cases h
    · rw [e] at h; cases h

/-! ### what is exact is written exactly -/
theorem cut_exact (neg : Bool) (M d L : Nat) (h : M * p2 d ≠ 0) (hL : (M * p2 d).log2 = L) : Toward.even.cut neg (M * p2 d) d = M := by
  have hd : d ≤ L := by
    have h1 : p2 d ≤ M * p2 d := Nat.le_mul_of_pos_left _ (by rcases Nat.eq_zero_or_pos M with h0 | h0; exact absurd (by rw [h0, Nat.zero_mul]) h; exact h0)
    have h2 : M * p2 d < 2 ^ (L + 1) := by rw [← hL]; exact Nat.lt_log2_self
    rw [p2_is] at h2
    rcases Nat.lt_or_ge L d with h3 | h3
    · have := p2_le (show L + 1 ≤ d by omega)
      omega
    · exact h3
  unfold Toward.cut
  rw [hL, show min d (L + 2) = d by omega, Nat.shiftLeft_eq, p2_is, Nat.one_mul]
  have hp := p2_pos d
  have e1 : M * p2 d / p2 d = M := Nat.mul_div_cancel _ hp
  have e2 : M * p2 d % p2 d = 0 := Nat.mul_mod_left _ _
  dsimp only
  rw [e1, e2]
  generalize p2 d = g at hp
  have e3 : (decide (g < 2 * 0) || (g == 2 * 0 && M % 2 == 1)) = false := by
    rw [decide_eq_false (by omega), beq_eq_false_iff_ne.mpr (by omega)]
    rfl
  simp only [e3]
  rfl

theorem read_word (neg : Bool) (r : Nat) (h : r < 9218868437227405312) : double.read (double.word neg r) = if r < 4503599627370496 then .number neg r (-1074) else .number neg (4503599627370496 + r % 4503599627370496) (-1074 + (r / 4503599627370496 - 1 : Nat)) := by
  unfold Format.read Format.word
  rw [lp, bn, ir, sw]
  cases neg
  · simp only [Bool.false_eq_true, if_false]
    have e1 : (r / 9223372036854775808 % 2 == 1) = false := by rw [beq_eq_false_iff_ne]; omega
    have e2 : r % 9223372036854775808 = r := by omega
    rw [e2]
    by_cases h1 : r < 4503599627370496
    · rw [if_pos h1, if_pos h1]; simp only [e1]
    · rw [if_neg h1, if_neg h1, if_pos h]; simp only [e1]
  · simp only [if_true]
    have e1 : ((9223372036854775808 + r) / 9223372036854775808 % 2 == 1) = true := by rw [beq_iff_eq]; omega
    have e2 : (9223372036854775808 + r) % 9223372036854775808 = r := by omega
    rw [e2]
    by_cases h1 : r < 4503599627370496
    · rw [if_pos h1, if_pos h1]; simp only [e1]
    · rw [if_neg h1, if_neg h1, if_pos h]; simp only [e1]

theorem log_lt {n k : Nat} (h : n < p2 k) (hn : n ≠ 0) : n.log2 < k := by rw [← p2_is] at h; exact (Nat.log2_lt hn).2 h
theorem log_le {n : Nat} (hn : n ≠ 0) : p2 n.log2 ≤ n := by rw [← p2_is]; exact Nat.log2_self_le hn
theorem lt_log (n : Nat) : n < p2 (n.log2 + 1) := by rw [← p2_is]; exact Nat.lt_log2_self

/-- the number N, which has no more than 53 digits, is written and read back. -/
theorem nearest_key (neg : Bool) (mag : Nat) (place : Int) (N a b q e : Nat) (hab : place + 1074 = (a : Int) - b) (hN : mag * p2 a = N * p2 b) (hq : N = q * p2 e) (hq1 : q < p2 53) (he : e ≤ 2045) :
    keyD (double.read (double.nearest neg mag place)) = some (if neg then -(N : Int) else N) := by
  unfold Format.nearest
  by_cases hm : mag = 0
  · have hN0 : N = 0 := by
      rw [hm, Nat.zero_mul] at hN
      rcases Nat.mul_eq_zero.1 hN.symm with h | h
      · exact h
      · exact absurd h (by have := p2_pos b; omega)
    rw [if_pos hm, read_word neg 0 (by omega), if_pos (by omega), hN0]
    show some (units neg 0 (-1074)) = _
    unfold units
    cases neg <;> simp
  · rw [if_neg hm, lp]
    show keyD (double.read (double.word neg (min ((max (place + (mag.log2 : Nat) - ((52 : Nat) : Int)) (-1074) - -1074).toNat * double.binade + Toward.even.cut neg (mag <<< (place - max (place + (mag.log2 : Nat) - ((52 : Nat) : Int)) (-1074)).toNat) (max (place + (mag.log2 : Nat) - ((52 : Nat) : Int)) (-1074) - place).toNat) double.infRung))) = _
    rw [bn, ir]
    generalize hlast : max (place + (mag.log2 : Nat) - ((52 : Nat) : Int)) (-1074) = last
    have hl0 : -1074 ≤ last := by omega
    have hl1 : place + (mag.log2 : Nat) - 52 ≤ last := by omega
    have hl2 : last = -1074 ∨ last = place + (mag.log2 : Nat) - 52 := by omega
    obtain ⟨E, hE⟩ : ∃ E : Nat, last = (E : Int) - 1074 := ⟨(last + 1074).toNat, by omega⟩
    have hEe : (last - -1074).toNat = E := by omega
    rw [hEe]
    -- what is kept
    obtain ⟨kept, hk1, hk2, hk3, hk4⟩ : ∃ kept : Nat, Toward.even.cut neg (mag <<< (place - last).toNat) (last - place).toNat = kept ∧ kept * p2 E = N ∧ kept < p2 53 ∧ (E = 0 ∨ p2 52 ≤ kept) := by
      have hmp : 0 < mag := by omega
      rcases Int.lt_or_le last (place + 1) with h | h
      · -- nothing is dropped
        obtain ⟨g, hg⟩ : ∃ g : Nat, place = last + g := ⟨(place - last).toNat, by omega⟩
        have e1 : (place - last).toNat = g := by omega
        have e2 : (last - place).toNat = 0 := by omega
        have e3 : a = b + (g + E) := by omega
        refine ⟨mag * p2 g, ?_, ?_, ?_, ?_⟩
        · rw [e1, e2, Nat.shiftLeft_eq, p2_is]
          have hne : mag * p2 g * p2 0 ≠ 0 := by
            have h1 := p2_pos g
            have h2 := p2_pos 0
            have h3 := Nat.mul_pos (Nat.mul_pos hmp h1) h2
            omega
          have p0 : p2 0 = 1 := by rw [← p2_is]
          have := cut_exact neg (mag * p2 g) 0 _ hne rfl
          rw [p0, Nat.mul_one] at this
          exact this
        · have h1 : mag * p2 g * p2 E * p2 b = N * p2 b := by
            rw [← hN, e3, p2_add, p2_add]
            simp only [Nat.mul_assoc, Nat.mul_comm, Nat.mul_left_comm]
          exact Nat.eq_of_mul_eq_mul_right (p2_pos b) h1
        · have h1 := lt_log mag
          have h2 : mag * p2 g < p2 (mag.log2 + 1) * p2 g := Nat.mul_lt_mul_of_pos_right h1 (p2_pos g)
          rw [← p2_add] at h2
          have h3 := p2_le (show mag.log2 + 1 + g ≤ 53 by omega)
          omega
        · rcases hl2 with h' | h'
          · left; omega
          · right
            have h1 := log_le hm
            have h2 : p2 mag.log2 * p2 g ≤ mag * p2 g := Nat.mul_le_mul_right _ h1
            rw [← p2_add] at h2
            have h3 := p2_le (show 52 ≤ mag.log2 + g by omega)
            omega
      · -- what is dropped is nought
        obtain ⟨d, hd⟩ : ∃ d : Nat, last = place + d := ⟨(last - place).toNat, by omega⟩
        have hd1 : 1 ≤ d := by omega
        have e1 : (place - last).toNat = 0 := by omega
        have e2 : (last - place).toNat = d := by omega
        have e3 : a + d = b + E := by omega
        have hX : N * p2 d = mag * p2 E := by
          have h1 : N * p2 d * p2 b = mag * p2 E * p2 b := by
            have h2 : mag * p2 a * p2 d = mag * (p2 b * p2 E) := by rw [Nat.mul_assoc, ← p2_add, e3, p2_add]
            calc N * p2 d * p2 b = N * p2 b * p2 d := by simp only [Nat.mul_assoc, Nat.mul_comm, Nat.mul_left_comm]
              _ = mag * p2 a * p2 d := by rw [hN]
              _ = mag * (p2 b * p2 E) := h2
              _ = mag * p2 E * p2 b := by simp only [Nat.mul_assoc, Nat.mul_comm, Nat.mul_left_comm]
          exact Nat.eq_of_mul_eq_mul_right (p2_pos b) h1
        obtain ⟨M, hM⟩ : ∃ M : Nat, mag = M * p2 d := by
          rcases Nat.lt_or_ge e E with hlt | hge
          · -- too many digits
            exfalso
            have hL : last = place + (mag.log2 : Nat) - 52 := by omega
            have hdL : d + 52 = mag.log2 := by omega
            obtain ⟨f, hf⟩ : ∃ f : Nat, E = e + (f + 1) := ⟨E - e - 1, by omega⟩
            have h1 : mag * p2 (f + 1) = q * p2 d := by
              have h2 : mag * p2 (f + 1) * p2 e = q * p2 d * p2 e := by
                calc mag * p2 (f + 1) * p2 e = mag * (p2 e * p2 (f + 1)) := by simp only [Nat.mul_assoc, Nat.mul_comm, Nat.mul_left_comm]
                  _ = mag * p2 E := by rw [← p2_add, hf]
                  _ = N * p2 d := hX.symm
                  _ = q * p2 d * p2 e := by rw [hq]; simp only [Nat.mul_assoc, Nat.mul_comm, Nat.mul_left_comm]
              exact Nat.eq_of_mul_eq_mul_right (p2_pos e) h2
            have h3 := log_le hm
            have h4 : p2 mag.log2 * p2 1 ≤ mag * p2 (f + 1) := Nat.mul_le_mul h3 (p2_le (by omega))
            have h5 : q * p2 d < p2 53 * p2 d := Nat.mul_lt_mul_of_pos_right hq1 (p2_pos d)
            rw [← p2_add, ← hdL] at h4
            rw [← p2_add, show 53 + d = d + 52 + 1 by omega] at h5
            omega
          · obtain ⟨f, hf⟩ : ∃ f : Nat, e = f + E := ⟨e - E, by omega⟩
            refine ⟨q * p2 f, ?_⟩
            have h2 : mag * p2 E = q * p2 f * p2 d * p2 E := by
              rw [← hX, hq, hf, p2_add]
              simp only [Nat.mul_assoc, Nat.mul_comm, Nat.mul_left_comm]
            exact Nat.eq_of_mul_eq_mul_right (p2_pos E) h2
        refine ⟨M, ?_, ?_, ?_, ?_⟩
        · rw [e1, e2, Nat.shiftLeft_zero, hM]
          exact cut_exact neg M d _ (by rw [← hM]; exact hm) rfl
        · have h1 : M * p2 E * p2 d = N * p2 d := by
            rw [hX, hM]
            simp only [Nat.mul_assoc, Nat.mul_comm, Nat.mul_left_comm]
          exact Nat.eq_of_mul_eq_mul_right (p2_pos d) h1
        · have h1 := lt_log mag
          have h2 := p2_le (show mag.log2 + 1 ≤ 53 + d by omega)
          have h3 : M * p2 d < p2 53 * p2 d := by rw [← hM, ← p2_add]; omega
          exact Nat.lt_of_mul_lt_mul_right h3
        · rcases hl2 with h' | h'
          · left; omega
          · right
            have h1 := log_le hm
            have h2 := p2_le (show 52 + d ≤ mag.log2 by omega)
            have h3 : p2 52 * p2 d ≤ M * p2 d := by rw [← hM, ← p2_add]; omega
            exact Nat.le_of_mul_le_mul_right h3 (p2_pos d)
    rw [hk1]
    have hE45 : E ≤ 2045 := by
      rcases hk4 with h | h
      · omega
      · rcases Nat.lt_or_ge 2045 E with h1 | h1
        · exfalso
          have h2 : p2 52 * p2 E ≤ kept * p2 E := Nat.mul_le_mul_right _ h
          have h3 : q * p2 e < p2 53 * p2 e := Nat.mul_lt_mul_of_pos_right hq1 (p2_pos e)
          have h4 := p2_le (show 53 + e ≤ 52 + E by omega)
          rw [← p2_add] at h2 h3
          omega
        · exact h1
    have hr : E * 4503599627370496 + kept < 9218868437227405312 := by
      rw [p2_53] at hk3
      omega
    rw [Nat.min_eq_left (by omega), read_word neg _ hr]
    rw [p2_53] at hk3
    rw [p2_52] at hk4
    by_cases h0 : E * 4503599627370496 + kept < 4503599627370496
    · have hE0 : E = 0 := by omega
      subst hE0
      rw [if_pos h0]
      show some (units neg _ (-1074)) = _
      unfold units
      rw [show ((-1074 : Int) + 1074).toNat = 0 by omega, Nat.zero_mul, Nat.zero_add, hk2]
    · rw [if_neg h0]
      have e1 : 4503599627370496 + (E * 4503599627370496 + kept) % 4503599627370496 = kept := by omega
      have e2 : (E * 4503599627370496 + kept) / 4503599627370496 - 1 = E := by omega
      rw [e1, e2]
      show some (units neg kept (-1074 + (E : Int))) = _
      unfold units
      rw [show ((-1074 : Int) + (E : Int) + 1074).toNat = E by omega, hk2]

/-! ### the operations -/
def U : Int := (p2 1074 : Nat)
theorem U_pos : 0 < U := by unfold U; have := p2_pos 1074; omega
theorem f64_format : FloatKind.f64.format = double := rfl

/-- float64(n). -/
theorem key_ofInt (n : Int) (h : n.natAbs < 9007199254740992) : key (floatOfInt .f64 n) = some (n * U) := by
  show keyD (double.read (double.nearest (decide (n < 0)) n.natAbs 0)) = _
  rw [nearest_key (decide (n < 0)) n.natAbs 0 (n.natAbs * p2 1074) 1074 0 n.natAbs 1074 (by omega) (by rw [show p2 0 = 1 by rw [← p2_is], Nat.mul_one]) rfl (by rw [p2_53]; exact h) (by omega)]
  congr 1
  unfold U
  generalize p2 1074 = u
  by_cases hn : n < 0
  · rw [decide_eq_true hn, if_pos rfl, Int.natCast_mul, ← Int.neg_mul]
    congr 1
    omega
  · rw [decide_eq_false hn, if_neg (by decide), Int.natCast_mul]
    congr 1
    omega

/-- the numbers whose exponent is small enough, and their forms. -/
theorem key_number {x : Nat} {a : Int} (h : key x = some a) (hb : a.natAbs < p2 2150) : ∃ s m i, double.read x = .number s m i ∧ -1074 ≤ i ∧ i ≤ 971 ∧ m < 9007199254740992 ∧ (m < 4503599627370496 → i = -1074) ∧ a = units s m i := by
  unfold key at h
  rcases read_cases x with ⟨s, t, e⟩ | ⟨s, e⟩ | ⟨s, m, i, e, h0, h1, h2, h3⟩
  · rw [e] at h; cases h
  · rw [e] at h
    injection h with h
    have hbg := big_gt
    exfalso
    cases s
    · simp only [Bool.false_eq_true, if_false] at h; omega
    · simp only [if_true] at h; omega
  · rw [e] at h
    injection h with h
    exact ⟨s, m, i, e, h0, h1, h2, h3, h.symm⟩
theorem units_abs (s : Bool) (m : Nat) (i : Int) : (units s m i).natAbs = m * p2 (i + 1074).toNat := by
  unfold units
  generalize m * p2 (i + 1074).toNat = q
  cases s <;> simp
theorem units_signed (s : Bool) (m : Nat) (i : Int) (N : Nat) (h : (if s then -(N : Int) else N) = units s m i) : N = m * p2 (i + 1074).toNat := by
  have := congrArg Int.natAbs h
  rw [units_abs] at this
  rw [← this]
  cases s <;> simp

def w512 : Nat := 4647714815446351872
theorem read_512 : double.read w512 = .number false 4503599627370496 (-43) := by decide +kernel
theorem key_mul512 {x : Nat} {a : Int} (h : key x = some a) (hb : a.natAbs < p2 1200) : ∃ r, floatBits .mul .f64 x w512 = some r ∧ key r = some (a * 512) := by
  obtain ⟨s, m, i, e, h0, h1, h2, h3, ha⟩ := key_number h (Nat.lt_trans hb (p2_lt (by omega)))
  refine ⟨double.write (.number (s ^^ false) (m * 4503599627370496) (i + -43)), ?_, ?_⟩
  · show Format.mul double x w512 = _
    unfold Format.mul
    rw [e, read_512]
    rfl
  · show keyD (double.read (double.nearest (s ^^ false) (m * 4503599627370496) (i + -43))) = _
    have p9 : p2 9 = 512 := by rw [← p2_is]
    have p43 : p2 52 = p2 43 * p2 9 := p2_add 43 9
    rw [p2_52] at p43
    have hi : m ≠ 0 → i ≤ 200 := fun hm => by
      rcases Int.lt_or_le 200 i with hlt | hge
      · exfalso
        rw [ha, units_abs] at hb
        have h4 := p2_le (show 1200 ≤ (i + 1074).toNat by omega)
        have h5 : p2 (i + 1074).toNat ≤ m * p2 (i + 1074).toNat := Nat.le_mul_of_pos_left _ (by omega)
        omega
      · exact hge
    by_cases hm : m = 0
    · rw [nearest_key (s ^^ false) (m * 4503599627370496) (i + -43) 0 (i + 1074).toNat 43 0 0 (by omega) (by rw [hm]; simp) (by simp) (p2_pos _) (by omega), ha]
      unfold units
      rw [hm]
      cases s <;> simp
    · rw [nearest_key (s ^^ false) (m * 4503599627370496) (i + -43) (m * p2 ((i + 1074).toNat + 9)) (i + 1074).toNat 43 m ((i + 1074).toNat + 9) (by omega) (by
        rw [p43, p2_add]
        simp only [Nat.mul_assoc, Nat.mul_comm, Nat.mul_left_comm]) rfl (by rw [p2_53]; exact h2) (by have := hi hm; omega), ha]
      congr 1
      unfold units
      rw [p2_add, p9, ← Nat.mul_assoc]
      generalize m * p2 (i + 1074).toNat = q
      cases s
      · simp only [Bool.false_eq_true, if_false, Bool.xor_false]; omega
      · simp only [if_true, Bool.xor_false]; omega

theorem key_div512 {x : Nat} {a c : Int} {q e : Nat} (h : key x = some a) (hb : a.natAbs < p2 2150) (hc : a = c * 512) (hq : c.natAbs = q * p2 e) (hq1 : q < p2 53) (he : e ≤ 2045) : ∃ r, floatBits .quo .f64 x w512 = some r ∧ key r = some c := by
  obtain ⟨s, m, i, ex, h0, h1, h2, h3, ha⟩ := key_number h hb
  have hl52 : (4503599627370496 : Nat).log2 = 52 := by decide
  have hml : m.log2 ≤ 52 := by
    by_cases hm : m = 0
    · rw [hm]; decide
    · have := log_lt (k := 53) (by rw [p2_53]; exact h2) hm
      omega
  obtain ⟨more, hmore⟩ : ∃ more : Nat, more = 54 + 52 - m.log2 := ⟨_, rfl⟩
  have hm54 : 54 ≤ more := by omega
  have hdv : m <<< more = (m * p2 (more - 52)) * 4503599627370496 := by
    rw [Nat.shiftLeft_eq, p2_is, ← p2_52, Nat.mul_assoc, ← p2_add, show more - 52 + 52 = more by omega]
  have hquo : (Datum.number s m i).quotient (52 + 2) (Datum.number false 4503599627370496 (-43)) = some (.number (s ^^ false) (2 * (m * p2 (more - 52))) (i - -43 - more - 1)) := by
    show (if (4503599627370496 : Nat) = 0 then (if m = 0 then none else some (Datum.infinity (s ^^ false))) else some (Datum.number (s ^^ false) (2 * ((m <<< (52 + 2 + (4503599627370496 : Nat).log2 - m.log2)) / 4503599627370496) + ((m <<< (52 + 2 + (4503599627370496 : Nat).log2 - m.log2)) % 4503599627370496 != 0).toNat) (i - -43 - ((52 + 2 + (4503599627370496 : Nat).log2 - m.log2 : Nat) : Int) - 1))) = _
    rw [if_neg (by decide), hl52, show 52 + 2 + 52 - m.log2 = more by omega, hdv, Nat.mul_div_cancel _ (by decide), Nat.mul_mod_left]
    simp
  refine ⟨double.write (.number (s ^^ false) (2 * (m * p2 (more - 52))) (i - -43 - more - 1)), ?_, ?_⟩
  · show Format.div double x w512 = _
    unfold Format.div
    rw [ex, read_512]
    show ((Datum.number s m i).quotient (52 + 2) (Datum.number false 4503599627370496 (-43))).map double.write = _
    rw [hquo]
    rfl
  · show keyD (double.read (double.nearest (s ^^ false) (2 * (m * p2 (more - 52))) (i - -43 - more - 1))) = _
    have p9 : p2 9 = 512 := by rw [← p2_is]
    have p1 : p2 1 = 2 := by rw [← p2_is]
    have habs : m * p2 (i + 1074).toNat = c.natAbs * p2 9 := by
      rw [← units_abs s, ← ha, hc, Int.natAbs_mul, p9]; rfl
    rw [nearest_key (s ^^ false) (2 * (m * p2 (more - 52))) (i - -43 - more - 1) c.natAbs (i + 1074).toNat (more - 42) q e (by omega) (by
      calc 2 * (m * p2 (more - 52)) * p2 (i + 1074).toNat = m * p2 (i + 1074).toNat * (p2 (more - 52) * p2 1) := by rw [p1]; simp only [Nat.mul_assoc, Nat.mul_comm, Nat.mul_left_comm]
        _ = c.natAbs * p2 9 * p2 (more - 51) := by rw [habs, ← p2_add, show more - 52 + 1 = more - 51 by omega]
        _ = c.natAbs * p2 (more - 42) := by rw [Nat.mul_assoc, ← p2_add, show 9 + (more - 51) = more - 42 by omega]) hq hq1 he]
    congr 1
    have hsg : (if s then -((m * p2 (i + 1074).toNat : Nat) : Int) else ((m * p2 (i + 1074).toNat : Nat) : Int)) = c * 512 := by rw [← hc, ha]; rfl
    generalize m * p2 (i + 1074).toNat = u at hsg
    cases s
    · simp only [Bool.false_eq_true, if_false, Bool.xor_false] at hsg ⊢; omega
    · simp only [if_true, Bool.xor_false] at hsg ⊢; omega

/-! ### whole numbers -/
theorem cut_way (way : Toward) (hw : way ≠ .even) (neg : Bool) (n d : Nat) : way.cut neg n d = n / p2 d + (match way with | .down => neg && n % p2 d != 0 | .up => !neg && n % p2 d != 0 | _ => false).toNat := by
  unfold Toward.cut
  rw [Nat.shiftLeft_eq, Nat.one_mul, p2_is]
  have key : n / p2 (min d (n.log2 + 2)) = n / p2 d ∧ ((n % p2 (min d (n.log2 + 2)) != 0) = (n % p2 d != 0)) := by
    rcases Nat.le_total d (n.log2 + 2) with h | h
    · rw [Nat.min_eq_left h]; exact ⟨rfl, rfl⟩
    · rw [Nat.min_eq_right h]
      have h1 : n < p2 (n.log2 + 2) := Nat.lt_of_lt_of_le (lt_log n) (p2_le (by omega))
      have h2 : n < p2 d := Nat.lt_of_lt_of_le h1 (p2_le h)
      rw [Nat.div_eq_of_lt h1, Nat.div_eq_of_lt h2, Nat.mod_eq_of_lt h1, Nat.mod_eq_of_lt h2]
      exact ⟨rfl, rfl⟩
  dsimp only
  rw [key.1]
  cases way with
  | even => exact absurd rfl hw
  | down => simp only [key.2]
  | up => simp only [key.2]
  | zero => rfl

/-- floor. -/
def floorBits (x : Nat) : Nat := FloatKind.f64.encode ((FloatKind.f64.decode x).integral .down)
theorem floor_units (s : Bool) (m : Nat) (i : Int) (h0 : -1074 ≤ i) : ∃ M : Nat, Toward.down.cut s (m <<< i.toNat) (-i).toNat = M ∧ (if s then -(M : Int) else M) = units s m i / U ∧ (0 ≤ i → M = m * p2 i.toNat) ∧ (i < 0 → M ≤ m / 2 + 1) := by
  refine ⟨_, rfl, ?_⟩
  rw [cut_way .down (by decide), Nat.shiftLeft_eq, p2_is]
  dsimp only
  rcases Int.lt_or_le i 0 with hi | hi
  · obtain ⟨d, hd⟩ : ∃ d : Nat, i = -(d : Int) := ⟨(-i).toNat, by omega⟩
    have e1 : i.toNat = 0 := by omega
    have e2 : (-i).toNat = d := by omega
    have e3 : 1074 = (i + 1074).toNat + d := by omega
    have p0 : p2 0 = 1 := by rw [← p2_is]
    rw [e1, e2, p0, Nat.mul_one]
    have hp := p2_pos d
    have hU : U = ((p2 (i + 1074).toNat : Nat) : Int) * ((p2 d : Nat) : Int) := by
      have e4 : p2 1074 = p2 (i + 1074).toNat * p2 d := by rw [← p2_add]; exact congrArg p2 e3
      unfold U
      rw [e4, Int.natCast_mul]
    have hp2 : 0 < p2 (i + 1074).toNat := p2_pos _
    refine ⟨?_, fun h => absurd h (by omega), fun _ => ?_⟩
    · rw [hU]
      unfold units
      rw [Int.natCast_mul]
      generalize p2 (i + 1074).toNat = g at hp2
      generalize p2 d = r at hp
      cases s
      · simp only [Bool.false_eq_true, if_false, Bool.false_and, Bool.toNat_false, Nat.add_zero]
        rw [Int.mul_comm (m : Int), Int.mul_ediv_mul_of_pos _ _ (by omega)]
        exact Int.natCast_ediv m r
      · simp only [if_true, Bool.true_and]
        rw [Int.mul_comm (m : Int), ← Int.mul_neg, Int.mul_ediv_mul_of_pos _ _ (by omega)]
        by_cases hz : m % r = 0
        · have : (m % r != 0) = false := by rw [bne_eq_false_iff_eq]; exact hz
          rw [this]
          have h1 := Nat.div_add_mod m r
          rw [hz, Nat.add_zero] at h1
          have h2 : (-(m : Int)) = (r : Int) * (-((m / r : Nat) : Int)) := by rw [Int.mul_neg, ← Int.natCast_mul, h1]
          rw [h2, Int.mul_ediv_cancel_left _ (by omega)]
          simp
        · have : (m % r != 0) = true := by rw [bne_iff_ne]; exact hz
          rw [this]
          have h1 := Nat.div_add_mod m r
          have h3 := Nat.mod_lt m hp
          have h2 : (-(m : Int)) = ((r : Int) - ((m % r : Nat) : Int)) + (r : Int) * (-((m / r : Nat) : Int) - 1) := by
            have h4 : (m : Int) = (r : Int) * ((m / r : Nat) : Int) + ((m % r : Nat) : Int) := by rw [← Int.natCast_mul, ← Int.natCast_add, h1]
            rw [Int.mul_sub, Int.mul_neg, Int.mul_one]
            omega
          rw [h2, Int.add_mul_ediv_left _ _ (by omega), Int.ediv_eq_zero_of_lt (by omega) (by omega)]
          simp
          omega
    · have h1 : m / p2 d ≤ m / 2 := by
        have : p2 1 ≤ p2 d := p2_le (by omega)
        have p1 : p2 1 = 2 := by rw [← p2_is]
        rw [p1] at this
        exact Nat.div_le_div_left this (by omega)
      have h2 : (s && m % p2 d != 0).toNat ≤ 1 := Bool.toNat_le _
      omega
  · have e1 : (-i).toNat = 0 := by omega
    have p0 : p2 0 = 1 := by rw [← p2_is]
    rw [e1, p0, Nat.div_one, Nat.mod_one]
    have e3 : (i + 1074).toNat = i.toNat + 1074 := by omega
    have hU := U_pos
    refine ⟨?_, fun _ => by simp, fun h => absurd h (by omega)⟩
    unfold units
    rw [e3, p2_add, ← Nat.mul_assoc, Int.natCast_mul (m * p2 i.toNat)]
    show _ = (if s = true then -(((m * p2 i.toNat : Nat) : Int) * U) else ((m * p2 i.toNat : Nat) : Int) * U) / U
    generalize m * p2 i.toNat = q
    cases s
    · simp [Int.mul_ediv_cancel _ (show U ≠ 0 by omega)]
    · simp only [if_true]
      rw [← Int.neg_mul, Int.mul_ediv_cancel _ (show U ≠ 0 by omega)]
      simp
theorem key_floor {x : Nat} {a : Int} (h : key x = some a) (hb : a.natAbs < p2 2150) : key (floorBits x) = some (a / U * U) := by
  obtain ⟨s, m, i, e, h0, h1, h2, h3, ha⟩ := key_number h hb
  obtain ⟨M, hM, hv, hp, hn⟩ := floor_units s m i h0
  have hd : floorBits x = double.nearest s M 0 := by
    unfold floorBits
    show double.write ((double.read x).integral .down) = _
    rw [e]
    show double.nearest s (Toward.down.cut s (m <<< i.toNat) (-i).toNat) 0 = _
    rw [hM]
  unfold key
  rw [hd]
  have p0 : p2 0 = 1 := by rw [← p2_is]
  have fin : (if s then -((M * p2 1074 : Nat) : Int) else ((M * p2 1074 : Nat) : Int)) = a / U * U := by
    rw [ha, ← hv]
    unfold U
    rw [Int.natCast_mul]
    cases s
    · simp
    · simp [Int.neg_mul]
  rcases Int.lt_or_le i 0 with hi | hi
  · have hM53 : M < p2 53 := by have := hn hi; rw [p2_53]; omega
    rw [nearest_key s M 0 (M * p2 1074) 1074 0 M 1074 (by omega) (by rw [p0, Nat.mul_one]) rfl hM53 (by omega), fin]
  · rw [nearest_key s M 0 (M * p2 1074) 1074 0 m (i.toNat + 1074) (by omega) (by rw [p0, Nat.mul_one]) (by rw [hp hi, Nat.mul_assoc, ← p2_add]) (by rw [p2_53]; exact h2) (by omega), fin]

/-- int(x): cut towards nought. -/
theorem toInt_key {x : Nat} {a : Int} (h : key x = some a) (hb : a.natAbs < p2 2150) : (FloatKind.f64.decode x).toInt .zero = some (a.tdiv U) := by
  obtain ⟨s, m, i, e, h0, h1, h2, h3, ha⟩ := key_number h hb
  show (double.read x).toInt .zero = _
  rw [e]
  show some (signed s (Toward.zero.cut s (m <<< i.toNat) (-i).toNat) 0) = _
  rw [cut_way .zero (by decide), signed_eq, Nat.shiftLeft_eq, p2_is]
  have p0 : p2 0 = 1 := by rw [← p2_is]
  have hU := U_pos
  rw [p0, Nat.mul_one]
  show some (if s = true then -((m * p2 i.toNat / p2 (-i).toNat + 0 : Nat) : Int) else ((m * p2 i.toNat / p2 (-i).toNat + 0 : Nat) : Int)) = _
  rw [Nat.add_zero, ha]
  have hq : ((m * p2 (i + 1074).toNat : Nat) : Int).tdiv U = ((m * p2 i.toNat / p2 (-i).toNat : Nat) : Int) := by
    rw [Int.tdiv_eq_ediv_of_nonneg (Int.natCast_nonneg _)]
    rcases Int.lt_or_le i 0 with hi | hi
    · obtain ⟨d, hd⟩ : ∃ d : Nat, i = -(d : Int) := ⟨(-i).toNat, by omega⟩
      have e1 : i.toNat = 0 := by omega
      have e2 : (-i).toNat = d := by omega
      have e3 : 1074 = (i + 1074).toNat + d := by omega
      have e4 : p2 1074 = p2 (i + 1074).toNat * p2 d := by rw [← p2_add]; exact congrArg p2 e3
      have hp2 := p2_pos (i + 1074).toNat
      unfold U
      rw [e1, e2, p0, Nat.mul_one, e4, ← Int.natCast_ediv, Nat.mul_comm m, Nat.mul_div_mul_left _ _ hp2]
    · have e1 : (-i).toNat = 0 := by omega
      have e3 : (i + 1074).toNat = i.toNat + 1074 := by omega
      have hp2 := p2_pos 1074
      unfold U
      rw [e1, p0, Nat.div_one, e3, p2_add, ← Nat.mul_assoc, ← Int.natCast_ediv, Nat.mul_div_cancel _ hp2]
  unfold units
  cases s
  · simp only [Bool.false_eq_true, if_false]
    rw [hq]
  · simp only [if_true]
    rw [Int.neg_tdiv, hq]
theorem int_key {x : Nat} {a : Int} (h : key x = some a) (hb : a.natAbs < p2 2150) (h0 : -9223372036854775808 ≤ a.tdiv U) (h1 : a.tdiv U ≤ 9223372036854775807) : floatToIntVal .f64 x .i64 = some (a.tdiv U) := by
  unfold floatToIntVal
  rw [toInt_key h hb]
  have e1 : IntKind.i64.min = -9223372036854775808 := by decide
  have e2 : IntKind.i64.max = 9223372036854775807 := by decide
  dsimp only
  rw [e1, e2, if_pos ⟨h0, h1⟩]
end Go.Proofs.YtfmfikodnpnblaaDoor.Flt
