/- NumBack's plain law: what PutOctal and PutHex put is read; numbers in bytes come back. (NumBack: the printed namespace) -/
import Derived.Test.YtfnicahlnpngkaaFixedOfNumBack
set_option linter.unusedVariables false
set_option linter.unusedSimpArgs false
namespace Go.Proofs.Ytfnicahlnpngkaa.BackOfNumBack
open Go.RowKit Go.Proofs.Ytfnicahlnpngkaa.PNumBack Go.Proofs.YtfnicahlnpngkaaW.PrintWords Go.Proofs.YtfnicahlnpngkaaW.PrintMore Go.Proofs.Ytfnicahlnpngkaa.Base Go.Proofs.Ytfnicahlnpngkaa.NumRead Go.Proofs.Ytfnicahlnpngkaa.NumAcc

theorem rd_set (l : List Int) (i : Nat) (a : Int) (j : Int) (hj : 0 ≤ j) (hi : i < l.length) : rd (l.set i a) j = if j = i then a else rd l j := by
  unfold rd
  rw [List.getD_eq_getElem?_getD, List.getElem?_set, List.getD_eq_getElem?_getD]
  by_cases e : j = i
  · have : i = j.toNat := by omega
    rw [if_pos this, if_pos hi, if_pos e]; rfl
  · have : ¬ i = j.toNat := by omega
    rw [if_neg this, if_neg e]
theorem bt_str (l : List Int) (i : Int) (h0 : 0 ≤ i) (h1 : i < l.length) (hr : 0 ≤ rd l i ∧ rd l i < 256) : bt (strOfNums l) i = rd l i := by
  unfold bt
  have hs : i.toNat < (strOfNums l).size := by rw [strOfNums_size]; omega
  rw [dif_pos hs]
  have hl : i.toNat < l.length := by omega
  have e1 : (strOfNums l)[i.toNat]'hs = UInt8.ofNat (l[i.toNat]'hl).toNat := by
    show (strOfNums l).data[i.toNat]'_ = _
    simp [strOfNums]
  have e2 : rd l i = l[i.toNat]'hl := by
    unfold rd; rw [List.getD_eq_getElem?_getD, List.getElem?_eq_getElem hl]; rfl
  rw [e1]
  rw [e2] at hr ⊢
  have h3 : (l[i.toNat]'hl).toNat < 256 := by omega
  rw [UInt8.toNat_ofNat_of_lt' (by simpa using h3)]
  omega
theorem rd_replicate (n : Nat) (i : Int) : rd (List.replicate n 0) i = 0 := by
  unfold rd
  rw [List.getD_eq_getElem?_getD, List.getElem?_replicate]
  split <;> rfl

theorem pow8_pos (i : Nat) : (0 : Int) < 8 ^ i := Int.pow_pos (by decide)
theorem div8_succ (v : Int) (i : Nat) : v / 8 ^ (i + 1) = v / 8 ^ i / 8 := by
  rw [Int.ediv_ediv_of_nonneg (Int.le_of_lt (pow8_pos i)), Int.pow_succ]
theorem div8_nonneg (v : Int) (i : Nat) (h : 0 ≤ v) : 0 ≤ v / 8 ^ i := Int.ediv_nonneg h (Int.le_of_lt (pow8_pos i))
theorem div8_le (v : Int) (i : Nat) (h : 0 ≤ v) : v / 8 ^ i ≤ v := Int.ediv_le_self _ h
theorem div256_nonneg (v : Int) (i : Nat) (h : 0 ≤ v) : 0 ≤ v / 256 ^ i := Int.ediv_nonneg h (Int.le_of_lt (pow256_pos i))
theorem div256_le (v : Int) (i : Nat) (h : 0 ≤ v) : v / 256 ^ i ≤ v := Int.ediv_le_self _ h

/-- the digits form: n - 1 digits and a 0. -/
def Digits (v : Int) (n : Nat) (l : List Int) : Prop :=
  l.length = n ∧ (∀ j : Nat, j + 2 ≤ n → rd l j = 48 + v / 8 ^ (n - 2 - j) % 8) ∧ rd l ((n : Int) - 1) = 0 ∧ v / 8 ^ (n - 1) = 0
/-- base 256. -/
def Wide (v : Int) (n : Nat) (l : List Int) : Prop :=
  l.length = n ∧ rd l 0 = 128 ∧ (∀ j : Nat, 1 ≤ j → j < n → rd l j = v / 256 ^ (n - 1 - j) % 256) ∧ v / 256 ^ (n - 1) = 0
def PutPost (v n : Int) (r : ByteArray × Int) : Prop :=
  (r.2 = 0 → 2 ≤ n ∧ n ≤ 32 ∧ 0 ≤ v ∧ v ≤ 4611686018427387904 ∧ ∃ l, r.1 = strOfNums l ∧ (Digits v n.toNat l ∨ Wide v n.toNat l)) ∧
    (r.2 ≠ 0 → n < 2 ∨ n > 32 ∨ v < 0 ∨ v > 4611686018427387904 ∨ n < 9)

theorem put_wide (v : Int) (n : Nat) (hv0 : 0 ≤ v) (hv : v ≤ 4611686018427387904) (hn2 : 2 ≤ n) (hn : n ≤ 32) : ∀ (d k : Nat) (i x : Int) (l : List Int), i = d → d < n → l.length = n → x = v / 256 ^ (n - 1 - d) →
    (∀ j : Nat, d < j → j < n → rd l j = v / 256 ^ (n - 1 - j) % 256) → d < k → ∃ r, num_PutOctal.l1 k l x i = some r ∧ PutPost v n r := by
  intro d
  induction d with
  | zero =>
    intro k i x l hi hd hl hx hj hk
    obtain ⟨k, rfl⟩ : ∃ m, k = m + 1 := ⟨k - 1, by omega⟩
    have q1 : ¬ i > 0 := by omega
    have q2 : 0 < (l.length : Int) := by omega
    simp only [num_PutOctal.l1, q1, q2, if_true, if_false]
    by_cases e : x > 0
    · simp only [e, if_true]
      refine ⟨_, rfl, fun h => by simp at h, fun _ => ?_⟩
      by_cases h9 : n < 9
      · right; right; right; right; omega
      · exfalso
        have : v / 256 ^ (n - 1 - 0) = 0 := by
          apply Int.ediv_eq_zero_of_lt hv0
          have h1 : 256 ^ 8 ≤ 256 ^ (n - 1 - 0) := Nat.pow_le_pow_right (by decide) (by omega)
          have h2 : ((256 ^ 8 : Nat) : Int) ≤ ((256 ^ (n - 1 - 0) : Nat) : Int) := by exact_mod_cast h1
          have h3 : (256 ^ 8 : Int) ≤ 256 ^ (n - 1 - 0) := by simpa using h2
          have h4 : (256 ^ 8 : Int) = 18446744073709551616 := by decide
          omega
        omega
    · simp only [e, if_false]
      have hx0 : x = 0 := by have := div256_nonneg v (n - 1 - 0) hv0; omega
      refine ⟨_, rfl, fun _ => ⟨by omega, by omega, hv0, hv, _, rfl, .inr ?_⟩, fun h => absurd rfl h⟩
      refine ⟨by simp [hl], ?_, ?_, ?_⟩
      · have := rd_set l 0 128 0 (by omega) (by omega); simpa using this
      · intro j h1 h2
        have := rd_set l 0 128 j (by omega) (by omega)
        rw [if_neg (by omega)] at this
        rw [show (0 : Int).toNat = 0 from rfl, this]
        simp only [Int.toNat_natCast]
        exact hj j (by omega) (by simpa using h2)
      · simp only [Int.toNat_natCast]; rw [← hx0, hx]; simp
  | succ d ih =>
    intro k i x l hi hd hl hx hj hk
    obtain ⟨k, rfl⟩ : ∃ m, k = m + 1 := ⟨k - 1, by omega⟩
    have q1 : i > 0 := by omega
    have q3 : 0 ≤ i := by omega
    have q2 : i < (l.length : Int) := by omega
    simp only [num_PutOctal.l1, q1, q2, q3, if_true]
    rw [wrap64_id (n := i - 1) (by omega) (by omega)]
    have ht : i.toNat = d + 1 := by omega
    rw [ht]
    refine ih k (i - 1) (x / 256) _ (by omega) (by omega) (by simp [hl]) ?_ ?_ (by omega)
    · rw [hx, ← div_succ, show n - 1 - (d + 1) + 1 = n - 1 - d by omega]
    · intro j h1 h2
      have := rd_set l (d + 1) (x % 256) j (by omega) (by omega)
      rw [this]
      by_cases e : (j : Int) = ((d + 1 : Nat) : Int)
      · rw [if_pos e]
        have : j = d + 1 := by omega
        subst this
        rw [hx]
      · rw [if_neg e]; exact hj j (by omega) h2

theorem put_digits (v : Int) (n : Nat) (hv0 : 0 ≤ v) (hv : v ≤ 4611686018427387904) (hn2 : 2 ≤ n) (hn : n ≤ 32) : ∀ (d k : Nat) (i x : Int) (l : List Int), i = (d : Int) - 1 → d < n → l.length = n → x = v / 8 ^ (n - 1 - d) →
    (∀ j : Nat, d ≤ j → j + 2 ≤ n → rd l j = 48 + v / 8 ^ (n - 2 - j) % 8) → rd l ((n : Int) - 1) = 0 → d + 40 < k → ∃ r, num_PutOctal.l0 k v n l x i = some r ∧ PutPost v n r := by
  intro d
  induction d with
  | zero =>
    intro k i x l hi hd hl hx hj hz hk
    obtain ⟨k, rfl⟩ : ∃ m, k = m + 1 := ⟨k - 1, by omega⟩
    have q1 : ¬ i ≥ 0 := by omega
    simp only [num_PutOctal.l0, q1, if_false]
    by_cases e : x = 0
    · simp only [e, if_true]
      refine ⟨_, rfl, fun _ => ⟨by omega, by omega, hv0, hv, l, rfl, .inl ?_⟩, fun h => absurd rfl h⟩
      simp only [Int.toNat_natCast]
      exact ⟨hl, fun j h => hj j (by omega) h, hz, by rw [← e, hx]; simp⟩
    · simp only [e, if_false]
      rw [wu64 hv0 (by omega), wrap64_id (n := (n : Int) - 1) (by omega) (by omega)]
      exact put_wide v n hv0 hv hn2 hn (n - 1) k ((n : Int) - 1) v l (by omega) (by omega) hl (by simp) (fun j h1 h2 => by omega) (by omega)
  | succ d ih =>
    intro k i x l hi hd hl hx hj hz hk
    obtain ⟨k, rfl⟩ : ∃ m, k = m + 1 := ⟨k - 1, by omega⟩
    have q1 : i ≥ 0 := by omega
    have q3 : 0 ≤ i := q1
    have q2 : i < (l.length : Int) := by omega
    have hx0 : 0 ≤ x := by rw [hx]; exact div8_nonneg _ _ hv0
    have hx1 : x ≤ v := by rw [hx]; exact div8_le _ _ hv0
    simp only [num_PutOctal.l0, q1, q2, q3, if_true]
    rw [wrap64_id (n := i - 1) (by omega) (by omega), and_u64 3 (by decide) (by rfl) hx0 (by omega)]
    have ht : i.toNat = d := by omega
    rw [ht]
    refine ih k (i - 1) (x / 8) _ (by omega) (by omega) (by simp [hl]) ?_ ?_ ?_ (by omega)
    · rw [hx, ← div8_succ, show n - 1 - (d + 1) + 1 = n - 1 - d by omega]
    · intro j h1 h2
      rw [rd_set l d _ j (by omega) (by omega)]
      by_cases e : (j : Int) = (d : Int)
      · rw [if_pos e]
        have : j = d := by omega
        subst this
        rw [hx, show n - 1 - (j + 1) = n - 2 - j by omega]
        have : 0 ≤ v / 8 ^ (n - 2 - j) % 8 := by omega
        omega
      · rw [if_neg e]; exact hj j (by omega) h2
    · rw [rd_set l d _ _ (by omega) (by omega), if_neg (by omega)]; exact hz

theorem putOctal_post (v n : Int) (hn : -9223372036854775808 ≤ n ∧ n < 9223372036854775808) (k : Nat) (hk : 100 < k) : ∃ r, num_PutOctal.f k v n = some r ∧ PutPost v n r := by
  obtain ⟨k, rfl⟩ : ∃ m, k = m + 1 := ⟨k - 1, by omega⟩
  unfold num_PutOctal.f
  simp only [num_PutOctal.j0]
  by_cases e1 : n < 2
  · simp only [e1, if_true]; exact ⟨_, rfl, fun h => by simp at h, fun _ => .inl e1⟩
  · simp only [e1, if_false]
    by_cases e2 : n > 32
    · simp only [e2, decide_true, if_true]; exact ⟨_, rfl, fun h => by simp at h, fun _ => .inr (.inl e2)⟩
    · simp only [e2, decide_false, Bool.false_eq_true, if_false]
      by_cases e3 : v < 0
      · simp only [e3, if_true]; exact ⟨_, rfl, fun h => by simp at h, fun _ => .inr (.inr (.inl e3))⟩
      · simp only [e3, if_false]
        by_cases e4 : v > 4611686018427387904
        · simp only [e4, if_true]; exact ⟨_, rfl, fun h => by simp at h, fun _ => .inr (.inr (.inr (.inl e4)))⟩
        · have q3 : 0 ≤ n := by omega
          have q4 : n.toNat ≤ 281474976710656 := by omega
          simp only [e4, q3, q4, if_true, if_false]
          rw [wu64 (n := v) (by omega) (by omega), wrap64_id (n := n - 2) (by omega) (by omega)]
          obtain ⟨m, rfl⟩ := Int.eq_ofNat_of_zero_le q3
          simp only [Int.toNat_natCast]
          exact put_digits v m (by omega) (by omega) (by omega) (by omega) (m - 1) k ((m : Int) - 2) v _ (by omega) (by omega) (by simp) (by rw [show m - 1 - (m - 1) = 0 by omega]; simp) (fun j h1 h2 => by omega) (rd_replicate _ _) (by omega)

/-! ### Octal of what was put -/
theorem tail_zero (s : ByteArray) (v : Int) (hv0 : 0 ≤ v) (hv : v ≤ 4611686018427387904) (i : Int) (hi : 0 ≤ i) (hs : (s.size : Int) = i + 1) (hz : bt s i = 0) (hi2 : i ≤ 32) (k : Nat) (hk : 2 ≤ k) :
    num_Octal.l2 k s i v false = some (v, 0) := by
  obtain ⟨k, rfl⟩ : ∃ m, k = m + 2 := ⟨k - 2, by omega⟩
  have q1 : i < (s.size : Int) := by omega
  have q2 : ¬ i + 1 < (s.size : Int) := by omega
  have q3 : ¬ v > 4611686018427387904 := by omega
  have q4 : ¬ bt s i = 32 := by omega
  rw [num_Octal.l2]
  simp only [q1, hi, hz, if_true]
  rw [wrap64_id (n := i + 1) (by omega) (by omega), num_Octal.l2]
  simp only [q2, q3, if_false, Bool.false_eq_true]
  rw [if_neg (by decide), wrap64_id (by omega) (by omega)]

theorem digits_read (v : Int) (n : Nat) (s : ByteArray) (hv0 : 0 ≤ v) (hv : v ≤ 4611686018427387904) (hn2 : 2 ≤ n) (hn : n ≤ 32) (hs : s.size = n) (hd : ∀ j : Nat, j + 2 ≤ n → bt s j = 48 + v / 8 ^ (n - 2 - j) % 8) (hz : bt s ((n : Int) - 1) = 0) :
    ∀ (d k i : Nat) (x : Int), i + d + 1 = n → x = v / 8 ^ d → d + 5 < k → num_Octal.l1 k s i x false = some (v, 0) := by
  intro d
  induction d with
  | zero =>
    intro k i x hi hx hk
    obtain ⟨k, rfl⟩ : ∃ m, k = m + 2 := ⟨k - 2, by omega⟩
    have q1 : (i : Int) < (s.size : Int) := by omega
    have q2 : 0 ≤ (i : Int) := by omega
    have hb : bt s i = 0 := by rw [← hz]; congr 1; omega
    have q3 : ¬ bt s i ≥ 48 := by omega
    simp only [num_Octal.l1, num_Octal.j3, q1, q2, q3, if_true, if_false]
    have : x = v := by rw [hx]; simp
    rw [this]
    exact tail_zero s v hv0 hv i q2 (by omega) hb (by omega) k (by omega)
  | succ d ih =>
    intro k i x hi hx hk
    obtain ⟨k, rfl⟩ : ∃ m, k = m + 1 := ⟨k - 1, by omega⟩
    have q1 : (i : Int) < (s.size : Int) := by omega
    have q2 : 0 ≤ (i : Int) := by omega
    have hb := hd i (by omega)
    rw [show n - 2 - i = d by omega] at hb
    have hr : 0 ≤ v / 8 ^ d % 8 ∧ v / 8 ^ d % 8 < 8 := by omega
    have q3 : bt s i ≥ 48 := by omega
    have q4 : bt s i ≤ 55 := by omega
    have hx8 : x = v / 8 ^ d / 8 := by rw [hx, div8_succ]
    have hy0 := div8_nonneg v d hv0
    have hy1 := div8_le v d hv0
    have q5 : ¬ x > 576460752303423488 := by omega
    simp only [num_Octal.l1, q1, q2, q3, q4, q5, if_true, if_false, Bool.false_eq_true, decide_false]
    rw [wrap64_id (n := (i : Int) + 1) (by omega) (by omega), show (bt s i - 48) % 256 = v / 8 ^ d % 8 by omega, or3_u64 (by omega) (by omega) hr.1 hr.2]
    have := ih k (i + 1) (x * 8 + v / 8 ^ d % 8) (by omega) (by omega) (by omega)
    simpa using this

theorem wide_read (v : Int) (n : Nat) (s : ByteArray) (hv0 : 0 ≤ v) (hv : v ≤ 4611686018427387904) (hn2 : 2 ≤ n) (hn : n ≤ 32) (hs : s.size = n) (hd : ∀ j : Nat, 1 ≤ j → j < n → bt s j = v / 256 ^ (n - 1 - j) % 256) :
    ∀ (d k i : Nat) (x : Int), i + d = n → 1 ≤ i → x = v / 256 ^ d → d + 5 < k → num_wide.l0 k s x i = some (v, 0) := by
  intro d
  induction d with
  | zero =>
    intro k i x hi h1 hx hk
    obtain ⟨k, rfl⟩ : ∃ m, k = m + 1 := ⟨k - 1, by omega⟩
    have q1 : ¬ (i : Int) < (s.size : Int) := by omega
    have : x = v := by rw [hx]; simp
    have q2 : ¬ v > 4611686018427387904 := by omega
    simp only [num_wide.l0, q1, if_false, this, q2]
    rw [wrap64_id (by omega) (by omega)]
  | succ d ih =>
    intro k i x hi h1 hx hk
    obtain ⟨k, rfl⟩ : ∃ m, k = m + 1 := ⟨k - 1, by omega⟩
    have q1 : (i : Int) < (s.size : Int) := by omega
    have q2 : 0 ≤ (i : Int) := by omega
    have hb := hd i h1 (by omega)
    rw [show n - 1 - i = d by omega] at hb
    have hx8 : x = v / 256 ^ d / 256 := by rw [hx, div_succ]
    have hy0 := div256_nonneg v d hv0
    have hy1 := div256_le v d hv0
    have q5 : ¬ x > 18014398509481984 := by omega
    simp only [num_wide.l0, q1, q2, q5, if_true, if_false]
    rw [wrap64_id (n := (i : Int) + 1) (by omega) (by omega), hb, wu64 (n := v / 256 ^ d % 256) (by omega) (by omega), or8_u64 (by omega) (by omega) (by omega) (by omega)]
    have := ih k (i + 1) (x * 256 + v / 256 ^ d % 256) (by omega) (by omega) (by omega) (by omega)
    simpa using this

theorem octal_back (v : Int) (n : Nat) (l : List Int) (hv0 : 0 ≤ v) (hv : v ≤ 4611686018427387904) (hn2 : 2 ≤ n) (hn : n ≤ 32) (h : Digits v n l ∨ Wide v n l) (k : Nat) (hk : 100 < k) :
    num_Octal.f k (strOfNums l) = some (v, 0) ∧ (strOfNums l).size = n := by
  have hl : l.length = n := by rcases h with h | h <;> exact h.1
  have hs : (strOfNums l).size = n := by rw [strOfNums_size, hl]
  refine ⟨?_, hs⟩
  have e : ¬ (strOfNums l).toList = ([] : List UInt8) := fun h => by have := (toList_nil _).1 h; omega
  have q : 0 < ((strOfNums l).size : Int) := by omega
  unfold num_Octal.f
  simp only [e, q, if_true, if_false]
  rcases h with ⟨_, hd, hz, hq⟩ | ⟨_, h0, hd, hq⟩
  · have hbd : ∀ j : Nat, j + 2 ≤ n → bt (strOfNums l) j = 48 + v / 8 ^ (n - 2 - j) % 8 := by
      intro j hj
      have := hd j hj
      have h1 : 0 ≤ v / 8 ^ (n - 2 - j) % 8 ∧ v / 8 ^ (n - 2 - j) % 8 < 8 := by omega
      rw [bt_str l j (by omega) (by omega) (by omega), this]
    have hbz : bt (strOfNums l) ((n : Int) - 1) = 0 := by rw [bt_str l _ (by omega) (by omega) (by omega), hz]
    have hb0 := hbd 0 (by omega)
    have hm : 0 ≤ v / 8 ^ (n - 2 - 0) % 8 ∧ v / 8 ^ (n - 2 - 0) % 8 < 8 := by omega
    have hb0' : bt (strOfNums l) 0 = 48 + v / 8 ^ (n - 2 - 0) % 8 := by simpa using hb0
    have q1 : ¬ bt (strOfNums l) 0 ≥ 128 := by omega
    have q2 : ¬ bt (strOfNums l) 0 = 32 := by omega
    obtain ⟨k, rfl⟩ : ∃ m, k = m + 2 := ⟨k - 2, by omega⟩
    simp only [q1, if_false, num_Octal.l0, num_Octal.j1, q, q2, if_true, Int.le_refl]
    have := digits_read v n (strOfNums l) hv0 hv hn2 hn hs hbd hbz (n - 1) k 0 0 (by omega) (by rw [hq]) (by omega)
    simpa using this
  · have hbd : ∀ j : Nat, 1 ≤ j → j < n → bt (strOfNums l) j = v / 256 ^ (n - 1 - j) % 256 := by
      intro j h1 hj
      have := hd j h1 hj
      have h1 : 0 ≤ v / 256 ^ (n - 1 - j) % 256 ∧ v / 256 ^ (n - 1 - j) % 256 < 256 := by omega
      rw [bt_str l j (by omega) (by omega) (by omega), this]
    have hb0 : bt (strOfNums l) 0 = 128 := by rw [bt_str l _ (by omega) (by omega) (by omega), h0]
    have q1 : bt (strOfNums l) 0 ≥ 128 := by omega
    unfold num_wide.f
    simp only [q1, q, hb0, if_true]
    have := wide_read v n (strOfNums l) hv0 hv hn2 hn hs hbd (n - 1) k 1 0 (by omega) (by omega) (by rw [hq]) (by omega)
    have h2 : num_wide.l0 k (strOfNums l) 0 1 = some (v, 0) := by simpa using this
    rw [if_pos (by decide), h2]; rfl
end Go.Proofs.Ytfnicahlnpngkaa.BackOfNumBack
