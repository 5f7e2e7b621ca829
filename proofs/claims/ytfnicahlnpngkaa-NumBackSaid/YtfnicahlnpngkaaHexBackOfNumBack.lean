/- Hex of what PutHex put; numbers in bytes that come back. (NumBack: the printed namespace) -/
import Derived.Test.YtfnicahlnpngkaaFixedOfNumBack
import Derived.Test.YtfnicahlnpngkaaBackOfNumBack
set_option linter.unusedVariables false
set_option linter.unusedSimpArgs false
namespace Go.Proofs.Ytfnicahlnpngkaa.HexBackOfNumBack
open Go.RowKit Go.Proofs.Ytfnicahlnpngkaa.PNumBack Go.Proofs.YtfnicahlnpngkaaW.PrintWords Go.Proofs.YtfnicahlnpngkaaW.PrintMore Go.Proofs.Ytfnicahlnpngkaa.Base Go.Proofs.Ytfnicahlnpngkaa.NumRead Go.Proofs.Ytfnicahlnpngkaa.NumAcc Go.Proofs.Ytfnicahlnpngkaa.FixedOfNumBack

theorem p16 (j : Nat) (h : j ≤ 8) : (16 : Int) ^ j ≤ 4294967296 := by
  have h1 : 16 ^ j ≤ 16 ^ 8 := Nat.pow_le_pow_right (by decide) h
  have h2 : ((16 ^ j : Nat) : Int) ≤ ((16 ^ 8 : Nat) : Int) := by omega
  simpa using h2

/-- a digit's value, or -1. -/
def dig (c : Int) : Int := if 48 ≤ c ∧ c ≤ 57 then c - 48 else if 97 ≤ c ∧ c ≤ 102 then c - 87 else if 65 ≤ c ∧ c ≤ 70 then c - 55 else -1
theorem dig_range (c : Int) : -1 ≤ dig c ∧ dig c < 16 := by unfold dig; split; omega; split; omega; split <;> omega
theorem num_digit (k : Nat) (s : ByteArray) (v c i : Int) (h0 : 0 ≤ c) (h1 : c ≤ 255) (hv0 : 0 ≤ v) (hv : v < 4294967296) (hi : 0 ≤ i) (hi1 : i < 8) :
    ∃ k1, k ≤ k1 ∧ (if c ≥ 48 then num_Hex.j1 (k + 2) s v c 8 i (decide (c ≤ 57)) else num_Hex.j1 (k + 2) s v c 8 i false) =
      if dig c < 0 then some (0, 2) else num_Hex.l0 k1 s (v * 16 + dig c) 8 (i + 1) := by
  simp only [num_Hex.j1]
  rw [wrap64_id (n := i + 1) (by omega) (by omega)]
  by_cases a : 48 ≤ c ∧ c ≤ 57
  · refine ⟨k + 1, by omega, ?_⟩
    have e1 : c ≥ 48 := a.1
    have e2 : c ≤ 57 := a.2
    have hd : dig c = c - 48 := by unfold dig; rw [if_pos a]
    have hn : ¬ c - 48 < 0 := by omega
    have hm : (c - 48) % 256 = c - 48 := by omega
    rw [hd, hm, or4_i64 hv0 (by omega) (by omega) (by omega)]
    simp only [e1, e2, hn, decide_true, if_true, if_false]
  · refine ⟨k, by omega, ?_⟩
    have e : ¬ (c ≥ 48 ∧ decide (c ≤ 57) = true) := by simpa using a
    have hl : ∀ (x y : Option (Int × Int)), (if c ≥ 48 then (if decide (c ≤ 57) = true then x else y) else (if false = true then x else y)) = y := by
      intro x y
      by_cases e1 : c ≥ 48
      · have e2 : ¬ c ≤ 57 := fun h => a ⟨e1, h⟩
        simp [e1, e2]
      · simp [e1]
    rw [hl]
    simp only [num_Hex.j2]
    rw [wrap64_id (n := i + 1) (by omega) (by omega)]
    by_cases b : 97 ≤ c ∧ c ≤ 102
    · have hd : dig c = c - 97 + 10 := by unfold dig; rw [if_neg a, if_pos b]; omega
      have e3 : c ≥ 97 := b.1
      have e4 : c ≤ 102 := b.2
      have hn : ¬ c - 97 + 10 < 0 := by omega
      have hm : ((c - 97) % 256 + 10) % 256 = c - 97 + 10 := by omega
      rw [hd, hm, or4_i64 hv0 (by omega) (by omega) (by omega)]
      simp only [e3, e4, hn, decide_true, if_true, if_false]
    · have hl2 : ∀ (x y : Option (Int × Int)), (if c ≥ 97 then (if decide (c ≤ 102) = true then x else y) else (if false = true then x else y)) = y := by
        intro x y
        by_cases e1 : c ≥ 97
        · have e2 : ¬ c ≤ 102 := fun h => b ⟨e1, h⟩
          simp [e1, e2]
        · simp [e1]
      rw [hl2]
      by_cases d : 65 ≤ c ∧ c ≤ 70
      · have hd : dig c = c - 65 + 10 := by unfold dig; rw [if_neg a, if_neg b, if_pos d]; omega
        have e3 : c ≥ 65 := d.1
        have e4 : c ≤ 70 := d.2
        have hn : ¬ c - 65 + 10 < 0 := by omega
        have hm : ((c - 65) % 256 + 10) % 256 = c - 65 + 10 := by omega
        rw [hd, hm, or4_i64 hv0 (by omega) (by omega) (by omega)]
        simp only [e3, e4, hn, if_true, if_false]
      · have hd : dig c = -1 := by unfold dig; rw [if_neg a, if_neg b, if_neg d]
        rw [hd]
        by_cases e3 : c ≥ 65
        · have e4 : ¬ c ≤ 70 := fun h => d ⟨e3, h⟩
          simp [e3, e4]
        · simp [e3]

def tab : ByteArray := ⟨#[48, 49, 50, 51, 52, 53, 54, 55, 56, 57, 97, 98, 99, 100, 101, 102]⟩
theorem tab_at : ∀ n : Nat, n < 16 → tab.extract n (n + 1) = strOfNums [bt tab n] := by decide +kernel
theorem str_snoc (l : List Int) (a : Int) : strOfNums (l ++ [a]) = strOfNums l ++ strOfNums [a] := by
  apply WideShapes.bytes_inj
  simp [strOfNums]


theorem bt_tab : ∀ n : Nat, n < 16 → bt tab n = if n < 10 then 48 + (n : Int) else 87 + n := by decide +kernel
def hexAt (v : Int) (j : Int) : Int := bt tab (v / 16 ^ (7 - j).toNat % 16)

theorem pow16_pos (i : Nat) : (0 : Int) < 16 ^ i := Int.pow_pos (by decide)
theorem div16_succ (v : Int) (i : Nat) : v / 16 ^ (i + 1) = v / 16 ^ i / 16 := by
  rw [Int.ediv_ediv_of_nonneg (Int.le_of_lt (pow16_pos i)), Int.pow_succ]
theorem div16_nonneg (v : Int) (i : Nat) (h : 0 ≤ v) : 0 ≤ v / 16 ^ i := Int.ediv_nonneg h (Int.le_of_lt (pow16_pos i))
theorem div16_le (v : Int) (i : Nat) (h : 0 ≤ v) : v / 16 ^ i ≤ v := Int.ediv_le_self _ h

theorem putHex_list (v : Int) (h0 : 0 ≤ v) (hv : v < 4294967296) : ∀ (d k : Nat) (i : Int) (l : List Int), i = 4 * (d : Int) - 4 → d ≤ 8 → l.length + d = 8 → d < k →
    num_PutHex.l0 k v l i = some (strOfNums (l ++ bs (hexAt v) (8 - (d : Int)) d), 0) := by
  intro d
  induction d with
  | zero =>
    intro k i l hi hd hl hk
    obtain ⟨k, rfl⟩ : ∃ m, k = m + 1 := ⟨k - 1, by omega⟩
    have q : ¬ i ≥ 0 := by omega
    simp only [num_PutHex.l0, q, if_false, bs, List.append_nil]
  | succ d ih =>
    intro k i l hi hd hl hk
    obtain ⟨k, rfl⟩ : ∃ m, k = m + 1 := ⟨k - 1, by omega⟩
    have q : i ≥ 0 := by omega
    have q1 : 0 ≤ i := q
    have hsh : shr .i64 v i = v / 16 ^ d := by
      unfold shr
      have h1 : i.toNat = 4 * d := by omega
      have h2 : min (4 * d) (IntKind.bits .i64) = 4 * d := by show min (4 * d) 64 = 4 * d; omega
      rw [h1, h2, Int.pow_mul]; rfl
    have hx0 := div16_nonneg v d h0
    have hx1 := div16_le v d h0
    simp only [num_PutHex.l0]
    rw [wu64 (n := i) q1 (by omega), hsh, and_i64 4 (by decide) (by rfl) hx0 (by omega), wrap64_id (n := i - 4) (by omega) (by omega)]
    have q4 : l.length < 140737488355328 := by omega
    have q5 : 0 ≤ v / 16 ^ d % 2 ^ 4 := by omega
    have q6 : v / 16 ^ d % 2 ^ 4 < 16 := by omega
    simp only [q, q1, q4, q5, q6, if_true]
    rw [ih k (i - 4) _ (by omega) (by omega) (by simp; omega) (by omega)]
    have e1 : hexAt v (8 - ((d + 1 : Nat) : Int)) = bt tab (v / 16 ^ d % 2 ^ 4) := by
      unfold hexAt
      rw [show (7 - (8 - ((d + 1 : Nat) : Int))).toNat = d by omega]; rfl
    have e2 : (8 : Int) - ((d + 1 : Nat) : Int) + 1 = 8 - (d : Int) := by omega
    simp only [bs, List.append_assoc, List.singleton_append, e1, e2]
    rfl

theorem dig_hex (v : Int) (j : Int) : dig (hexAt v j) = v / 16 ^ (7 - j).toNat % 16 ∧ 0 ≤ hexAt v j ∧ hexAt v j ≤ 255 := by
  unfold hexAt
  have h0 : 0 ≤ v / 16 ^ (7 - j).toNat % 16 := by omega
  have h1 : v / 16 ^ (7 - j).toNat % 16 < 16 := by omega
  generalize v / 16 ^ (7 - j).toNat % 16 = x at h0 h1 ⊢
  obtain ⟨n, rfl⟩ := Int.eq_ofNat_of_zero_le h0
  rw [bt_tab n (by omega)]
  unfold dig
  by_cases e : n < 10
  · rw [if_pos e, if_pos (by omega)]; omega
  · rw [if_neg e, if_neg (by omega), if_pos (by omega)]; omega

theorem hex_back (v : Int) (h0 : 0 ≤ v) (hv : v < 4294967296) (s : ByteArray) (hs : (s.size : Int) = 8) (hb : ∀ j : Nat, j < 8 → bt s j = hexAt v j) : ∀ (d k j : Nat) (x : Int), j + d = 8 → x = v / 16 ^ d → 4 * d + 4 < k →
    num_Hex.l0 k s x 8 j = some (v, 0) := by
  intro d
  induction d with
  | zero =>
    intro k j x hd hx hk
    obtain ⟨k, rfl⟩ : ∃ m, k = m + 1 := ⟨k - 1, by omega⟩
    have q : ¬ (j : Int) < 8 := by omega
    have : x = v := by rw [hx]; simp
    simp only [num_Hex.l0, q, if_false, this]
  | succ d ih =>
    intro k j x hd hx hk
    obtain ⟨k0, rfl⟩ : ∃ m, k = m + 3 := ⟨k - 3, by omega⟩
    have q : (j : Int) < 8 := by omega
    have q0 : 0 ≤ (j : Int) := by omega
    have q1 : (j : Int) < (s.size : Int) := by omega
    have hd' := dig_hex v j
    have he : (7 - (j : Int)).toNat = d := by omega
    rw [he] at hd'
    have hx0 := div16_nonneg v d h0
    have hx1 := div16_le v d h0
    have hx8 : x = v / 16 ^ d / 16 := by rw [hx, div16_succ]
    obtain ⟨k2, hk2, hN⟩ := num_digit k0 s x (bt s j) j (by rw [hb j (by omega)]; exact hd'.2.1) (by rw [hb j (by omega)]; exact hd'.2.2) (by omega) (by omega) q0 q
    rw [num_Hex.l0]
    simp only [q, q0, q1, if_true]
    rw [hN, hb j (by omega), hd'.1, if_neg (by omega)]
    have := ih k2 (j + 1) (x * 16 + v / 16 ^ d % 16) (by omega) (by omega) (by omega)
    simpa using this

theorem putHex_back (v : Int) (hv : -9223372036854775808 ≤ v ∧ v < 9223372036854775808) (k : Nat) (hk : 100 < k) :
    ∃ r, num_PutHex.f k v = some r ∧ ((r.2 = 0 ∧ 0 ≤ v ∧ v < 4294967296 ∧ ∀ k, 100 < k → num_Hex.f k r.1 = some (v, 0)) ∨ (r.2 = 7 ∧ ¬ (0 ≤ v ∧ v < 4294967296))) := by
  obtain ⟨k, rfl⟩ : ∃ m, k = m + 1 := ⟨k - 1, by omega⟩
  unfold num_PutHex.f
  simp only [num_PutHex.j0]
  by_cases e1 : v < 0
  · simp only [e1, if_true]; exact ⟨_, rfl, .inr ⟨rfl, by omega⟩⟩
  · simp only [e1, if_false]
    by_cases e2 : v > 4294967295
    · simp only [e2, decide_true, if_true]; exact ⟨_, rfl, .inr ⟨rfl, by omega⟩⟩
    · simp only [e2, decide_false, Bool.false_eq_true, if_false]
      rw [putHex_list v (by omega) (by omega) 8 k 28 [] (by omega) (by omega) (by simp) (by omega)]
      refine ⟨_, rfl, .inl ⟨rfl, by omega, by omega, fun k hk => ?_⟩⟩
      have hlen : (bs (hexAt v) 0 8).length = 8 := bs_length _ _ _
      have hs : ((strOfNums (bs (hexAt v) 0 8)).size : Int) = 8 := by rw [strOfNums_size, hlen]; rfl
      unfold num_Hex.f
      show (if ((strOfNums (bs (hexAt v) 0 8)).size : Int) = 8 then num_Hex.l0 k (strOfNums (bs (hexAt v) 0 8)) 0 ((strOfNums (bs (hexAt v) 0 8)).size : Int) 0 else some (0, 2)) = some (v, 0)
      simp only [hs, if_true]
      have hb : ∀ j : Nat, j < 8 → bt (strOfNums (bs (hexAt v) 0 8)) j = hexAt v j := by
        intro j hj
        have hg : rd (bs (hexAt v) 0 8) j = hexAt v j := by
          show (bs (hexAt v) 0 8).getD ((j : Int)).toNat 0 = _
          rw [Int.toNat_natCast, bs_getD _ 8 j 0 hj]; congr 1; omega
        have := dig_hex v j
        rw [BackOfNumBack.bt_str _ _ (by omega) (by omega) (by rw [hg]; omega), hg]
      have h16 : (16 : Int) ^ 8 = 4294967296 := by decide
      have hz : (0 : Int) = v / 16 ^ 8 := by
        have : v / 16 ^ 8 = 0 := Int.ediv_eq_zero_of_lt (by omega) (by omega)
        omega
      have := hex_back v (by omega) (by omega) _ hs hb 8 k 0 0 (by omega) hz (by omega)
      simpa using this

/-! ### numbers in bytes -/
theorem little_back (u : Int) (n : Nat) (h1 : 1 ≤ n) (h8 : n ≤ 8) : num_Little.f (bs (byteAt u) 0 n) 0 n = some (u % 256 ^ n, 0) := by
  unfold num_Little.f
  have hl := bs_length (byteAt u) n 0
  rw [if_pos (by omega)]
  unfold rdNum
  rw [if_neg (by omega), if_neg (by omega)]
  have := acc_val (bs (byteAt u) 0 n) 0 (fun i => (n : Int) - 1 - i) u n h8 (fun j hj => by
    show (bs (byteAt u) 0 n).getD (0 + ((n : Int) - 1 - (j : Int))).toNat 0 = _
    rw [show (0 + ((n : Int) - 1 - (j : Int))).toNat = n - 1 - j by omega, bs_getD _ n (n - 1 - j) 0 (by omega), show (0 : Int) + ((n - 1 - j : Nat) : Int) = ((n - 1 - j : Nat) : Int) by omega]
    exact byteAt_eq u _ (by omega)) n (by omega)
  rw [Int.toNat_natCast, this]
  simp
theorem big_back (u : Int) (n : Nat) (h1 : 1 ≤ n) (h8 : n ≤ 8) (a : Int) : num_Big.f ([a] ++ bs (fun j => byteAt u ((n : Int) - 1 - j)) 0 n) 1 n = some (u % 256 ^ n, 0) := by
  unfold num_Big.f
  have hl := bs_length (fun j => byteAt u ((n : Int) - 1 - j)) n 0
  rw [if_pos (by simp [hl]; omega)]
  unfold rdNum
  rw [if_neg (by omega), if_neg (by simp [hl]; omega)]
  have := acc_val ([a] ++ bs (fun j => byteAt u ((n : Int) - 1 - j)) 0 n) 1 (fun i => i) u n h8 (fun j hj => by
    show ([a] ++ bs (fun j => byteAt u ((n : Int) - 1 - j)) 0 n).getD (1 + (j : Int)).toNat 0 = _
    rw [show (1 + (j : Int)).toNat = j + 1 by omega, List.singleton_append, List.getD_cons_succ, bs_getD _ n j 0 hj]
    show byteAt u ((n : Int) - 1 - (0 + (j : Int))) = _
    rw [show (n : Int) - 1 - (0 + (j : Int)) = ((n - 1 - j : Nat) : Int) by omega]
    exact byteAt_eq u _ (by omega)) n (by omega)
  rw [Int.toNat_natCast, this]
  simp
end Go.Proofs.Ytfnicahlnpngkaa.HexBackOfNumBack
