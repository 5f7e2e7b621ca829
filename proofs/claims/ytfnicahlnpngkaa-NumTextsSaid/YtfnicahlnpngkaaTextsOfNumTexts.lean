/- Hex, PutHex and Decimal: the program's printed functions and the document's answer alike. (NumTexts: the printed namespace) -/
import Derived.Test.YtfnicahlnpngkaaPNumTextsx5
import Derived.Test.YtfnicahlnpngkaaBase
set_option linter.unusedVariables false
set_option linter.unusedSimpArgs false
namespace Go.Proofs.Ytfnicahlnpngkaa.TextsOfNumTexts
open Go.RowKit Go.Proofs.Ytfnicahlnpngkaa.PNumTexts Go.Proofs.YtfnicahlnpngkaaW.PrintWords Go.Proofs.YtfnicahlnpngkaaW.PrintMore Go.Proofs.Ytfnicahlnpngkaa.Base

theorem p16 (j : Nat) (h : j ≤ 8) : (16 : Int) ^ j ≤ 4294967296 := by
  have h1 : 16 ^ j ≤ 16 ^ 8 := Nat.pow_le_pow_right (by decide) h
  have h2 : ((16 ^ j : Nat) : Int) ≤ ((16 ^ 8 : Nat) : Int) := by omega
  simpa using h2

/-- a digit's value, or -1. -/
def dig (c : Int) : Int := if 48 ≤ c ∧ c ≤ 57 then c - 48 else if 97 ≤ c ∧ c ≤ 102 then c - 87 else if 65 ≤ c ∧ c ≤ 70 then c - 55 else -1
theorem dig_range (c : Int) : -1 ≤ dig c ∧ dig c < 16 := by unfold dig; split; omega; split; omega; split <;> omega
theorem digit_val (k : Nat) (c : Int) (h0 : 0 ≤ c) (h1 : c ≤ 255) (hk : 2 ≤ k) : stevedoreref1_digit.f k c = some (dig c) := by
  obtain ⟨k, rfl⟩ : ∃ m, k = m + 2 := ⟨k - 2, by omega⟩
  unfold stevedoreref1_digit.f dig
  simp only [stevedoreref1_digit.j0, stevedoreref1_digit.j1]
  by_cases e1 : c ≥ 48 <;> by_cases e2 : c ≤ 57 <;> by_cases e3 : c ≥ 97 <;> by_cases e4 : c ≤ 102 <;> by_cases e5 : c ≥ 65 <;> by_cases e6 : c ≤ 70 <;>
    simp [e1, e2, e3, e4, e5, e6] <;> omega
theorem num_digit (k : Nat) (s : ByteArray) (v c i : Int) (h0 : 0 ≤ c) (h1 : c ≤ 255) (hv0 : 0 ≤ v) (hv : v < 4294967296) (hi : 0 ≤ i) (hi1 : i < 8) :
    ∃ k1, k ≤ k1 ∧ (if c ≥ 48 then num_Hex.j1 (k + 2) s v c 8 i (decide (c ≤ 57)) else num_Hex.j1 (k + 2) s v c 8 i false) =
      if dig c < 0 then some (0, 2) else num_Hex.l0 k1 s (v * 16 + dig c) 8 (i + 1) := by
  simp only [num_Hex.j1]
  rw [wrap64_id (n := i + 1) (by omega) (by omega)]
  by_cases a : 48 ≤ c ∧ c ≤ 57
  · refine ⟨k + 1, by omega, ?_⟩
    have e1 : c ≥ 48 := a.1
    have e2 : c ≤ 57 := a.2
    have hd : dig c = c - 48 := by unfold dig; rw [if_pos a]
    have hn : ¬ c - 48 < 0 := by omega
    have hm : (c - 48) % 256 = c - 48 := by omega
    rw [hd, hm, or4_i64 hv0 (by omega) (by omega) (by omega)]
    simp only [e1, e2, hn, decide_true, if_true, if_false]
  · refine ⟨k, by omega, ?_⟩
    have e : ¬ (c ≥ 48 ∧ decide (c ≤ 57) = true) := by simpa using a
    have hl : ∀ (x y : Option (Int × Int)), (if c ≥ 48 then (if decide (c ≤ 57) = true then x else y) else (if false = true then x else y)) = y := by
      intro x y
      by_cases e1 : c ≥ 48
      · have e2 : ¬ c ≤ 57 := fun h => a ⟨e1, h⟩
        simp [e1, e2]
      · simp [e1]
    rw [hl]
    simp only [num_Hex.j2]
    rw [wrap64_id (n := i + 1) (by omega) (by omega)]
    by_cases b : 97 ≤ c ∧ c ≤ 102
    · have hd : dig c = c - 97 + 10 := by unfold dig; rw [if_neg a, if_pos b]; omega
      have e3 : c ≥ 97 := b.1
      have e4 : c ≤ 102 := b.2
      have hn : ¬ c - 97 + 10 < 0 := by omega
      have hm : ((c - 97) % 256 + 10) % 256 = c - 97 + 10 := by omega
      rw [hd, hm, or4_i64 hv0 (by omega) (by omega) (by omega)]
      simp only [e3, e4, hn, decide_true, if_true, if_false]
    · have hl2 : ∀ (x y : Option (Int × Int)), (if c ≥ 97 then (if decide (c ≤ 102) = true then x else y) else (if false = true then x else y)) = y := by
        intro x y
        by_cases e1 : c ≥ 97
        · have e2 : ¬ c ≤ 102 := fun h => b ⟨e1, h⟩
          simp [e1, e2]
        · simp [e1]
      rw [hl2]
      by_cases d : 65 ≤ c ∧ c ≤ 70
      · have hd : dig c = c - 65 + 10 := by unfold dig; rw [if_neg a, if_neg b, if_pos d]; omega
        have e3 : c ≥ 65 := d.1
        have e4 : c ≤ 70 := d.2
        have hn : ¬ c - 65 + 10 < 0 := by omega
        have hm : ((c - 65) % 256 + 10) % 256 = c - 65 + 10 := by omega
        rw [hd, hm, or4_i64 hv0 (by omega) (by omega) (by omega)]
        simp only [e3, e4, hn, if_true, if_false]
      · have hd : dig c = -1 := by unfold dig; rw [if_neg a, if_neg b, if_neg d]
        rw [hd]
        by_cases e3 : c ≥ 65
        · have e4 : ¬ c ≤ 70 := fun h => d ⟨e3, h⟩
          simp [e3, e4]
        · simp [e3]

theorem hex_same (s : ByteArray) (hs : (s.size : Int) = 8) : ∀ (d k k' j : Nat) (i v : Int), i = j → j + d = 8 → 0 ≤ v → v < 16 ^ j → 4 * d + 4 < k → 4 * d + 4 < k' →
    ∃ r, num_Hex.l0 k s v 8 i = some r ∧ stevedoreref1_Hex.l0 k' s v i = some r := by
  intro d
  induction d with
  | zero =>
    intro k k' j i v hi hd h0 hv hk hk'
    obtain ⟨k, rfl⟩ : ∃ m, k = m + 1 := ⟨k - 1, by omega⟩
    obtain ⟨k', rfl⟩ : ∃ m, k' = m + 1 := ⟨k' - 1, by omega⟩
    have q : ¬ i < 8 := by omega
    simp only [num_Hex.l0, stevedoreref1_Hex.l0]
    simp only [q, if_false]
    exact ⟨_, rfl, rfl⟩
  | succ d ih =>
    intro k k' j i v hi hd h0 hv hk hk'
    obtain ⟨k0, hk0⟩ : ∃ m, k = m + 3 := ⟨k - 3, by omega⟩
    obtain ⟨k1, hk1⟩ : ∃ m, k = m + 1 := ⟨k - 1, by omega⟩
    obtain ⟨k', rfl⟩ : ∃ m, k' = m + 1 := ⟨k' - 1, by omega⟩
    have q : i < 8 := by omega
    have q0 : 0 ≤ i := by omega
    have q1 : i < (s.size : Int) := by omega
    have hb := bt_range s i
    have hp := p16 j (by omega)
    have hp' := p16 (j + 1) (by omega)
    have hpow : (16 : Int) ^ (j + 1) = 16 ^ j * 16 := Int.pow_succ 16 j
    have hdr := dig_range (bt s i)
    obtain ⟨k2, hk2, hN⟩ := num_digit k0 s v (bt s i) i hb.1 hb.2 h0 (by omega) q0 q
    subst hk1
    simp only [num_Hex.l0, stevedoreref1_Hex.l0]
    have h12 : k1 = k0 + 2 := by omega
    subst h12
    simp only [q, q0, q1, if_true]
    rw [hN, digit_val k' _ hb.1 hb.2 (by omega), wrap64_id (n := i + 1) (by omega) (by omega)]
    simp only [Option.bind_some]
    by_cases e : dig (bt s i) < 0
    · simp only [e, if_true]; exact ⟨_, rfl, rfl⟩
    · simp only [e, if_false]
      rw [wrap64_id (n := v * 16) (by omega) (by omega), wrap64_id (n := v * 16 + dig (bt s i)) (by omega) (by omega)]
      exact ih k2 k' (j + 1) (i + 1) _ (by omega) (by omega) (by omega) (by omega) (by omega) (by omega)

theorem hexes_same (s : ByteArray) (k k' : Nat) (hk : 100 < k) (hk' : 100 < k') : ∃ r, num_Hex.f k s = some r ∧ stevedoreref1_Hex.f k' s = some r := by
  unfold num_Hex.f stevedoreref1_Hex.f
  by_cases e : (s.size : Int) = 8
  · simp only [e, if_true]
    exact hex_same s e 8 k k' 0 0 0 rfl rfl (by omega) (by decide) (by omega) (by omega)
  · simp only [e, if_false]; exact ⟨_, rfl, rfl⟩

/-! ### PutHex -/
def tab : ByteArray := ⟨#[48, 49, 50, 51, 52, 53, 54, 55, 56, 57, 97, 98, 99, 100, 101, 102]⟩
theorem tab_at : ∀ n : Nat, n < 16 → tab.extract n (n + 1) = strOfNums [bt tab n] := by decide +kernel
theorem str_snoc (l : List Int) (a : Int) : strOfNums (l ++ [a]) = strOfNums l ++ strOfNums [a] := by
  apply WideShapes.bytes_inj
  simp [strOfNums]

theorem putHex_loop (v : Int) (h0 : 0 ≤ v) (hv : v < 9223372036854775808) : ∀ (d k k' : Nat) (i : Int) (l : List Int) (s : ByteArray), i = 4 * (d : Int) - 4 → d ≤ 8 → l.length + d = 8 → strOfNums l = s → d < k → d < k' →
    ∃ r, num_PutHex.l0 k v l i = some r ∧ stevedoreref1_PutHex.l0 k' v s i = some r := by
  intro d
  induction d with
  | zero =>
    intro k k' i l s hi hd hl hs hk hk'
    obtain ⟨k, rfl⟩ : ∃ m, k = m + 1 := ⟨k - 1, by omega⟩
    obtain ⟨k', rfl⟩ : ∃ m, k' = m + 1 := ⟨k' - 1, by omega⟩
    have q : ¬ i ≥ 0 := by omega
    simp only [num_PutHex.l0, stevedoreref1_PutHex.l0]
    simp only [q, if_false]
    exact ⟨_, rfl, by rw [hs]⟩
  | succ d ih =>
    intro k k' i l s hi hd hl hs hk hk'
    obtain ⟨k, rfl⟩ : ∃ m, k = m + 1 := ⟨k - 1, by omega⟩
    obtain ⟨k', rfl⟩ : ∃ m, k' = m + 1 := ⟨k' - 1, by omega⟩
    have q : i ≥ 0 := by omega
    have q1 : 0 ≤ i := q
    have hsz : s.size ≤ 8 := by rw [← hs, strOfNums_size]; omega
    have hsh0 : 0 ≤ shr .i64 v i := by unfold shr; exact Int.ediv_nonneg h0 (Int.pow_nonneg (by decide))
    have hsh : shr .i64 v i ≤ v := by unfold shr; exact Int.ediv_le_self _ h0
    simp only [num_PutHex.l0, stevedoreref1_PutHex.l0]
    rw [wu64 (n := i) q1 (by omega), and_i64 4 (by decide) (by rfl) hsh0 (by omega)]
    have hx0 : 0 ≤ shr .i64 v i % 2 ^ 4 := by omega
    have hx1 : shr .i64 v i % 2 ^ 4 < 16 := by omega
    generalize shr .i64 v i % 2 ^ 4 = x at hx0 hx1 ⊢
    obtain ⟨n, rfl⟩ := Int.eq_ofNat_of_zero_le hx0
    rw [wrap64_id (n := (n : Int) + 1) (by omega) (by omega), wrap64_id (n := i - 4) (by omega) (by omega)]
    have t1 : ((n : Int)).toNat = n := by omega
    have t2 : ((n : Int) + 1).toNat = n + 1 := by omega
    have q2 : (n : Int) ≤ n + 1 := by omega
    have q3 : (n : Int) + 1 ≤ 16 := by omega
    have q4 : l.length < 140737488355328 := by omega
    rw [t1, t2]
    have ht := tab_at n (by omega)
    unfold tab at ht
    rw [ht]
    have q5 : s.size + (strOfNums [bt (⟨#[48, 49, 50, 51, 52, 53, 54, 55, 56, 57, 97, 98, 99, 100, 101, 102]⟩ : ByteArray) n]).size ≤ 9223372036854775807 := by rw [strOfNums_size]; simp; omega
    simp only [q, q1, q2, q3, q4, q5, hx0, hx1, if_true]
    exact ih k k' (i - 4) _ _ (by omega) (by omega) (by simp; omega) (by rw [str_snoc, hs]) (by omega) (by omega)

theorem putHex_same (v : Int) (hv : -9223372036854775808 ≤ v ∧ v < 9223372036854775808) (k k' : Nat) (hk : 100 < k) (hk' : 100 < k') :
    ∃ r, num_PutHex.f k v = some r ∧ stevedoreref1_PutHex.f k' v = some r := by
  obtain ⟨k, rfl⟩ : ∃ m, k = m + 1 := ⟨k - 1, by omega⟩
  obtain ⟨k', rfl⟩ : ∃ m, k' = m + 1 := ⟨k' - 1, by omega⟩
  unfold num_PutHex.f stevedoreref1_PutHex.f
  simp only [num_PutHex.j0, stevedoreref1_PutHex.j0]
  by_cases e1 : v < 0
  · simp only [e1, if_true]; exact ⟨_, rfl, rfl⟩
  · simp only [e1, if_false]
    by_cases e2 : v > 4294967295
    · simp only [e2, decide_true, if_true]; exact ⟨_, rfl, rfl⟩
    · simp only [e2, decide_false, Bool.false_eq_true, if_false]
      exact putHex_loop v (by omega) (by omega) 8 k k' 28 [] _ (by omega) (by omega) (by simp) (by rfl) (by omega) (by omega)

/-! ### Decimal -/
def DR (v : Int) (far : Bool) (n : Int) (over : Bool) : Prop :=
  (over = false ∧ far = false ∧ v = n ∧ 0 ≤ n ∧ n ≤ 4611686018427387904) ∨ (over = true ∧ (far = true ∨ v > 4611686018427387904))

theorem dec_loop (s : ByteArray) (hs : s.size ≤ 140737488351232) (hp : 0 < s.size) : ∀ (d k k' : Nat) (i v : Int) (far : Bool) (n : Int) (over : Bool), 0 ≤ i → (s.size : Int) - i = d → 2 * d < k → 2 * d < k' → DR v far n over →
    ∃ r, num_Decimal.l0 k s v far (s.size : Int) i = some r ∧ stevedoreref1_Decimal.l0 k' s n over i = some r := by
  intro d
  induction d with
  | zero =>
    intro k k' i v far n over h0 hd hk hk' hr
    obtain ⟨k, rfl⟩ : ∃ m, k = m + 1 := ⟨k - 1, by omega⟩
    obtain ⟨k', rfl⟩ : ∃ m, k' = m + 1 := ⟨k' - 1, by omega⟩
    have q : ¬ i < (s.size : Int) := by omega
    have q1 : ¬ s.toList = ([] : List UInt8) := fun h => by have := (toList_nil s).1 h; omega
    simp only [num_Decimal.l0, stevedoreref1_Decimal.l0]
    simp only [q, q1, if_false]
    rcases hr with ⟨rfl, rfl, rfl, hn0, hn⟩ | ⟨rfl, hf⟩
    · have q2 : ¬ v > 4611686018427387904 := by omega
      simp only [q2, Bool.false_eq_true, if_false]
      rw [wrap64_id (by omega) (by omega)]; exact ⟨_, rfl, rfl⟩
    · refine ⟨(0, 7), ?_, rfl⟩
      by_cases e : far = true
      · rw [if_pos e]
      · have hv : v > 4611686018427387904 := by rcases hf with h | h; exact absurd h e; exact h
        rw [if_neg e, if_pos hv]
  | succ d ih =>
    intro k k' i v far n over h0 hd hk hk' hr
    obtain ⟨k, rfl⟩ : ∃ m, k = m + 2 := ⟨k - 2, by omega⟩
    obtain ⟨k', rfl⟩ : ∃ m, k' = m + 2 := ⟨k' - 2, by omega⟩
    have q : i < (s.size : Int) := by omega
    have hb := bt_range s i
    simp only [num_Decimal.l0, stevedoreref1_Decimal.l0]
    simp only [q, h0, if_true]
    by_cases e1 : bt s i < 48
    · simp only [e1, if_true, num_Decimal.j1, stevedoreref1_Decimal.j1]; exact ⟨_, rfl, rfl⟩
    · simp only [e1, if_false, num_Decimal.j1, stevedoreref1_Decimal.j1]
      by_cases e2 : bt s i > 57
      · simp only [e2, decide_true, if_true]; exact ⟨_, rfl, rfl⟩
      · simp only [e2, decide_false, Bool.false_eq_true, if_false]
        rw [wrap64_id (n := i + 1) (by omega) (by omega)]
        rcases hr with ⟨rfl, rfl, rfl, hn0, hn⟩ | ⟨rfl, hf⟩
        · simp only [Bool.false_eq_true, if_false]
          by_cases hv : v > 461168601842738790
          · simp only [hv, decide_true, if_true]
            exact ih k k' (i + 1) _ _ _ _ (by omega) (by omega) (by omega) (by omega) (.inr ⟨rfl, .inl rfl⟩)
          · have hm : (bt s i - 48) % 256 = bt s i - 48 := by omega
            simp only [hv, q, h0, decide_false, if_true, if_false]
            rw [hm, wu64 (n := v * 10) (by omega) (by omega), wu64 (n := v * 10 + (bt s i - 48)) (by omega) (by omega), wrap64_id (n := v * 10) (by omega) (by omega), wrap64_id (n := v * 10 + (bt s i - 48)) (by omega) (by omega)]
            by_cases ho : v * 10 + (bt s i - 48) > 4611686018427387904
            · simp only [ho, decide_true]
              exact ih k k' (i + 1) _ _ _ _ (by omega) (by omega) (by omega) (by omega) (.inr ⟨rfl, .inr ho⟩)
            · simp only [ho, decide_false]
              exact ih k k' (i + 1) _ _ _ _ (by omega) (by omega) (by omega) (by omega) (.inl ⟨rfl, rfl, rfl, by omega, by omega⟩)
        · simp only [if_true]
          by_cases e : far = true
          · simp only [e, if_true]
            exact ih k k' (i + 1) _ _ _ _ (by omega) (by omega) (by omega) (by omega) (.inr ⟨rfl, .inl rfl⟩)
          · have hv : v > 4611686018427387904 := by rcases hf with h | h; exact absurd h e; exact h
            have hv' : v > 461168601842738790 := by omega
            simp only [e, hv', decide_true, if_true, if_false]
            exact ih k k' (i + 1) _ _ _ _ (by omega) (by omega) (by omega) (by omega) (.inr ⟨rfl, .inl rfl⟩)

theorem decimal_same (s : ByteArray) (hs : s.size ≤ 140737488351232) (k k' : Nat) (hk : 2 * s.size + 3 < k) (hk' : 2 * s.size + 3 < k') :
    ∃ r, num_Decimal.f k s = some r ∧ stevedoreref1_Decimal.f k' s = some r := by
  unfold num_Decimal.f stevedoreref1_Decimal.f
  by_cases e : s.toList = ([] : List UInt8)
  · have hz := (toList_nil s).1 e
    obtain ⟨k, rfl⟩ : ∃ m, k = m + 1 := ⟨k - 1, by omega⟩
    simp only [e, if_true, num_Decimal.l0]
    rw [if_neg (by omega)]; exact ⟨_, rfl, rfl⟩
  · have hp : 0 < s.size := by
      rcases Nat.eq_zero_or_pos s.size with h | h
      · exact absurd ((toList_nil s).2 h) e
      · exact h
    simp only [e, if_false]
    exact dec_loop s hs hp s.size k k' 0 0 false 0 false (by omega) (by omega) (by omega) (by omega) (.inl ⟨rfl, rfl, rfl, by omega, by omega⟩)
end Go.Proofs.Ytfnicahlnpngkaa.TextsOfNumTexts
