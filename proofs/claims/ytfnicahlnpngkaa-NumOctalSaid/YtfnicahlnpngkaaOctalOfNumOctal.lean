/- Octal and PutOctal: the program's printed functions and the document's answer alike. (NumOctal: the printed namespace) -/
import Derived.Test.YtfnicahlnpngkaaPNumOctalx5
import Derived.Test.YtfnicahlnpngkaaBase
set_option linter.unusedVariables false
set_option linter.unusedSimpArgs false
namespace Go.Proofs.Ytfnicahlnpngkaa.OctalOfNumOctal
open Go.RowKit Go.Proofs.Ytfnicahlnpngkaa.PNumOctal Go.Proofs.YtfnicahlnpngkaaW.PrintWords Go.Proofs.Ytfnicahlnpngkaa.Base

theorem ref_wide_over (s : ByteArray) (hs : s.size ≤ 140737488351232) : ∀ (k : Nat) (i : Int), 0 ≤ i → i ≤ s.size → (s.size : Int) - i < k →
    stevedoreref1_Octal.l0 k s 0 true i = some (0, 7) := by
  intro k
  induction k with
  | zero => intro i h0 h1 hk; omega
  | succ k ih =>
    intro i h0 h1 hk
    simp only [stevedoreref1_Octal.l0]
    by_cases hlt : i < (s.size : Int)
    · rw [if_pos hlt, if_pos trivial, if_pos h0, wrap64_id (by omega) (by omega)]; exact ih (i + 1) (by omega) (by omega) (by omega)
    · rw [if_neg hlt, if_pos trivial]

theorem num_wide_big (s : ByteArray) (k : Nat) (i v : Int) (hk : 0 < k) (hv : v > 4611686018427387904) : num_wide.l0 k s v i = some (0, 7) := by
  obtain ⟨k, rfl⟩ : ∃ m, k = m + 1 := ⟨k - 1, by omega⟩
  simp only [num_wide.l0]
  by_cases hlt : i < (s.size : Int)
  · rw [if_pos hlt, if_pos (by omega)]
  · rw [if_neg hlt, if_pos hv]

theorem wide_same (s : ByteArray) (hs : s.size ≤ 140737488351232) : ∀ (d k k' : Nat) (i v : Int), 0 ≤ i → (s.size : Int) - i = d → d < k → d < k' → 0 ≤ v → v ≤ 4611686018427387904 →
    ∃ r, num_wide.l0 k s v i = some r ∧ stevedoreref1_Octal.l0 k' s v false i = some r := by
  intro d
  induction d with
  | zero =>
    intro k k' i v h0 hd hk hk' hv0 hv
    obtain ⟨k, rfl⟩ : ∃ m, k = m + 1 := ⟨k - 1, by omega⟩
    obtain ⟨k', rfl⟩ : ∃ m, k' = m + 1 := ⟨k' - 1, by omega⟩
    refine ⟨(v, 0), ?_, ?_⟩
    · simp only [num_wide.l0]
      rw [if_neg (by omega), if_neg (by omega), wrap64_id (by omega) (by omega)]
    · simp only [stevedoreref1_Octal.l0]
      rw [if_neg (by omega)]; rfl
  | succ d ih =>
    intro k k' i v h0 hd hk hk' hv0 hv
    obtain ⟨k, rfl⟩ : ∃ m, k = m + 1 := ⟨k - 1, by omega⟩
    obtain ⟨k', rfl⟩ : ∃ m, k' = m + 1 := ⟨k' - 1, by omega⟩
    have hb := bt_range s i
    have hlt : i < (s.size : Int) := by omega
    simp only [num_wide.l0, stevedoreref1_Octal.l0]
    simp only [hlt, h0, if_true, Bool.false_eq_true, if_false]
    rw [wrap64_id (n := i + 1) (by omega) (by omega)]
    by_cases hbig : v > 18014398509481984
    · simp only [hbig, if_true]
      exact ⟨_, rfl, ref_wide_over s hs k' (i + 1) (by omega) (by omega) (by omega)⟩
    · simp only [hbig, if_false]
      rw [wu64 (n := bt s i) (by omega) (by omega), wrap64_id (n := bt s i) (by omega) (by omega), or8_u64 hv0 (by omega) hb.1 (by omega), or8_i64 hv0 (by omega) hb.1 (by omega)]
      by_cases hov : v * 256 + bt s i > 4611686018427387904
      · rw [if_pos hov, decide_eq_true hov]
        exact ⟨_, num_wide_big s k _ _ (by omega) hov, ref_wide_over s hs k' (i + 1) (by omega) (by omega) (by omega)⟩
      · rw [if_neg hov, decide_eq_false hov]
        exact ih k k' (i + 1) _ (by omega) (by omega) (by omega) (by omega) (by omega) (by omega)

/-- what the two readers hold of the number so far. -/
def RR (v : Int) (far : Bool) (n : Int) (over : Bool) : Prop :=
  (over = false ∧ far = false ∧ v = n ∧ 0 ≤ n ∧ n ≤ 4611686018427387904) ∨ (over = true ∧ n = 0 ∧ (far = true ∨ v > 4611686018427387904))

theorem tail_same (s : ByteArray) (hs : s.size ≤ 140737488351232) : ∀ (d k k' : Nat) (i v : Int) (far : Bool) (n : Int) (over : Bool), 0 ≤ i → (s.size : Int) - i = d → d < k → d < k' → RR v far n over →
    ∃ r, num_Octal.l2 k s i v far = some r ∧ stevedoreref1_Octal.l3 k' s i n over = some r := by
  intro d
  induction d with
  | zero =>
    intro k k' i v far n over h0 hd hk hk' hr
    obtain ⟨k, rfl⟩ : ∃ m, k = m + 1 := ⟨k - 1, by omega⟩
    obtain ⟨k', rfl⟩ : ∃ m, k' = m + 1 := ⟨k' - 1, by omega⟩
    have hlt : ¬ i < (s.size : Int) := by omega
    simp only [num_Octal.l2, stevedoreref1_Octal.l3]
    simp only [hlt, if_false]
    rcases hr with ⟨rfl, rfl, rfl, hn0, hn⟩ | ⟨rfl, rfl, hf⟩
    · have h4 : ¬ v > 4611686018427387904 := by omega
      simp only [h4, Bool.false_eq_true, if_false]
      rw [wrap64_id (by omega) (by omega)]
      exact ⟨_, rfl, rfl⟩
    · refine ⟨(0, 7), ?_, rfl⟩
      rcases hf with rfl | hf
      · rfl
      · by_cases e : far = true
        · rw [if_pos e]
        · rw [if_neg e, if_pos hf]
  | succ d ih =>
    intro k k' i v far n over h0 hd hk hk' hr
    obtain ⟨k, rfl⟩ : ∃ m, k = m + 1 := ⟨k - 1, by omega⟩
    obtain ⟨k', rfl⟩ : ∃ m, k' = m + 1 := ⟨k' - 1, by omega⟩
    have hlt : i < (s.size : Int) := by omega
    simp only [num_Octal.l2, stevedoreref1_Octal.l3]
    simp only [hlt, h0, if_true]
    rw [wrap64_id (n := i + 1) (by omega) (by omega)]
    by_cases e1 : bt s i = 32
    · simp only [e1, if_true]; exact ih k k' (i + 1) v far n over (by omega) (by omega) (by omega) (by omega) hr
    · simp only [e1, if_false]
      by_cases e2 : bt s i = 0
      · simp only [e2, if_true]; exact ih k k' (i + 1) v far n over (by omega) (by omega) (by omega) (by omega) hr
      · simp only [e2, if_false]; exact ⟨_, rfl, rfl⟩

theorem digits_same (s : ByteArray) (hs : s.size ≤ 140737488351232) : ∀ (d k k' : Nat) (i v : Int) (far : Bool) (n : Int) (over : Bool), 0 ≤ i → (s.size : Int) - i = d → 2 * d + 3 < k → 2 * d + 3 < k' → RR v far n over →
    ∃ r, num_Octal.l1 k s i v far = some r ∧ stevedoreref1_Octal.l2 k' s i n over = some r := by
  intro d
  induction d with
  | zero =>
    intro k k' i v far n over h0 hd hk hk' hr
    obtain ⟨k, rfl⟩ : ∃ m, k = m + 2 := ⟨k - 2, by omega⟩
    obtain ⟨k', rfl⟩ : ∃ m, k' = m + 2 := ⟨k' - 2, by omega⟩
    have hlt : ¬ i < (s.size : Int) := by omega
    simp only [num_Octal.l1, num_Octal.j3, stevedoreref1_Octal.l2, stevedoreref1_Octal.j4]
    simp only [hlt, Bool.false_eq_true, if_false]
    exact tail_same s hs 0 k k' i v far n over h0 hd (by omega) (by omega) hr
  | succ d ih =>
    intro k k' i v far n over h0 hd hk hk' hr
    obtain ⟨k, rfl⟩ : ∃ m, k = m + 2 := ⟨k - 2, by omega⟩
    obtain ⟨k', rfl⟩ : ∃ m, k' = m + 2 := ⟨k' - 2, by omega⟩
    have hlt : i < (s.size : Int) := by omega
    simp only [num_Octal.l1, stevedoreref1_Octal.l2]
    simp only [hlt, h0, if_true]
    by_cases e1 : bt s i ≥ 48
    · simp only [e1, if_true]
      simp only [stevedoreref1_Octal.j4]
      by_cases e2 : bt s i ≤ 55
      · simp only [e2, hlt, h0, decide_true, if_true]
        rw [wrap64_id (n := i + 1) (by omega) (by omega)]
        have hm : (bt s i - 48) % 256 = bt s i - 48 := by omega
        rw [hm]
        rcases hr with ⟨rfl, rfl, rfl, hn0, hn⟩ | ⟨rfl, rfl, hf⟩
        · simp only [Bool.false_eq_true, if_false]
          by_cases hv : v > 576460752303423488
          · simp only [hv, decide_true, if_true]
            exact ih (k + 1) k' (i + 1) _ _ _ _ (by omega) (by omega) (by omega) (by omega) (.inr ⟨rfl, rfl, .inl rfl⟩)
          · simp only [hv, decide_false, if_false]
            rw [or3_u64 hn0 (by omega) (by omega) (by omega), or3_i64 hn0 (by omega) (by omega) (by omega)]
            by_cases ho : v * 8 + (bt s i - 48) > 4611686018427387904
            · simp only [ho, decide_true, if_true]
              exact ih (k + 1) k' (i + 1) _ _ _ _ (by omega) (by omega) (by omega) (by omega) (.inr ⟨rfl, rfl, .inr ho⟩)
            · simp only [ho, decide_false, if_false]
              exact ih (k + 1) k' (i + 1) _ _ _ _ (by omega) (by omega) (by omega) (by omega) (.inl ⟨rfl, rfl, rfl, by omega, by omega⟩)
        · simp only [if_true]
          by_cases e : far = true
          · simp only [e, if_true]
            exact ih (k + 1) k' (i + 1) _ _ _ _ (by omega) (by omega) (by omega) (by omega) (.inr ⟨rfl, rfl, .inl rfl⟩)
          · have hv : v > 4611686018427387904 := by rcases hf with h | h; exact absurd h e; exact h
            have hv' : v > 576460752303423488 := by omega
            simp only [e, hv', decide_true, if_false]
            exact ih (k + 1) k' (i + 1) _ _ _ _ (by omega) (by omega) (by omega) (by omega) (.inr ⟨rfl, rfl, .inl rfl⟩)
      · simp only [e2, decide_false, Bool.false_eq_true, if_false]
        simp only [num_Octal.j3]
        exact tail_same s hs (d + 1) k k' i v far n over h0 hd (by omega) (by omega) hr
    · simp only [e1, if_false]
      simp only [num_Octal.j3, stevedoreref1_Octal.j4]
      simp only [Bool.false_eq_true, if_false]
      exact tail_same s hs (d + 1) k k' i v far n over h0 hd (by omega) (by omega) hr

theorem blanks_same (s : ByteArray) (hs : s.size ≤ 140737488351232) : ∀ (d k k' : Nat) (i : Int), 0 ≤ i → (s.size : Int) - i = d → 2 * d + 5 < k → 2 * d + 5 < k' →
    ∃ r, num_Octal.l0 k s i = some r ∧ stevedoreref1_Octal.l1 k' s i = some r := by
  intro d
  induction d with
  | zero =>
    intro k k' i h0 hd hk hk'
    obtain ⟨k, rfl⟩ : ∃ m, k = m + 2 := ⟨k - 2, by omega⟩
    obtain ⟨k', rfl⟩ : ∃ m, k' = m + 2 := ⟨k' - 2, by omega⟩
    have hlt : ¬ i < (s.size : Int) := by omega
    simp only [num_Octal.l0, num_Octal.j1, stevedoreref1_Octal.l1, stevedoreref1_Octal.j2]
    simp only [hlt, if_false]
    exact digits_same s hs 0 k k' i 0 false 0 false h0 hd (by omega) (by omega) (.inl ⟨rfl, rfl, rfl, by omega, by omega⟩)
  | succ d ih =>
    intro k k' i h0 hd hk hk'
    obtain ⟨k, rfl⟩ : ∃ m, k = m + 2 := ⟨k - 2, by omega⟩
    obtain ⟨k', rfl⟩ : ∃ m, k' = m + 2 := ⟨k' - 2, by omega⟩
    have hlt : i < (s.size : Int) := by omega
    simp only [num_Octal.l0, stevedoreref1_Octal.l1]
    simp only [hlt, h0, if_true]
    rw [wrap64_id (n := i + 1) (by omega) (by omega)]
    by_cases e1 : bt s i = 32
    · simp only [e1, if_true]; exact ih (k + 1) (k' + 1) (i + 1) (by omega) (by omega) (by omega) (by omega)
    · simp only [e1, if_false]
      simp only [num_Octal.j1, stevedoreref1_Octal.j2]
      exact digits_same s hs (d + 1) k k' i 0 false 0 false h0 hd (by omega) (by omega) (.inl ⟨rfl, rfl, rfl, by omega, by omega⟩)

theorem octal_same (s : ByteArray) (hs : s.size ≤ 140737488351232) (k k' : Nat) (hk : 2 * s.size + 6 < k) (hk' : 2 * s.size + 6 < k') :
    ∃ r, num_Octal.f k s = some r ∧ stevedoreref1_Octal.f k' s = some r := by
  unfold num_Octal.f stevedoreref1_Octal.f
  by_cases e : s.toList = ([] : List UInt8)
  · rw [if_pos e, if_pos e]; exact ⟨_, rfl, rfl⟩
  · have hp : 0 < s.size := by
      rcases Nat.eq_zero_or_pos s.size with h | h
      · exact absurd ((toList_nil s).2 h) e
      · exact h
    have hp' : 0 < (s.size : Int) := by omega
    simp only [e, hp', if_true, if_false]
    by_cases e1 : bt s 0 ≥ 128
    · simp only [e1, if_true]
      unfold num_wide.f
      by_cases e2 : bt s 0 = 128
      · simp only [hp', e2, if_true]
        obtain ⟨r, h1, h2⟩ := wide_same s hs (s.size - 1) k k' 1 0 (by omega) (by omega) (by omega) (by omega) (by omega) (by omega)
        exact ⟨r, by rw [h1]; rfl, h2⟩
      · simp only [hp', e2, if_true, if_false]; exact ⟨_, rfl, rfl⟩
    · simp only [e1, if_false]
      exact blanks_same s hs s.size k k' 0 (by omega) (by omega) (by omega) (by omega)

/-! ### PutOctal -/
theorem set_drop (l : List Int) (d : Nat) (a : Int) (h : d < l.length) : (l.set d a).drop d = a :: l.drop (d + 1) := by
  rw [List.drop_eq_getElem_cons (by simpa using h), List.getElem_set_self, List.drop_set_of_lt (by omega)]
theorem str_cons (a : Int) (t : List Int) : strOfNums (a :: t) = strOfNums [a] ++ strOfNums t := by
  apply WideShapes.bytes_inj
  simp [strOfNums]

theorem wide_put (v n : Int) (hn : n ≤ 32) : ∀ (d k k' : Nat) (i x : Int) (l m : List Int), i = d → (d : Int) < n → (l.length : Int) = n → (m.length : Int) = n → l.drop (d + 1) = m.drop (d + 1) → 0 ≤ x → d < k → d < k' →
    ∃ r, num_PutOctal.l1 k l x i = some r ∧ stevedoreref1_PutOctal.l1 k' x m i = some r := by
  intro d
  induction d with
  | zero =>
    intro k k' i x l m hi hd hl hm hlm hx hk hk'
    obtain ⟨k, rfl⟩ : ∃ m, k = m + 1 := ⟨k - 1, by omega⟩
    obtain ⟨k', rfl⟩ : ∃ m, k' = m + 1 := ⟨k' - 1, by omega⟩
    have q1 : ¬ i > 0 := by omega
    have q2 : 0 < (l.length : Int) := by omega
    have q3 : 0 < (m.length : Int) := by omega
    simp only [num_PutOctal.l1, stevedoreref1_PutOctal.l1]
    simp only [q1, q2, q3, if_true, if_false]
    by_cases e : x > 0
    · have e' : ¬ x = 0 := by omega
      simp only [e, e', if_true, if_false]; exact ⟨_, rfl, rfl⟩
    · have e' : x = 0 := by omega
      simp only [e, e', if_true, if_false]
      have : l.set (0 : Int).toNat 128 = m.set (0 : Int).toNat 128 := by
        cases l with
        | nil => simp at hl; omega
        | cons a l => cases m with
          | nil => simp at hm; omega
          | cons b m => simpa using hlm
      rw [this]; exact ⟨_, rfl, rfl⟩
  | succ d ih =>
    intro k k' i x l m hi hd hl hm hlm hx hk hk'
    obtain ⟨k, rfl⟩ : ∃ m, k = m + 1 := ⟨k - 1, by omega⟩
    obtain ⟨k', rfl⟩ : ∃ m, k' = m + 1 := ⟨k' - 1, by omega⟩
    have q1 : i > 0 := by omega
    have q4 : 0 ≤ i := by omega
    have q2 : i < (l.length : Int) := by omega
    have q3 : i < (m.length : Int) := by omega
    simp only [num_PutOctal.l1, stevedoreref1_PutOctal.l1]
    simp only [q1, q2, q3, q4, if_true]
    rw [wrap64_id (n := i - 1) (by omega) (by omega)]
    have ht : i.toNat = d + 1 := by omega
    rw [ht]
    exact ih k k' (i - 1) (x / 256) _ _ (by omega) (by omega) (by simpa using hl) (by simpa using hm) (by rw [set_drop _ _ _ (by omega), set_drop _ _ _ (by omega), hlm]) (by omega) (by omega) (by omega)

theorem put_digits (v n : Int) (hv0 : 0 ≤ v) (hv : v ≤ 4611686018427387904) (hn2 : 2 ≤ n) (hn : n ≤ 32) : ∀ (d k k' : Nat) (i x j : Int) (l : List Int) (s : ByteArray), i = (d : Int) - 1 → (d : Int) < n → j = n - 1 - d → (l.length : Int) = n →
    strOfNums (l.drop d) = s → 0 ≤ x → x ≤ 4611686018427387904 → d + 40 < k → d + 40 < k' →
    ∃ r, num_PutOctal.l0 k v n l x i = some r ∧ stevedoreref1_PutOctal.l0 k' v n s x j = some r := by
  intro d
  induction d with
  | zero =>
    intro k k' i x j l s hi hd hj hl hs hx0 hx hk hk'
    obtain ⟨k, rfl⟩ : ∃ m, k = m + 1 := ⟨k - 1, by omega⟩
    obtain ⟨k', rfl⟩ : ∃ m, k' = m + 1 := ⟨k' - 1, by omega⟩
    have q1 : ¬ i ≥ 0 := by omega
    have q2 : ¬ j < n - 1 := by omega
    have q3 : 0 ≤ n := by omega
    have q4 : n.toNat ≤ 281474976710656 := by omega
    simp only [num_PutOctal.l0, stevedoreref1_PutOctal.l0]
    rw [wrap64_id (n := n - 1) (by omega) (by omega)]
    simp only [q1, q2, if_false]
    by_cases e : x = 0
    · simp only [e, if_true]; exact ⟨_, rfl, by rw [← hs]; simp⟩
    · simp only [e, q3, q4, if_true, if_false]
      rw [wu64 hv0 (by omega)]
      exact wide_put v n hn (n.toNat - 1) k k' (n - 1) v l (List.replicate n.toNat 0) (by omega) (by omega) hl (by simp; omega) (by rw [List.drop_of_length_le (by omega), List.drop_of_length_le (by simp; omega)]) hv0 (by omega) (by omega)
  | succ d ih =>
    intro k k' i x j l s hi hd hj hl hs hx0 hx hk hk'
    obtain ⟨k, rfl⟩ : ∃ m, k = m + 1 := ⟨k - 1, by omega⟩
    obtain ⟨k', rfl⟩ : ∃ m, k' = m + 1 := ⟨k' - 1, by omega⟩
    have hsz : s.size ≤ 32 := by rw [← hs, strOfNums_size, List.length_drop]; omega
    have q1 : i ≥ 0 := by omega
    have q2 : j < n - 1 := by omega
    have q3 : 0 ≤ i := by omega
    have q4 : i < (l.length : Int) := by omega
    simp only [num_PutOctal.l0, stevedoreref1_PutOctal.l0]
    rw [wrap64_id (n := n - 1) (by omega) (by omega)]
    simp only [q1, q2, q3, q4, if_true, Option.bind_some]
    rw [if_pos (by rw [strOfNums_size]; simp; omega), wrap64_id (n := i - 1) (by omega) (by omega), wrap64_id (n := j + 1) (by omega) (by omega)]
    rw [and_u64 3 (by decide) (by rfl) hx0 (by omega), and_i64 3 (by decide) (by rfl) hx0 (by omega)]
    have ht : i.toNat = d := by omega
    rw [ht]
    refine ih k k' (i - 1) (x / 8) (j + 1) _ _ (by omega) (by omega) (by omega) (by simpa using hl) ?_ (by omega) (by omega) (by omega) (by omega)
    rw [set_drop _ _ _ (by omega), str_cons, hs]

theorem putOctal_same (v n : Int) (hv : -9223372036854775808 ≤ v ∧ v < 9223372036854775808) (k k' : Nat) (hk : 100 < k) (hk' : 100 < k') :
    ∃ r, num_PutOctal.f k v n = some r ∧ stevedoreref1_PutOctal.f k' v n = some r := by
  obtain ⟨k, rfl⟩ : ∃ m, k = m + 1 := ⟨k - 1, by omega⟩
  obtain ⟨k', rfl⟩ : ∃ m, k' = m + 2 := ⟨k' - 2, by omega⟩
  unfold num_PutOctal.f stevedoreref1_PutOctal.f
  simp only [num_PutOctal.j0, stevedoreref1_PutOctal.j0, stevedoreref1_PutOctal.j1]
  by_cases e1 : n < 2
  · simp only [e1, if_true]; exact ⟨_, rfl, rfl⟩
  · simp only [e1, if_false]
    by_cases e2 : n > 32
    · simp only [e2, decide_true, if_true]; exact ⟨_, rfl, rfl⟩
    · simp only [e2, decide_false, Bool.false_eq_true, if_false]
      by_cases e3 : v < 0
      · simp only [e3, if_true]; exact ⟨_, rfl, rfl⟩
      · simp only [e3, if_false]
        by_cases e4 : v > 4611686018427387904
        · simp only [e4, decide_true, if_true]; exact ⟨_, rfl, rfl⟩
        · have q3 : 0 ≤ n := by omega
          have q4 : n.toNat ≤ 281474976710656 := by omega
          simp only [e4, q3, q4, decide_false, Bool.false_eq_true, if_true, if_false]
          rw [wu64 (n := v) (by omega) (by omega), wrap64_id (n := n - 2) (by omega) (by omega)]
          refine put_digits v n (by omega) (by omega) (by omega) (by omega) (n.toNat - 1) k k' (n - 2) v 0 _ _ (by omega) (by omega) (by omega) (by simp; omega) ?_ (by omega) (by omega) (by omega) (by omega)
          rw [List.drop_replicate, show n.toNat - (n.toNat - 1) = 1 by omega]
          rfl
end Go.Proofs.Ytfnicahlnpngkaa.OctalOfNumOctal
