/- The document's numbers in bytes (Bytes, Number) over the plain law. (Num1: the printed namespace) -/
import Derived.Test.YtfnicahlnpngkaaFixedOfNum1
set_option linter.unusedVariables false
set_option linter.unusedSimpArgs false
namespace Go.Proofs.Ytfnicahlnpngkaa.FixedOfNum1
open Go.RowKit Go.Proofs.Ytfnicahlnpngkaa.PNum1 Go.Proofs.YtfnicahlnpngkaaW.PrintWords Go.Proofs.YtfnicahlnpngkaaW.PrintMore Go.Proofs.Ytfnicahlnpngkaa.Base Go.Proofs.Ytfnicahlnpngkaa.NumRead Go.Proofs.Ytfnicahlnpngkaa.NumAcc

theorem bytes_loop (v n : Int) (big : Bool) (hn : n ≤ 8) : ∀ (d k : Nat) (i : Int) (a : List Int), 0 ≤ i → n - i = d → a.length + d < 140737488355328 → d < k →
    stevedoreref1_Bytes.l0 k v n big a i = some (strOfNums (a ++ bs (fun j => if big = true then byteAt v (n - 1 - j) else byteAt v j) i d)) := by
  intro d
  induction d with
  | zero =>
    intro k i a h0 hd ha hk
    obtain ⟨k, rfl⟩ : ∃ m, k = m + 1 := ⟨k - 1, by omega⟩
    have q : ¬ i < n := by omega
    simp only [stevedoreref1_Bytes.l0, q, if_false, bs, List.append_nil]
  | succ d ih =>
    intro k i a h0 hd ha hk
    obtain ⟨k, rfl⟩ : ∃ m, k = m + 1 := ⟨k - 1, by omega⟩
    have q : i < n := by omega
    have q1 : a.length < 140737488355328 := by omega
    have q2 : ∀ y, 0 ≤ IntKind.u64.wrap (wrap64 (8 * y)) := by intro y; rw [wu64_eq]; omega
    simp only [stevedoreref1_Bytes.l0, q, q1, q2, if_true]
    rw [wrap64_id (n := i + 1) (by omega) (by omega), wrap64_id (n := n - 1) (by omega) (by omega), wrap64_id (n := n - 1 - i) (by omega) (by omega)]
    cases big with
    | true =>
      simp only [if_true]
      rw [ih k (i + 1) _ (by omega) (by omega) (by simp; omega) (by omega)]
      simp only [bs, byteAt, List.append_assoc, List.singleton_append, if_true]
    | false =>
      simp only [Bool.false_eq_true, if_false]
      rw [ih k (i + 1) _ (by omega) (by omega) (by simp; omega) (by omega)]
      simp only [bs, byteAt, List.append_assoc, List.singleton_append, Bool.false_eq_true, if_false]

theorem bytes_eq (v n : Int) (big : Bool) (k : Nat) (hk : 20 < k) :
    stevedoreref1_Bytes.f k v n big = some (strOfNums (if n < 1 ∨ 8 < n then [] else bs (fun j => if big = true then byteAt v (n - 1 - j) else byteAt v j) 0 n.toNat)) := by
  obtain ⟨k, rfl⟩ : ∃ m, k = m + 1 := ⟨k - 1, by omega⟩
  unfold stevedoreref1_Bytes.f
  simp only [stevedoreref1_Bytes.j0]
  by_cases e1 : n < 1
  · have e : n < 1 ∨ 8 < n := .inl e1
    simp only [e1, if_true, true_or, or_true, false_or, or_false]; rfl
  · by_cases e2 : n > 8
    · have e : n < 1 ∨ 8 < n := .inr e2
      simp only [e1, e2, decide_true, if_true, if_false, true_or, or_true, false_or, or_false]; rfl
    · have e : ¬ (n < 1 ∨ 8 < n) := by omega
      simp only [e1, e2, decide_false, Bool.false_eq_true, if_false, true_or, or_true, false_or, or_false]
      exact bytes_loop v n big (by omega) n.toNat k 0 [] (by omega) (by omega) (by simp; omega) (by omega)

theorem number_loop (l : List Int) (f n : Int) (big : Bool) (hl : l.length ≤ 140737488355328) (hn : n ≤ 8) (h0 : 0 ≤ f) (hf : f + n ≤ l.length) : ∀ (d k j : Nat) (i : Int), i = j → n - i = d → d < k →
    stevedoreref1_Number.l0 k l f n big (acc l f (fun j => if big = true then j else n - 1 - j) j) i = some (acc l f (fun j => if big = true then j else n - 1 - j) n.toNat, 0) := by
  intro d
  induction d with
  | zero =>
    intro k j i hi hd hk
    obtain ⟨k, rfl⟩ : ∃ m, k = m + 1 := ⟨k - 1, by omega⟩
    have q : ¬ i < n := by omega
    have e : n.toNat = j := by omega
    simp only [stevedoreref1_Number.l0, q, if_false, e]
  | succ d ih =>
    intro k j i hi hd hk
    obtain ⟨k, rfl⟩ : ∃ m, k = m + 1 := ⟨k - 1, by omega⟩
    subst hi
    have q : (j : Int) < n := by omega
    simp only [stevedoreref1_Number.l0, q, if_true]
    rw [wrap64_id (n := n - 1) (by omega) (by omega), wrap64_id (n := n - 1 - (j : Int)) (by omega) (by omega), wrap64_id (n := f + (j : Int)) (by omega) (by omega), wrap64_id (n := f + (n - 1 - (j : Int))) (by omega) (by omega), wrap64_id (n := (j : Int) + 1) (by omega) (by omega)]
    have q1 : 0 ≤ f + (j : Int) := by omega
    have q2 : f + (j : Int) < (l.length : Int) := by omega
    have q3 : 0 ≤ f + (n - 1 - (j : Int)) := by omega
    have q4 : f + (n - 1 - (j : Int)) < (l.length : Int) := by omega
    cases big with
    | true =>
      simp only [q1, q2, if_true]
      exact ih k (j + 1) _ (by omega) (by omega) (by omega)
    | false =>
      simp only [q3, q4, if_true, Bool.false_eq_true, if_false]
      exact ih k (j + 1) _ (by omega) (by omega) (by omega)

theorem number_eq (l : List Int) (f n : Int) (big : Bool) (hl : l.length ≤ 140737488355328) (hf : -9223372036854775808 ≤ f ∧ f < 9223372036854775808) (k : Nat) (hk : 20 < k) :
    stevedoreref1_Number.f k l f n big = some (rdNum l f n (fun j => if big = true then j else n - 1 - j)) := by
  obtain ⟨k, rfl⟩ : ∃ m, k = m + 2 := ⟨k - 2, by omega⟩
  unfold stevedoreref1_Number.f rdNum
  simp only [stevedoreref1_Number.j0, stevedoreref1_Number.j1]
  by_cases e1 : n < 1
  · have e : n < 1 ∨ 8 < n := .inl e1
    simp only [e1, if_true, true_or, or_true, false_or, or_false]
  · by_cases e2 : n > 8
    · have e : n < 1 ∨ 8 < n := .inr e2
      simp only [e1, e2, decide_true, if_true, if_false, true_or, or_true, false_or, or_false]
    · have e : ¬ (n < 1 ∨ 8 < n) := by omega
      simp only [e1, e2, decide_false, Bool.false_eq_true, if_false, true_or, or_true, false_or, or_false]
      by_cases e3 : f < 0
      · have e' : f < 0 ∨ (l.length : Int) < f ∨ (l.length : Int) ≤ f + n - 1 := .inl e3
        simp only [e3, if_true, true_or, or_true, false_or, or_false]
      · by_cases e4 : f > (l.length : Int)
        · have e' : f < 0 ∨ (l.length : Int) < f ∨ (l.length : Int) ≤ f + n - 1 := .inr (.inl e4)
          simp only [e3, e4, if_true, if_false, true_or, or_true, false_or, or_false]
        · rw [wrap64_id (n := (l.length : Int) - f) (by omega) (by omega)]
          by_cases e5 : n > (l.length : Int) - f
          · have e' : f < 0 ∨ (l.length : Int) < f ∨ (l.length : Int) ≤ f + n - 1 := .inr (.inr (by omega))
            have e6 : (l.length : Int) ≤ f + n - 1 := by omega
            simp only [e3, e4, e5, e6, decide_true, if_true, if_false, true_or, or_true, false_or, or_false]
          · have e' : ¬ (f < 0 ∨ (l.length : Int) < f ∨ (l.length : Int) ≤ f + n - 1) := by omega
            have e6 : ¬ (l.length : Int) ≤ f + n - 1 := by omega
            simp only [e3, e4, e5, e6, decide_false, Bool.false_eq_true, if_false, true_or, or_true, false_or, or_false]
            exact number_loop l f n big hl (by omega) (by omega) (by omega) n.toNat k 0 0 rfl (by omega) (by omega)

theorem little_eq (l : List Int) (f n : Int) (hl : l.length ≤ 140737488355328) : num_Little.f l f n = some (rdNum l f n (fun j => if false = true then j else n - 1 - j)) := by
  unfold num_Little.f; rw [if_pos hl]; rfl
theorem big_eq (l : List Int) (f n : Int) (hl : l.length ≤ 140737488355328) : num_Big.f l f n = some (rdNum l f n (fun j => if true = true then j else n - 1 - j)) := by
  unfold num_Big.f; rw [if_pos hl]; rfl
theorem str_append (a b : List Int) : strOfNums (a ++ b) = strOfNums a ++ strOfNums b := by
  apply WideShapes.bytes_inj
  simp [strOfNums]
end Go.Proofs.Ytfnicahlnpngkaa.FixedOfNum1
