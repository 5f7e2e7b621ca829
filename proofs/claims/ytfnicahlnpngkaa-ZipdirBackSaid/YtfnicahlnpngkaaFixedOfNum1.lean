/- Little, Big, PutLittle, PutBig: the program's printed functions and the document's answer alike. (Num1: the printed namespace) -/
import Derived.Test.YtfnicahlnpngkaaPNum1x
import Derived.Test.YtfnicahlnpngkaaNumAcc
set_option linter.unusedVariables false
set_option linter.unusedSimpArgs false
namespace Go.Proofs.Ytfnicahlnpngkaa.FixedOfNum1
open Go.RowKit Go.Proofs.Ytfnicahlnpngkaa.PNum1 Go.Proofs.YtfnicahlnpngkaaW.PrintWords Go.Proofs.YtfnicahlnpngkaaW.PrintMore Go.Proofs.Ytfnicahlnpngkaa.Base Go.Proofs.Ytfnicahlnpngkaa.NumRead Go.Proofs.Ytfnicahlnpngkaa.NumAcc

theorem putLittle_loop (v n : Int) (hn : n ≤ 8) : ∀ (d k : Nat) (i : Int) (a : List Int), 0 ≤ i → n - i = d → a.length + d < 140737488355328 → d < k →
    num_PutLittle.l0 k v a n i = some (a ++ bs (byteAt v) i d) := by
  intro d
  induction d with
  | zero =>
    intro k i a h0 hd ha hk
    obtain ⟨k, rfl⟩ : ∃ m, k = m + 1 := ⟨k - 1, by omega⟩
    have q : ¬ i < n := by omega
    simp only [num_PutLittle.l0, q, if_false, bs, List.append_nil]
  | succ d ih =>
    intro k i a h0 hd ha hk
    obtain ⟨k, rfl⟩ : ∃ m, k = m + 1 := ⟨k - 1, by omega⟩
    have q : i < n := by omega
    have q1 : a.length < 140737488355328 := by omega
    have q2 : 0 ≤ IntKind.u64.wrap (wrap64 (8 * i)) := by rw [wu64_eq]; omega
    simp only [num_PutLittle.l0, q, q1, q2, if_true]
    rw [wrap64_id (n := i + 1) (by omega) (by omega), ih k (i + 1) _ (by omega) (by omega) (by simp; omega) (by omega)]
    simp only [bs, byteAt, List.append_assoc, List.singleton_append]

theorem putBig_loop (v n : Int) (hn : n ≤ 8) : ∀ (d k : Nat) (i j : Int) (a : List Int), i = (d : Int) - 1 → j = n - d → (d : Int) ≤ n → a.length + d < 140737488355328 → d < k →
    num_PutBig.l0 k v a i = some (a ++ bs (fun j => byteAt v (n - 1 - j)) j d) := by
  intro d
  induction d with
  | zero =>
    intro k i j a hi hj hd ha hk
    obtain ⟨k, rfl⟩ : ∃ m, k = m + 1 := ⟨k - 1, by omega⟩
    have q : ¬ i ≥ 0 := by omega
    simp only [num_PutBig.l0, q, if_false, bs, List.append_nil]
  | succ d ih =>
    intro k i j a hi hj hd ha hk
    obtain ⟨k, rfl⟩ : ∃ m, k = m + 1 := ⟨k - 1, by omega⟩
    have q : i ≥ 0 := by omega
    have q1 : a.length < 140737488355328 := by omega
    have q2 : 0 ≤ IntKind.u64.wrap (wrap64 (8 * i)) := by rw [wu64_eq]; omega
    simp only [num_PutBig.l0, q, q1, q2, if_true]
    rw [wrap64_id (n := i - 1) (by omega) (by omega), ih k (i - 1) (j + 1) _ (by omega) (by omega) (by omega) (by simp; omega) (by omega)]
    have e : n - 1 - j = i := by omega
    simp only [bs, byteAt, List.append_assoc, List.singleton_append, e]

theorem putLittle_eq (l : List Int) (v n : Int) (hl : l.length ≤ 140737488000000) (k : Nat) (hk : 20 < k) :
    num_PutLittle.f k l v n = some (l ++ if n < 1 ∨ 8 < n then [] else bs (byteAt v) 0 n.toNat) := by
  obtain ⟨k, rfl⟩ : ∃ m, k = m + 1 := ⟨k - 1, by omega⟩
  unfold num_PutLittle.f
  have q : l.length < 140737488355328 := by omega
  simp only [Option.bind_some, List.length_nil, Nat.zero_add, q, if_true, List.nil_append, num_PutLittle.j0]
  by_cases e1 : n < 1
  · have e : n < 1 ∨ 8 < n := .inl e1
    simp only [e1, if_true, List.append_nil, true_or, or_true, false_or, or_false]
  · by_cases e2 : n > 8
    · have e : n < 1 ∨ 8 < n := .inr e2
      simp only [e1, e2, decide_true, if_true, if_false, List.append_nil, true_or, or_true, false_or, or_false]
    · have e : ¬ (n < 1 ∨ 8 < n) := by omega
      simp only [e1, e2, decide_false, Bool.false_eq_true, if_false, true_or, or_true, false_or, or_false]
      exact putLittle_loop v n (by omega) n.toNat k 0 l (by omega) (by omega) (by omega) (by omega)

theorem putBig_eq (l : List Int) (v n : Int) (hl : l.length ≤ 140737488000000) (hn : -9223372036854775808 ≤ n) (k : Nat) (hk : 20 < k) :
    num_PutBig.f k l v n = some (l ++ if n < 1 ∨ 8 < n then [] else bs (fun j => byteAt v (n - 1 - j)) 0 n.toNat) := by
  obtain ⟨k, rfl⟩ : ∃ m, k = m + 1 := ⟨k - 1, by omega⟩
  unfold num_PutBig.f
  have q : l.length < 140737488355328 := by omega
  simp only [Option.bind_some, List.length_nil, Nat.zero_add, q, if_true, List.nil_append, num_PutBig.j0]
  by_cases e1 : n < 1
  · have e : n < 1 ∨ 8 < n := .inl e1
    simp only [e1, if_true, List.append_nil, true_or, or_true, false_or, or_false]
  · by_cases e2 : n > 8
    · have e : n < 1 ∨ 8 < n := .inr e2
      simp only [e1, e2, decide_true, if_true, if_false, List.append_nil, true_or, or_true, false_or, or_false]
    · have e : ¬ (n < 1 ∨ 8 < n) := by omega
      simp only [e1, e2, decide_false, Bool.false_eq_true, if_false, true_or, or_true, false_or, or_false]
      rw [wrap64_id (n := n - 1) (by omega) (by omega)]
      exact putBig_loop v n (by omega) n.toNat k (n - 1) 0 l (by omega) (by omega) (by omega) (by omega) (by omega)
end Go.Proofs.Ytfnicahlnpngkaa.FixedOfNum1
