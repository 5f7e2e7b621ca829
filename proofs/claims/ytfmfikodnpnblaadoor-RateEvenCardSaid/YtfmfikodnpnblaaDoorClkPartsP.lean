/- clock.parts: what it reckons, in plain Lean: digits doubled nine times. -/
import Derived.RowKit
namespace Go.Proofs.YtfmfikodnpnblaaDoor.ClkPartsP

/-- The number that digits write. -/
def val : List Nat → Nat
  | [] => 0
  | d :: l => d * 10 ^ l.length + val l
/-- Twice the digits, and what is carried out ahead. -/
def twice : List Nat → List Nat × Nat
  | [] => ([], 0)
  | d :: l => ((2 * d + (twice l).2) % 10 :: (twice l).1, (2 * d + (twice l).2) / 10)
def rounds : Nat → List Nat → Nat → List Nat × Nat
  | 0, l, n => (l, n)
  | k + 1, l, n => rounds k (twice l).1 (n * 2 + (twice l).2)

theorem twice_length : ∀ l, (twice l).1.length = l.length
  | [] => rfl
  | d :: l => by simp [twice, twice_length l]
theorem twice_carry : ∀ l, (∀ d ∈ l, d < 10) → (twice l).2 ≤ 1
  | [], _ => by simp [twice]
  | d :: l, h => by
    have h1 := twice_carry l (fun x hx => h x (List.mem_cons_of_mem _ hx))
    have h2 := h d (List.mem_cons_self ..)
    simp only [twice]
    omega
theorem twice_digits : ∀ l, ∀ d ∈ (twice l).1, d < 10
  | [], d, h => by simp [twice] at h
  | e :: l, d, h => by
    simp only [twice, List.mem_cons] at h
    rcases h with rfl | h
    · exact Nat.mod_lt _ (by decide)
    · exact twice_digits l d h
theorem twice_val : ∀ l, (twice l).2 * 10 ^ l.length + val (twice l).1 = 2 * val l
  | [] => by simp [twice, val]
  | d :: l => by
    have ih := twice_val l
    simp only [twice, val, twice_length, List.length_cons, Nat.pow_succ]
    generalize (twice l).2 = c at *
    generalize val (twice l).1 = v at *
    generalize 10 ^ l.length = p at *
    have hd := Nat.div_add_mod (2 * d + c) 10
    generalize (2 * d + c) / 10 = q at *
    generalize (2 * d + c) % 10 = r at *
    have e1 : q * (p * 10) + (r * p + v) = (10 * q + r) * p + v := by
      rw [Nat.add_mul, ← Nat.add_assoc]; congr 2; rw [Nat.mul_comm p 10, ← Nat.mul_assoc, Nat.mul_comm q 10]
    rw [e1, hd, Nat.add_mul, Nat.add_assoc, ih, Nat.mul_add, Nat.mul_assoc]
theorem rounds_length : ∀ k l n, (rounds k l n).1.length = l.length
  | 0, _, _ => rfl
  | k + 1, l, n => by rw [rounds, rounds_length k, twice_length]
theorem rounds_digits : ∀ k l n, (∀ d ∈ l, d < 10) → ∀ d ∈ (rounds k l n).1, d < 10
  | 0, _, _, h => h
  | k + 1, l, _, _ => rounds_digits k _ _ (twice_digits l)
theorem rounds_val : ∀ k l n, (rounds k l n).2 * 10 ^ l.length + val (rounds k l n).1 = 2 ^ k * (n * 10 ^ l.length + val l)
  | 0, l, n => by simp [rounds]
  | k + 1, l, n => by
    have h := rounds_val k (twice l).1 (n * 2 + (twice l).2)
    have ht := twice_val l
    rw [twice_length] at h
    rw [rounds, h, Nat.pow_succ, Nat.mul_assoc]
    congr 1
    generalize 10 ^ l.length = p at *
    rw [Nat.add_mul, Nat.mul_add, Nat.add_assoc, ht, Nat.mul_comm n 2, Nat.mul_assoc]
theorem val_lt : ∀ l, (∀ d ∈ l, d < 10) → val l < 10 ^ l.length
  | [], _ => by simp [val]
  | d :: l, h => by
    have h1 := val_lt l (fun x hx => h x (List.mem_cons_of_mem _ hx))
    have h2 := h d (List.mem_cons_self ..)
    simp only [val, List.length_cons, Nat.pow_succ]
    generalize 10 ^ l.length = p at *
    have : d * p ≤ 9 * p := Nat.mul_le_mul_right _ (by omega)
    omega
/-- What parts answers first: 512 times the fraction, cut down. -/
theorem rounds_nine (l : List Nat) (h : ∀ d ∈ l, d < 10) : (rounds 9 l 0).2 = 512 * val l / 10 ^ l.length ∧ val (rounds 9 l 0).1 = 512 * val l % 10 ^ l.length := by
  have h1 := rounds_val 9 l 0
  have h2 := val_lt _ (rounds_digits 9 l 0 h)
  rw [rounds_length] at h2
  simp only [Nat.zero_mul, Nat.zero_add, (by decide : (2 : Nat) ^ 9 = 512)] at h1
  have hp : 0 < 10 ^ l.length := Nat.pow_pos (by decide)
  generalize 10 ^ l.length = p at *
  rw [← h1]
  constructor
  · rw [Nat.mul_comm, Nat.mul_add_div hp, Nat.div_eq_of_lt h2]; rfl
  · rw [Nat.mul_comm, Nat.mul_add_mod, Nat.mod_eq_of_lt h2]
theorem val_zero : ∀ l, val l = 0 ↔ ∀ d ∈ l, d = 0
  | [] => by simp [val]
  | d :: l => by
    have hp : 0 < 10 ^ l.length := Nat.pow_pos (by decide)
    have ih := val_zero l
    simp only [val, Nat.add_eq_zero_iff, Nat.mul_eq_zero, List.forall_mem_cons, ih]
    constructor
    · rintro ⟨h | h, h'⟩
      · exact ⟨h, h'⟩
      · omega
    · rintro ⟨h, h'⟩
      exact ⟨.inl h, h'⟩
end Go.Proofs.YtfmfikodnpnblaaDoor.ClkPartsP
