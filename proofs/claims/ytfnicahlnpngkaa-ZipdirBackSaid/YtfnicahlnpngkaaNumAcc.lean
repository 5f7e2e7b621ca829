/- The plain law of numbers in bytes: lists of bytes by their index, what 'acc' makes of them. -/
import Derived.Test.YtfnicahlnpngkaaNumRead
set_option linter.unusedVariables false
set_option linter.unusedSimpArgs false
namespace Go.Proofs.Ytfnicahlnpngkaa.NumAcc
open Go.RowKit Go.Proofs.YtfnicahlnpngkaaW.PrintWords Go.Proofs.YtfnicahlnpngkaaW.PrintMore Go.Proofs.Ytfnicahlnpngkaa.Base Go.Proofs.Ytfnicahlnpngkaa.NumRead

/-- f i, f (i + 1), .., d of them. -/
def bs (f : Int → Int) : Int → Nat → List Int
  | _, 0 => []
  | i, d + 1 => f i :: bs f (i + 1) d
theorem bs_length (f : Int → Int) : ∀ (d : Nat) (i : Int), (bs f i d).length = d
  | 0, _ => rfl
  | d + 1, i => by simp [bs, bs_length f d]
theorem bs_getD (f : Int → Int) : ∀ (d j : Nat) (i : Int), j < d → (bs f i d).getD j 0 = f (i + j)
  | 0, _, _, h => by omega
  | d + 1, 0, i, _ => by simp [bs]
  | d + 1, j + 1, i, h => by
    simp only [bs, List.getD_cons_succ]
    rw [bs_getD f d j (i + 1) (by omega)]
    congr 1; omega
theorem bs_congr {f g : Int → Int} : ∀ (d : Nat) (i : Int), (∀ j : Nat, j < d → f (i + j) = g (i + j)) → bs f i d = bs g i d
  | 0, _, _ => rfl
  | d + 1, i, h => by
    have h1 : f i = g i := by have := h 0 (by omega); simpa using this
    have h2 : bs f (i + 1) d = bs g (i + 1) d := bs_congr d (i + 1) (fun j hj => by
      have := h (j + 1) (by omega)
      rw [show i + 1 + (j : Int) = i + ((j + 1 : Nat) : Int) by omega]
      exact this)
    simp only [bs, h1, h2]

/-- the i-th byte of a number, as the code reckons it. -/
def byteAt (v i : Int) : Int := shr .u64 v (IntKind.u64.wrap (wrap64 (8 * i))) % 256
theorem byteAt_eq (v : Int) (i : Nat) (hi : i ≤ 8) : byteAt v i = v / 256 ^ i % 256 := by
  unfold byteAt shr
  rw [wrap64_id (n := 8 * (i : Int)) (by omega) (by omega), wu64 (by omega) (by omega)]
  have h1 : (8 * (i : Int)).toNat = 8 * i := by omega
  have h2 : min (8 * i) (IntKind.bits .u64) = 8 * i := by show min (8 * i) 64 = 8 * i; omega
  rw [h1, h2]
  have h3 : (2 : Int) ^ (8 * i) = 256 ^ i := by rw [Int.pow_mul]; rfl
  rw [h3]
theorem byteAt_range (v i : Int) : 0 ≤ byteAt v i ∧ byteAt v i < 256 := by unfold byteAt; omega

theorem pow256_pos (i : Nat) : (0 : Int) < 256 ^ i := Int.pow_pos (by decide)
theorem pow256_le (i : Nat) (h : i ≤ 8) : (256 : Int) ^ i ≤ 18446744073709551616 := by
  have h1 : 256 ^ i ≤ 256 ^ 8 := Nat.pow_le_pow_right (by decide) h
  have h2 : ((256 ^ i : Nat) : Int) ≤ ((256 ^ 8 : Nat) : Int) := by exact_mod_cast h1
  simpa using h2
theorem pow256_le7 (i : Nat) (h : i ≤ 7) : (256 : Int) ^ i ≤ 72057594037927936 := by
  have h1 : 256 ^ i ≤ 256 ^ 7 := Nat.pow_le_pow_right (by decide) h
  have h2 : ((256 ^ i : Nat) : Int) ≤ ((256 ^ 7 : Nat) : Int) := by exact_mod_cast h1
  simpa using h2
theorem div_succ (v : Int) (i : Nat) : v / 256 ^ (i + 1) = v / 256 ^ i / 256 := by
  rw [Int.ediv_ediv_of_nonneg (Int.le_of_lt (pow256_pos i)), Int.pow_succ]
theorem mod_succ (u : Int) (j : Nat) : (u / 256) % 256 ^ j * 256 + u % 256 = u % 256 ^ (j + 1) := by
  have h1 : u % 256 ^ (j + 1) = u - 256 ^ (j + 1) * (u / 256 ^ (j + 1)) := by have := Int.mul_ediv_add_emod u (256 ^ (j + 1)); omega
  have h2 : (u / 256) % 256 ^ j = u / 256 - 256 ^ j * (u / 256 / 256 ^ j) := by have := Int.mul_ediv_add_emod (u / 256) (256 ^ j); omega
  have h3 : u / 256 / 256 ^ j = u / 256 ^ (j + 1) := by rw [Int.ediv_ediv_of_nonneg (by decide), Int.pow_succ, Int.mul_comm]
  rw [h1, h2, h3, Int.pow_succ]
  generalize u / (256 ^ j * 256) = q
  have h4 : 256 ^ j * 256 * q = 256 ^ j * q * 256 := by rw [Int.mul_assoc, Int.mul_comm 256 q, ← Int.mul_assoc]
  rw [h4]
  have := Int.mul_ediv_add_emod u 256
  generalize (256 : Int) ^ j * q = p
  omega

/-- bytes that are a number's, the highest first: what is read is the number. -/
theorem acc_val (l : List Int) (f : Int) (pl : Int → Int) (u : Int) (n : Nat) (hn : n ≤ 8) (h : ∀ j : Nat, j < n → rd l (f + pl j) = u / 256 ^ (n - 1 - j) % 256) :
    ∀ k : Nat, k ≤ n → acc l f pl k = u / 256 ^ (n - k) % 256 ^ k := by
  intro k
  induction k with
  | zero => intro _; simp [acc, Int.emod_one]
  | succ k ih =>
    intro hk
    have hi := ih (by omega)
    show Go.bits .or .u64 (IntKind.u64.wrap (acc l f pl k * 256)) (IntKind.u64.wrap (rd l (f + pl k))) = _
    rw [hi, h k (by omega)]
    have e1 : n - k = (n - 1 - k) + 1 := by omega
    have e2 : n - (k + 1) = n - 1 - k := by omega
    rw [e1, e2, div_succ]
    generalize u / 256 ^ (n - 1 - k) = x
    have hp := pow256_pos k
    have hp7 := pow256_le7 k (by omega)
    have hr0 : 0 ≤ x / 256 % 256 ^ k := Int.emod_nonneg _ (by omega)
    have hr1 : x / 256 % 256 ^ k < 256 ^ k := Int.emod_lt_of_pos _ hp
    rw [wu64 (n := x % 256) (by omega) (by omega), or8_u64 hr0 (by omega) (by omega) (by omega)]
    exact mod_succ x k
end Go.Proofs.Ytfnicahlnpngkaa.NumAcc
