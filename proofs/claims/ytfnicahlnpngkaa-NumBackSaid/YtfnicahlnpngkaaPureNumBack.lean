/- NumBack: what the program put of a number (octal or base 256, eight digits to the base 16, bytes lowest or highest first) it reads back, for every number and size of a field. No condition. -/
import Derived.Test.YtfnicahlnpngkaaPNumBackx5
import Derived.Test.YtfnicahlnpngkaaHexBackOfNumBack
set_option linter.unusedSimpArgs false
namespace Go.Proofs.Ytfnicahlnpngkaa.Pure
open Go.RowKit Go.Proofs.Ytfnicahlnpngkaa.PNumBack Go.Proofs.YtfnicahlnpngkaaW.PrintWords Go.Proofs.YtfnicahlnpngkaaW.PrintLast Go.Proofs.YtfnicahlnpngkaaW.PrintMore
open Go.Proofs.Ytfnicahlnpngkaa.Base Go.Proofs.Ytfnicahlnpngkaa.NumRead Go.Proofs.Ytfnicahlnpngkaa.NumAcc Go.Proofs.Ytfnicahlnpngkaa.FixedOfNumBack Go.Proofs.Ytfnicahlnpngkaa.BackOfNumBack Go.Proofs.Ytfnicahlnpngkaa.HexBackOfNumBack

theorem told_NumBack : stevedorelaw3_told.f 100 = some true := by decide +kernel
theorem told_NumBack_k (k : Nat) (hk : 100 ≤ k) : stevedorelaw3_told.f k = some true := at_rounds (g := fun k => stevedorelaw3_told.f k) (fun k => stevedorelaw3_told.mono k) hk told_NumBack

theorem mask_eq (u : Int) (h0 : 0 ≤ u) (h1 : u < 18446744073709551616) (j : Nat) (hj : j < 8) :
    Go.bits .and .u64 u (IntKind.u64.wrap (shl .u64 1 (IntKind.u64.wrap (wrap64 (8 * (j : Int)))) - 1)) = u % 256 ^ j := by
  rw [wrap64_id (n := 8 * (j : Int)) (by omega) (by omega), wu64 (n := 8 * (j : Int)) (by omega) (by omega)]
  unfold shl
  have e1 : (8 * (j : Int)).toNat = 8 * j := by omega
  have e2 : min (8 * j) (IntKind.bits .u64) = 8 * j := by show min (8 * j) 64 = 8 * j; omega
  rw [e1, e2, Int.one_mul]
  have hp : (2 : Int) ^ (8 * j) = 256 ^ j := by rw [Int.pow_mul]; rfl
  have hl : (256 : Int) ^ j ≤ 72057594037927936 := pow256_le7 j (by omega)
  have hq := pow256_pos j
  rw [wu64 (n := 2 ^ (8 * j)) (by omega) (by omega), wu64 (n := 2 ^ (8 * j) - 1) (by omega) (by omega)]
  rw [and_u64 (8 * j) (by omega) rfl h0 h1, hp]

theorem back_loop (v n u e g : Int) (h0 : 0 ≤ u) (h1 : u < 18446744073709551616) (he : e = 0 ∨ n < 2 ∨ n > 32 ∨ v < 0 ∨ v > 4611686018427387904 ∨ n < 9) (hg : (g == 0) = decide (0 ≤ v ∧ v < 4294967296)) :
    ∀ (d k j : Nat), j + d = 9 → 1 ≤ j → 2 * d + 120 < k → stevedorelaw3_NumBack.l0 k v n u e g j = some true := by
  intro d
  induction d with
  | zero =>
    intro k j hd hj hk
    obtain ⟨k, rfl⟩ : ∃ m, k = m + 1 := ⟨k - 1, by omega⟩
    have q : ¬ (j : Int) ≤ 8 := by omega
    have hfin : (if v ≥ 0 then some ((g == 0) == decide (v < 4294967296)) else some ((g == 0) == false)) = some true := by
      rw [hg]
      by_cases a : v ≥ 0
      · rw [if_pos a]
        by_cases b : v < 4294967296
        · rw [decide_eq_true (show 0 ≤ v ∧ v < 4294967296 from ⟨a, b⟩), decide_eq_true b]; rfl
        · rw [decide_eq_false (show ¬ (0 ≤ v ∧ v < 4294967296) by omega), decide_eq_false b]; rfl
      · rw [if_neg a, decide_eq_false (show ¬ (0 ≤ v ∧ v < 4294967296) by omega)]; rfl
    simp only [stevedorelaw3_NumBack.l0, q, if_false, told_NumBack_k k (by omega), Option.bind_some, if_true]
    simp only [hfin]
    rcases he with h | h | h | h | h | h <;> simp only [h, if_true, ite_self]
  | succ d ih =>
    intro k j hd hj hk
    obtain ⟨k, rfl⟩ : ∃ m, k = m + 2 := ⟨k - 2, by omega⟩
    have q : (j : Int) ≤ 8 := by omega
    have q2 : 0 ≤ IntKind.u64.wrap (wrap64 (8 * (j : Int))) := by rw [wu64_eq]; omega
    have hstep : stevedorelaw3_NumBack.j3 (k + 1) v n u e g j (u % 256 ^ j) = some true := by
      simp only [stevedorelaw3_NumBack.j3]
      rw [putLittle_eq [] u j (by simp) k (by omega), putBig_eq [9] u j (by simp) (by omega) k (by omega), if_neg (by omega), if_neg (by omega), Int.toNat_natCast]
      simp only [Option.bind_some, List.nil_append]
      rw [little_back u j hj (by omega), big_back u j hj (by omega) 9]
      simp only [Option.bind_some, if_true]
      rw [wrap64_id (n := (j : Int) + 1) (by omega) (by omega)]
      have := ih k (j + 1) (by omega) (by omega) (by omega)
      simpa using this
    rw [stevedorelaw3_NumBack.l0]
    simp only [q, if_true]
    by_cases e8 : (j : Int) < 8
    · simp only [e8, q2, if_true]
      rw [mask_eq u h0 h1 j (by omega)]
      exact hstep
    · simp only [e8, if_false]
      have : j = 8 := by omega
      subst this
      have h8 : u % 256 ^ 8 = u := Int.emod_eq_of_lt h0 (by have : (256 : Int) ^ 8 = 18446744073709551616 := by decide
                                                            omega)
      rw [h8] at hstep
      exact hstep

theorem NumBack : stevedorelaw3_NumBack.Pure := by
  intro v n u hv hn hu
  have hv' := wf_i64 hv
  have hn' := wf_i64 hn
  have hu' := wf_u64 hu
  refine ⟨402, ?_⟩
  unfold stevedorelaw3_NumBack.f
  obtain ⟨r, hr, hp1, hp2⟩ := putOctal_post v n hn' 402 (by omega)
  have hj0 : (r.2 = 0 ∨ n < 2 ∨ n > 32 ∨ v < 0 ∨ v > 4611686018427387904 ∨ n < 9) → stevedorelaw3_NumBack.j0 402 v n u r.2 = some true := by
    intro he
    simp only [stevedorelaw3_NumBack.j0]
    obtain ⟨q, hq, hc⟩ := putHex_back v hv' 401 (by omega)
    rw [hq]
    simp only [Option.bind_some, stevedorelaw3_NumBack.j1]
    rcases hc with ⟨hc0, hc1, hc2, hc3⟩ | ⟨hc0, hc1⟩
    · simp only [hc0, if_true]
      rw [hc3 401 (by omega)]
      simp only [Option.bind_some, if_true]
      exact back_loop v n u r.2 0 hu'.1 hu'.2 he (by rw [decide_eq_true (show 0 ≤ v ∧ v < 4294967296 from ⟨hc1, hc2⟩)]; rfl) 8 400 1 (by omega) (by omega) (by omega)
    · have : ¬ q.2 = 0 := by omega
      simp only [this, if_false]
      rw [hc0]
      exact back_loop v n u r.2 7 hu'.1 hu'.2 he (by rw [decide_eq_false hc1]; rfl) 8 400 1 (by omega) (by omega) (by omega)
  rw [hr]
  simp only [Option.bind_some]
  by_cases e : r.2 = 0
  · obtain ⟨hn2, hn32, hv0, hvm, l, hl, hf⟩ := hp1 e
    obtain ⟨m, rfl⟩ := Int.eq_ofNat_of_zero_le (show 0 ≤ n by omega)
    rw [Int.toNat_natCast] at hf
    obtain ⟨ho, hs⟩ := octal_back v m l hv0 hvm (by omega) (by omega) hf 402 (by omega)
    have hss : (r.1.size : Int) = (m : Int) := by rw [hl, hs]
    rw [← hl] at ho
    have := hj0 (.inl e)
    rw [e] at this
    simp only [e, if_true, ho, Option.bind_some, hss]
    exact this
  · simp only [e, if_false]
    exact hj0 (.inr (hp2 e))

end Go.Proofs.Ytfnicahlnpngkaa.Pure
