/- What the printed functions on times come to: whole numbers. -/
import Derived.Test.YtfmfikodnpnblaaDoorClkDays
import Derived.Test.YtfmfikodnpnblaaDoorFltClk
set_option linter.unusedVariables false
set_option linter.unusedSimpArgs false
namespace Go.Proofs.YtfmfikodnpnblaaDoor.ClkFloat
open Go.RowKit Go.Proofs Go.Proofs.YtfmfikodnpnblaaDoorW.PrintWords Go.Proofs.YtfmfikodnpnblaaDoor.PClk1 Go.Proofs.YtfmfikodnpnblaaDoor.ClkDate Go.Proofs.YtfmfikodnpnblaaDoor.ClkLib Go.Proofs.YtfmfikodnpnblaaDoor.ClkDays Go.Proofs.YtfmfikodnpnblaaDoor.Flt Go.Proofs.YtfmfikodnpnblaaDoor.FltClk

/-! ### words and their order -/
theorem key_lit {x : Nat} (n : Int) (h : n.natAbs < 9007199254740992) (e : floatOfInt .f64 n = x) : key x = some (n * U) := by
  rw [← e]; exact key_ofInt n h
theorem key_zero : key 0 = some 0 := by rw [key_lit 0 (by decide) (by decide +kernel), Int.zero_mul]
theorem key_one : key 4607182418800017408 = some U := by rw [key_lit 1 (by decide) (by decide +kernel), Int.one_mul]
theorem key_33 : key 4755801206503243776 = some (8589934592 * U) := key_lit _ (by decide) (by decide +kernel)
theorem key_n33 : key 13979173243358019584 = some (-(8589934592 * U)) := by rw [key_lit (-8589934592) (by decide) (by decide +kernel), Int.neg_mul]
theorem key_32 : key 4751297606873776128 = some (4294967295 * U) := key_lit _ (by decide) (by decide +kernel)
theorem key_first : key 4734073370679705600 = some (315532800 * U) := key_lit _ (by decide) (by decide +kernel)
theorem key_last : key 4751360366145961984 = some (4354819200 * U) := key_lit _ (by decide) (by decide +kernel)
theorem lit_512 : (4647714815446351872 : Nat) = w512 := by decide +kernel
theorem f64f : FloatKind.f64.format = Ieee.double := rfl

section
variable {x y : Nat} {a b : Int}
theorem ord_lt (hx : key x = some a) (hy : key y = some b) : (FloatKind.f64.format.order x y == some .lt) = decide (a < b) := by
  rw [f64f, order_key hx hy]
  rcases Int.lt_trichotomy a b with h | h | h
  · rw [cmp_lt h, decide_eq_true h]; rfl
  · rw [cmp_eq h, decide_eq_false (by omega)]; rfl
  · rw [cmp_gt h, decide_eq_false (by omega)]; rfl
theorem ord_eq (hx : key x = some a) (hy : key y = some b) : (FloatKind.f64.format.order x y == some .eq) = decide (a = b) := by
  rw [f64f, order_key hx hy]
  rcases Int.lt_trichotomy a b with h | h | h
  · rw [cmp_lt h, decide_eq_false (by omega)]; rfl
  · rw [cmp_eq h, decide_eq_true h]; rfl
  · rw [cmp_gt h, decide_eq_false (by omega)]; rfl
theorem ord_gt (hx : key x = some a) (hy : key y = some b) : (FloatKind.f64.format.order x y == some .gt) = decide (b < a) := by
  rw [f64f, order_key hx hy]
  rcases Int.lt_trichotomy a b with h | h | h
  · rw [cmp_lt h, decide_eq_false (by omega)]; rfl
  · rw [cmp_eq h, decide_eq_false (by omega)]; rfl
  · rw [cmp_gt h, decide_eq_true h]; rfl
theorem ord_ne (hx : key x = some a) (hy : key y = some b) : (FloatKind.f64.format.order x y != some .eq) = decide (a ≠ b) := by
  show (!(FloatKind.f64.format.order x y == some .eq)) = _
  rw [ord_eq hx hy]
  by_cases h : a = b <;> simp [h]
theorem ord_le (hx : key x = some a) (hy : key y = some b) : (FloatKind.f64.format.order x y == some .lt || FloatKind.f64.format.order x y == some .eq) = decide (a ≤ b) := by
  rw [ord_lt hx hy, ord_eq hx hy]
  by_cases h : a < b
  · rw [decide_eq_true h, decide_eq_true (show a ≤ b by omega)]; rfl
  · rw [decide_eq_false h]
    by_cases h' : a = b
    · rw [decide_eq_true h', decide_eq_true (show a ≤ b by omega)]; rfl
    · rw [decide_eq_false h', decide_eq_false (show ¬ a ≤ b by omega)]; rfl
theorem ord_ge (hx : key x = some a) (hy : key y = some b) : (FloatKind.f64.format.order x y == some .gt || FloatKind.f64.format.order x y == some .eq) = decide (b ≤ a) := by
  rw [ord_gt hx hy, ord_eq hx hy]
  by_cases h : b < a
  · rw [decide_eq_true h, decide_eq_true (show b ≤ a by omega)]; rfl
  · rw [decide_eq_false h]
    by_cases h' : a = b
    · rw [decide_eq_true h', decide_eq_true (show b ≤ a by omega)]; rfl
    · rw [decide_eq_false h', decide_eq_false (show ¬ b ≤ a by omega)]; rfl
theorem ord_none (h : key x = none) (y : Nat) : FloatKind.f64.format.order x y = none := order_nan (.inl h)
theorem ord_none' (h : key y = none) (x : Nat) : FloatKind.f64.format.order x y = none := order_nan (.inr h)
theorem nan_ne (h : key x = none) : (FloatKind.f64.format.order x x != some .eq) = true := by rw [ord_none h]; rfl
theorem not_nan (h : key x = some a) : (FloatKind.f64.format.order x x != some .eq) = false := by rw [ord_ne h h]; simp
theorem floor_f (h : key x = some a) : math_Floor.f x = some (floorBits x) := by
  unfold math_Floor.f
  rw [if_neg]
  unfold key keyD at h
  intro hn
  cases e : Ieee.double.read x <;> rw [e] at h hn <;> first | (cases h; done) | (cases hn; done)
theorem fint_key (h : key x = some (a * U)) (ha : a.natAbs < 9007199254740992) : fintOk x = true ∧ fint x = a := by
  refine fint_of ?_
  have hU := U_pos
  have e : (a * U).tdiv U = a := Int.mul_tdiv_cancel _ (by omega)
  rw [int_key h (int_small ha) (by rw [e]; omega) (by rw [e]; omega), e]
end

/-! ### parts of 512 -/
def parts (x : Nat) : Int := match key x with | none => 0 | some a => partsOf a
theorem parts_bound (x : Nat) : -4398046511104 ≤ parts x ∧ parts x ≤ 4398046511104 := by
  unfold parts
  split
  · omega
  · exact partsOf_bound _
theorem edge_v : 8589934592 * U = 4398046511104 * V := by rw [U_V]; omega
/-- a word that counts n parts of 512; nought is the one without a sign. -/
def Is512 (r : Nat) (n : Int) : Prop := key r = some (n * V) ∧ (n = 0 → r = 0)
theorem Fine_eq (x : Nat) : ∃ r, clock_Fine.f x = some r ∧ Is512 r (parts x) := by
  unfold clock_Fine.f parts
  cases hk : key x with
  | none =>
    rw [if_pos (nan_ne hk)]
    exact ⟨0, rfl, by rw [key_zero]; simp, fun _ => rfl⟩
  | some a =>
    have hV := V_pos
    have hU := U_pos
    rw [if_neg (by rw [not_nan hk]; decide), ord_lt hk key_n33, ord_gt hk key_33]
    dsimp only
    by_cases h1 : a < -(8589934592 * U)
    · rw [if_pos (decide_eq_true h1)]
      refine ⟨_, rfl, ?_⟩
      unfold partsOf
      rw [if_pos h1]
      exact ⟨by rw [key_n33, edge_v, Int.neg_mul], fun h => absurd h (by decide)⟩
    · rw [if_neg (by rw [decide_eq_false h1]; decide)]
      by_cases h2 : 8589934592 * U < a
      · rw [if_pos (decide_eq_true h2)]
        refine ⟨_, rfl, ?_⟩
        unfold partsOf
        rw [if_neg h1, if_pos h2]
        exact ⟨by rw [key_33, edge_v], fun h => absurd h (by decide)⟩
      · rw [if_neg (by rw [decide_eq_false h2]; decide)]
        obtain ⟨m, hm, hmk, q, hq, hqk⟩ := fine_key hk (by omega) (by omega)
        have hm' := fop_of (op := .mul) hm
        have hq' := fop_of (op := .quo) hq
        rw [lit_512, if_pos hm'.1, hm'.2, floor_f hmk, Option.bind_some, if_pos hq'.1, hq'.2, ord_ne hqk key_zero]
        have e : partsOf a = a * 512 / U := by unfold partsOf; rw [if_neg h1, if_neg h2]
        rw [e]
        by_cases h3 : a * 512 / U = 0
        · rw [if_neg (by rw [h3]; simp)]
          exact ⟨0, rfl, by rw [key_zero, h3]; simp, fun _ => rfl⟩
        · have h4 : a * 512 / U * V ≠ 0 := Int.mul_ne_zero h3 (by omega)
          rw [if_pos (decide_eq_true h4)]
          exact ⟨q, rfl, hqk, fun h => absurd h h3⟩
theorem whole_eq {x : Nat} {a : Int} (hx : key x = some a) (hb : a.natAbs < Flt.p2 1250) (h0 : -9007199254740991 ≤ a / U) (h1 : a / U ≤ 9007199254740990) : stevedoreref4_whole.f x = some (a / U) := by
  obtain ⟨n, hn, hnk, hna, hc⟩ := whole_key hx hb h0 h1
  have hn' := fint_of hn
  unfold stevedoreref4_whole.f
  rw [if_pos hn'.1, hn'.2, ord_gt hnk hx]
  rcases hc with ⟨h2, h3⟩ | ⟨h2, h3⟩
  · rw [if_pos (decide_eq_true (by omega)), w64 (by omega), h3]
  · rw [if_neg (by rw [decide_eq_false (by omega)]; decide), h3]
theorem Parts_eq (x : Nat) : stevedoreref4_Parts.f x = some (parts x) := by
  unfold stevedoreref4_Parts.f parts
  cases hk : key x with
  | none => rw [if_pos (nan_ne hk)]
  | some a =>
    have hV := V_pos
    have hU := U_pos
    rw [if_neg (by rw [not_nan hk]; decide), ord_le hk key_n33, ord_ge hk key_33]
    dsimp only
    have em : (-(8589934592 * U)) * 512 / U = -4398046511104 := by
      rw [show (-(8589934592 * U)) * 512 = -4398046511104 * U by omega]
      exact Int.mul_ediv_cancel _ (by omega)
    have ep : 8589934592 * U * 512 / U = 4398046511104 := by
      rw [show 8589934592 * U * 512 = 4398046511104 * U by omega]
      exact Int.mul_ediv_cancel _ (by omega)
    unfold partsOf
    by_cases h1 : a ≤ -(8589934592 * U)
    · rw [if_pos (decide_eq_true h1)]
      by_cases h1' : a < -(8589934592 * U)
      · rw [if_pos h1']
      · rw [if_neg h1', if_neg (by omega), show a = -(8589934592 * U) by omega, em]
    · rw [if_neg (by rw [decide_eq_false h1]; decide), if_neg (show ¬ a < -(8589934592 * U) by omega)]
      by_cases h2 : 8589934592 * U ≤ a
      · rw [if_pos (decide_eq_true h2)]
        by_cases h2' : 8589934592 * U < a
        · rw [if_pos h2']
        · rw [if_neg h2', show a = 8589934592 * U by omega, ep]
      · rw [if_neg (by rw [decide_eq_false h2]; decide), if_neg (show ¬ 8589934592 * U < a by omega)]
        have hs := abs_small (a := a) (by omega) (by omega)
        obtain ⟨m, hm, hmk⟩ := key_mul512 hk hs
        have hm' := fop_of (op := .mul) hm
        obtain ⟨g0, g1⟩ := ediv_bound (a := a) (by omega) (by omega)
        have hb : (a * 512).natAbs < Flt.p2 1250 := by
          have h3 : a.natAbs * 512 < Flt.p2 1200 * Flt.p2 9 := by rw [show Flt.p2 9 = 512 by rw [← p2_is]]; omega
          rw [← p2_add] at h3
          rw [Int.natAbs_mul]
          exact Nat.lt_trans h3 (p2_lt (by omega))
        rw [lit_512, if_pos hm'.1, hm'.2, whole_eq hmk hb (by omega) (by omega), Option.bind_some]
theorem int512 (n : Int) (hn : n.natAbs < 9007199254740992) : ∃ r, fvalid .quo (floatOfInt .f64 n) w512 = true ∧ fop .quo (floatOfInt .f64 n) w512 = r ∧ Is512 r n := by
  obtain ⟨q, hq, hqk⟩ := div512_of (key_ofInt n hn) hn
  have hq' := fop_of (op := .quo) hq
  refine ⟨q, hq'.1, hq'.2, hqk, fun h => ?_⟩
  subst h
  rw [← hq'.2]
  decide +kernel
theorem refFine_eq (x : Nat) : ∃ r, stevedoreref4_Fine.f x = some r ∧ Is512 r (parts x) := by
  have hb := parts_bound x
  obtain ⟨r, h1, h2, h3⟩ := int512 (parts x) (by omega)
  unfold stevedoreref4_Fine.f
  rw [Parts_eq, Option.bind_some, lit_512, if_pos h1, h2]
  exact ⟨r, rfl, h3⟩
theorem same_eq {r s : Nat} {n : Int} (hr : Is512 r n) (hs : Is512 s n) : stevedorelaw4_same.f r s = some true := by
  by_cases h : n = 0
  · rw [hr.2 h, hs.2 h]
    decide +kernel
  · have hV := V_pos
    have h1 : n * V ≠ 0 := Int.mul_ne_zero h (by omega)
    unfold stevedorelaw4_same.f
    rw [if_neg (by rw [not_nan hr.1]; decide), ord_eq hr.1 hs.1, if_pos (decide_eq_true rfl), ord_ne hr.1 key_zero, if_pos (decide_eq_true h1)]
/-- the same of words with the same key. -/
theorem same_key {r s : Nat} {a : Int} (hr : key r = some a) (hs : key s = some a) (h0 : a = 0 → r = 0 ∧ s = 0) : stevedorelaw4_same.f r s = some true := by
  by_cases h : a = 0
  · rw [(h0 h).1, (h0 h).2]
    decide +kernel
  · unfold stevedorelaw4_same.f
    rw [if_neg (by rw [not_nan hr]; decide), ord_eq hr hs, if_pos (decide_eq_true rfl), ord_ne hr key_zero, if_pos (decide_eq_true h)]
theorem same_nan {r s : Nat} (hr : key r = none) (hs : key s = none) : stevedorelaw4_same.f r s = some true := by
  unfold stevedorelaw4_same.f
  rw [if_pos (nan_ne hr), if_pos (nan_ne hs)]

/-! ### seconds -/
def unixOf (x : Nat) : Int := match key x with | none => 0 | some a => clampTo 0 4294967295 4294967295 a
theorem floor_sec {x : Nat} {a : Int} (hk : key x = some a) (h0 : 0 ≤ a) (h1 : a < 4398046511104 * U) : key (floorBits x) = some (a / U * U) ∧ fintOk (floorBits x) = true ∧ fint (floorBits x) = a / U := by
  have hU := U_pos
  have hb : a.natAbs < Flt.p2 2150 := by
    refine Nat.lt_trans ?_ (int_small (n := 4398046511104) (by decide))
    omega
  have h2 : 0 ≤ a / U := Int.ediv_nonneg h0 (by omega)
  have h3 : a / U < 4398046511104 := (Int.ediv_lt_iff_lt_mul hU).2 h1
  have hf := key_floor hk hb
  exact ⟨hf, fint_key hf (by omega)⟩
theorem Unix_eq (k x : Nat) (hk0 : 1 ≤ k) : clock_Unix.f k x = some (unixOf x) := by
  obtain ⟨k, rfl⟩ : ∃ j, k = j + 1 := ⟨k - 1, by omega⟩
  have hU := U_pos
  unfold clock_Unix.f unixOf
  cases hk : key x with
  | none => rw [if_pos (nan_ne hk)]; rfl
  | some a =>
    rw [if_neg (by rw [not_nan hk]; decide), ord_lt hk key_zero, clock_Unix.j0, ord_ge hk key_32]
    dsimp only
    unfold clampTo
    rw [Int.zero_mul]
    by_cases h1 : a < 0
    · rw [if_pos (decide_eq_true h1), if_pos h1]
    · rw [if_neg (by rw [decide_eq_false h1]; decide), if_neg h1]
      by_cases h2 : 4294967295 * U ≤ a
      · rw [if_pos (decide_eq_true h2), if_pos h2]
      · obtain ⟨g1, g2, g3⟩ := floor_sec hk (by omega) (by omega)
        rw [if_neg (by rw [decide_eq_false h2]; decide), if_neg h2, floor_f hk, Option.bind_some, if_pos g2, g3]
end Go.Proofs.YtfmfikodnpnblaaDoor.ClkFloat
