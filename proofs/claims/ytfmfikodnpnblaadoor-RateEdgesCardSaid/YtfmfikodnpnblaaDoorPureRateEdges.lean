/- RateEdges, plainly: no mean of none; a mean of like numbers; ratios by nought; Bits of one symbol. No program here. -/
import Derived.Test.YtfmfikodnpnblaaDoorPRateEdgesx
import Derived.Test.YtfmfikodnpnblaaDoorRateEqP
import Derived.Test.YtfmfikodnpnblaaDoorFltWhole
set_option linter.unusedVariables false
set_option linter.unusedSimpArgs false
namespace Go.Proofs.YtfmfikodnpnblaaDoor.PureRateEdges
open Ieee Go.RowKit Go.Proofs.YtfmfikodnpnblaaDoorW.PrintWords Go.Proofs.YtfmfikodnpnblaaDoorW.PrintMore Go.Proofs.YtfmfikodnpnblaaDoor.Base Go.Proofs.YtfmfikodnpnblaaDoor.Flt Go.Proofs.YtfmfikodnpnblaaDoor.FltClk Go.Proofs.YtfmfikodnpnblaaDoor.FltInj Go.Proofs.YtfmfikodnpnblaaDoor.FltOk Go.Proofs.YtfmfikodnpnblaaDoor.FltWhole Go.Proofs.YtfmfikodnpnblaaDoor.RateNan Go.Proofs.YtfmfikodnpnblaaDoor.RateNanS Go.Proofs.YtfmfikodnpnblaaDoor.RateEq Go.Proofs.YtfmfikodnpnblaaDoor.RateTold
open PRateEdges (stevedorelaw36_RateEdges.l0 stevedorelaw36_RateEdges.j1 stevedorelaw36_RateEdges.f)
open PRate1 (rate_Mean.f rate_Spread.f rate_Bits.f)
theorem and_below (x : Int) (m : Nat) (hm : m < 9223372036854775808) : 0 ≤ Go.bits .and .i64 x m ∧ Go.bits .and .i64 x m ≤ m := by
  have h : Go.bits .and .i64 x m = wrap64 (((BitVec.ofInt 64 x &&& BitVec.ofInt 64 (m : Int)).toNat : Nat) : Int) := wi64 _
  have e : (BitVec.ofInt 64 (m : Int)).toNat = m := by rw [BitVec.ofInt_natCast, BitVec.toNat_ofNat]; exact Nat.mod_eq_of_lt (by omega)
  have hle : (BitVec.ofInt 64 x &&& BitVec.ofInt 64 (m : Int)).toNat ≤ m := by
    rw [BitVec.toNat_and, e]; exact Nat.and_le_right
  rw [h]
  generalize (BitVec.ofInt 64 x &&& BitVec.ofInt 64 (m : Int)).toNat = r at hle
  rw [wrap64_id (by omega) (by omega)]
  omega
def inf : Nat := 9218868437227405312
def ninf : Nat := 18442240474082181120
def bad3 : List Nat := [qnan, inf, ninf]
def B (i : Nat) : List Nat := (List.replicate i bad3).flatten
theorem ratio10 : ratio 1 0 = inf := by decide +kernel
theorem ration10 : ratio (-1) 0 = ninf := by decide +kernel
theorem ratio00 : ratio 0 0 = qnan := by decide +kernel
theorem B_succ (i : Nat) : B i ++ bad3 = B (i + 1) := by
  unfold B
  rw [List.replicate_succ', List.flatten_append]
  simp
theorem B_length (i : Nat) : (B i).length = 3 * i := by
  induction i with
  | zero => rfl
  | succ i ih => rw [← B_succ, List.length_append, ih]; show 3 * i + 3 = _; omega
theorem reals_bad : reals bad3 = [] := by decide +kernel
theorem reals_append (a b : List Nat) : reals (a ++ b) = reals a ++ reals b := List.filter_append ..
theorem reals_B (i : Nat) : reals (B i) = [] := by
  induction i with
  | zero => rfl
  | succ i ih => rw [← B_succ, reals_append, ih, reals_bad]; rfl
theorem wk0 : Wk 0 0 := by unfold Wk; decide +kernel
theorem one_is : (4607182418800017408 : Nat) = floatOfInt .f64 1 := by decide +kernel
theorem rl_wk {v : Nat} {x : Int} (h : Wk v x) (hx : x.natAbs < 4503599627370496) : rl v = true := by
  obtain ⟨h1, h2⟩ := wk_sub h h hx hx
  rw [Int.sub_self] at h2
  unfold rl
  rw [h1, wk_order h2 wk0, cmp_eq rfl]
  rfl
theorem reals_rep {v : Nat} (h : rl v = true) (k : Nat) : reals (List.replicate k v) = List.replicate k v := by
  induction k with
  | zero => rfl
  | succ k ih => rw [List.replicate_succ, reals_cons, if_pos h, ih]
theorem sum_rep {v : Nat} {x : Int} (hv : Wk v x) (h0 : 0 ≤ x) (hx : x < 1099511627776) (k : Nat) : ∀ (s : Nat) (n : Int), Wk s n → 0 ≤ n → n + k * 1099511627776 ≤ 70368744177664 → Wk (sum s (List.replicate k v)) (n + k * x) := by
  induction k with
  | zero => intro s n hs _ _; simpa [sum] using hs
  | succ k ih =>
    intro s n hs hn hb
    obtain ⟨_, h2⟩ := wk_add hs hv (by omega) (by omega)
    have := ih _ _ h2 (by omega) (by omega)
    rw [List.replicate_succ]
    show Wk (sum (fop .add s v) (List.replicate k v)) _
    rw [show n + ((k + 1 : Nat) : Int) * x = n + x + k * x by rw [Int.natCast_add, Int.add_mul]; simp; omega]
    exact this
theorem mean_rep {v : Nat} {x : Int} (hv : Wk v x) (h0 : 0 ≤ x) (hx : x < 1099511627776) (k : Nat) (k1 : 1 ≤ k) (k2 : k ≤ 32) : Wk (meanF (B k ++ List.replicate k v)) x := by
  have hr : reals (B k ++ List.replicate k v) = List.replicate k v := by
    rw [reals_append, reals_B, List.nil_append, reals_rep (rl_wk hv (by omega))]
  unfold meanF
  rw [hr, List.length_replicate, if_neg (by omega)]
  have hs := sum_rep hv h0 hx k 0 0 wk0 (by omega) (by omega)
  rw [Int.zero_add, Int.mul_comm] at hs
  have hb : x * k ≤ 1099511627776 * 32 := Int.mul_le_mul (by omega) (by omega) (by omega) (by omega)
  have hb0 : 0 ≤ x * (k : Int) := Int.mul_nonneg h0 (by omega)
  exact (wk_quo hs (wk_int k (by omega)) (by omega) (by omega) (by omega)).2
theorem ends_rep {v : Nat} {x : Int} (hv : Wk v x) (k : Nat) : ends (List.replicate k v) v v = (v, v) := by
  have h1 : less v v = false := by unfold less; rw [wk_order hv hv, cmp_eq rfl]; rfl
  have h2 : more v v = false := by unfold more; rw [wk_order hv hv, cmp_eq rfl]; rfl
  induction k with
  | zero => rfl
  | succ k ih =>
    rw [List.replicate_succ]
    show ends (List.replicate k v) (if less v v then v else v) (if more v v then v else v) = _
    rw [h1, h2]
    exact ih
theorem spread_rep {v : Nat} {x : Int} (hv : Wk v x) (hx : x.natAbs < 1099511627776) (k : Nat) (k1 : 1 ≤ k) : Wk (spreadF (List.replicate k v ++ B k)) 0 := by
  have hr : reals (List.replicate k v ++ B k) = List.replicate k v := by
    rw [reals_append, reals_B, List.append_nil, reals_rep (rl_wk hv (by omega))]
  have hd : rdOf 0 (List.replicate k v) 0 = v := by
    obtain ⟨m, rfl⟩ : ∃ m, k = m + 1 := ⟨k - 1, by omega⟩
    rfl
  unfold spreadF
  rw [hr, List.length_replicate, if_neg (by omega), hd, ends_rep hv]
  have := (wk_sub hv hv (by omega) (by omega)).2
  rwa [Int.sub_self] at this
theorem spread_none (k : Nat) : spreadF (B k) = qnan := by unfold spreadF; rw [reals_B]; rfl
theorem mean_none (k : Nat) : meanF (B k) = qnan := by unfold meanF; rw [reals_B]; rfl
theorem qnan_ne : (FloatKind.f64.format.order qnan qnan == some .eq) = false := by rw [show FloatKind.f64.format.order qnan qnan = none from order_nan (.inl qnan_key)]; rfl
/-! ### ratios -/
theorem read0 : double.read (floatOfInt .f64 0) = .number false 0 (-1074) := by decide +kernel
theorem ratio_inf {p : Int} (h0 : p ≠ 0) (h1 : p.natAbs < 9007199254740992) : ratio p 0 = if p < 0 then ninf else inf := by
  obtain ⟨s, m, i, ex, _, _, _, _, hu⟩ := key_number (key_ofInt p h1) (int_small h1)
  have hs := units_sign hu h0
  have hm : m ≠ 0 := by
    rintro rfl
    have e := congrArg Int.natAbs hu
    rw [units_abs, abs_U, Nat.zero_mul] at e
    have := p2_pos 1074
    rcases Nat.mul_eq_zero.1 e with e | e <;> omega
  have h : floatBits .quo .f64 (floatOfInt .f64 p) (floatOfInt .f64 0) = some (double.word s double.infRung) := by
    show Format.div double _ _ = _
    unfold Format.div
    rw [ex, read0]
    have e : (Datum.number s m i).quotient (double.fractionBits + 2) (.number false 0 (-1074)) = some (.infinity s) := by simp [Datum.quotient, hm]
    rw [e]
    rfl
  obtain ⟨g1, g2⟩ := fop_of h
  unfold ratio
  rw [if_pos g1, g2, hs]
  by_cases hp : p < 0
  · rw [decide_eq_true hp, if_pos hp]; decide +kernel
  · rw [decide_eq_false hp, if_neg hp]; decide +kernel
theorem ratio_wk {q d : Int} (h0 : d ≠ 0) (hq : (q * d).natAbs < 9007199254740992) (hd : d.natAbs < 9007199254740992) : Wk (ratio (q * d) d) q := by
  obtain ⟨h1, h2⟩ := wk_quo (wk_int (q * d) hq) (wk_int d hd) h0 hq hd
  unfold ratio
  rw [if_pos h1]
  exact h2
/-! ### Bits -/
theorem lg_mono {a b : Int} (h1 : 1 ≤ a) (h : a ≤ b) (h2 : b < 1125899906842624) : lg a ≤ lg b := by
  obtain ⟨L, hL, h50, hp, hq⟩ := len_facts h1 (by omega)
  obtain ⟨M, hM, g50, gp, gq⟩ := len_facts (n := b) (by omega) h2
  obtain ⟨e, x, y⟩ := lg_parts hL h50 hp hq
  obtain ⟨e', x', y'⟩ := lg_parts hM g50 gp gq
  rw [e, e']
  rcases Nat.lt_trichotomy L M with g | g | g
  · omega
  · subst g
    have hP : 0 < 2 ^ L := Nat.two_pow_pos L
    have := Int.ediv_le_ediv (a := 1024 * (a - ((2 ^ L : Nat) : Int))) (b := 1024 * (b - ((2 ^ L : Nat) : Int))) (c := ((2 ^ L : Nat) : Int)) (by omega) (by omega)
    omega
  · exfalso
    have := Nat.pow_le_pow_right (show 0 < 2 by omega) (show M + 1 ≤ L by omega)
    rw [Nat.pow_succ] at this
    omega
theorem bsum_nn (T : Int) (hT : T < 1048576) (l : List Int) : (∀ c ∈ l, 1 ≤ c ∧ c ≤ 1024 ∧ c ≤ T) → ∀ (s : Nat) (n : Int), Wk s n → 0 ≤ n → n + l.length * 67108864 ≤ 4398046511104 → ∃ m, Wk (bsum T s l) m ∧ 0 ≤ m ∧ m ≤ n + l.length * 67108864 := by
  induction l with
  | nil => intro _ s n hs hn hb; exact ⟨n, hs, hn, by simp⟩
  | cons c l ih =>
    intro h s n hs hn hb
    obtain ⟨c1, c2, c3⟩ := h c (List.mem_cons_self ..)
    have a := lg_mono c1 c3 (by omega)
    have b1 := lg_bound c1 (by omega)
    have b2 := lg_bound (n := T) (by omega) (by omega)
    have d0 : 0 ≤ c * (lg T - lg c) := Int.mul_nonneg (by omega) (by omega)
    have d1 : c * (lg T - lg c) ≤ 1024 * 65536 := Int.mul_le_mul c2 (by omega) (by omega) (by omega)
    rw [List.length_cons] at hb
    obtain ⟨_, hm⟩ := wk_mul (wk_int c (by omega)) (wk_int (lg T - lg c) (by omega)) (by omega) (by omega) (by omega)
    obtain ⟨_, ha⟩ := wk_add hs hm (by omega) (by omega)
    obtain ⟨m, h1, h2, h3⟩ := ih (fun y hy => h y (List.mem_cons_of_mem _ hy)) _ _ ha (by omega) (by omega)
    exact ⟨m, h1, h2, by rw [List.length_cons]; omega⟩
theorem quo_nn {x y : Nat} {n d : Int} (hx : Wk x n) (hy : Wk y d) (h0 : 0 ≤ n) (hd0 : 0 < d) (hn : n.natAbs < 9007199254740992) (hd : d.natAbs < 9007199254740992) : ∃ a, key (fop .quo x y) = some a ∧ 0 ≤ a := by
  by_cases hz : n = 0
  · subst hz
    have := (wk_quo (q := 0) (by rw [Int.zero_mul]; exact hx) hy (by omega) (by rw [Int.zero_mul]; decide) hd).2
    exact ⟨_, this, by rw [Int.zero_mul]; exact Int.le_refl _⟩
  · obtain ⟨s, m, i, ex, _, _, _, _, hu⟩ := key_number hx (int_small hn)
    obtain ⟨t, k, j, ey, _, _, _, _, hv⟩ := key_number hy (int_small hd)
    have hs := units_sign hu hz
    have ht := units_sign hv (by omega)
    rw [decide_eq_false (by omega)] at hs ht
    subst hs ht
    have hk : k ≠ 0 := by
      rintro rfl
      have e := congrArg Int.natAbs hv
      rw [units_abs, abs_U, Nat.zero_mul] at e
      have := p2_pos 1074
      rcases Nat.mul_eq_zero.1 e with e | e <;> omega
    obtain ⟨M, P, h⟩ : ∃ M P, floatBits .quo .f64 x y = some (double.nearest false M P) := by
      show ∃ M P, Format.div double x y = some (double.nearest false M P)
      unfold Format.div
      rw [ex, ey]
      show ∃ M P, Option.map double.write (if k = 0 then _ else _) = some (double.nearest false M P)
      rw [if_neg hk]
      exact ⟨_, _, rfl⟩
    obtain ⟨g1, g2⟩ := fop_of h
    rw [g2]
    obtain ⟨q, hq, e⟩ := nearest_is false M P
    rw [e]
    by_cases hlt : q < 9218868437227405312
    · exact ⟨_, word_key false q hlt, by simp⟩
    · rw [show q = 9218868437227405312 by omega]
      exact ⟨_, inf_key false, by have := big_pos; simp; omega⟩
theorem order_nn {x : Nat} {a : Int} (h : key x = some a) (h0 : 0 ≤ a) : (FloatKind.f64.format.order x 0 == some .gt || FloatKind.f64.format.order x 0 == some .eq) = true := by
  have k0 : key 0 = some 0 := by decide +kernel
  rw [show FloatKind.f64.format.order x 0 = some (compare a 0) from order_key h k0]
  by_cases hz : a = 0
  · rw [cmp_eq hz]; rfl
  · rw [cmp_gt (by omega)]; rfl
theorem bits_one {c : Int} (h1 : 1 ≤ c) (h2 : c ≤ 1024) : Wk (bitsF [0, c, 0]) 0 := by
  have hm : mn c 1073741824 = c := by unfold mn; split <;> omega
  have hp : pos [0, c, 0] = [c] := by
    rw [pos_cons, if_neg (by decide), pos_cons, hm, if_pos (by omega), pos_cons, if_neg (by decide)]; rfl
  have ht : tots 0 [c] = c := by show 0 + c = c; omega
  unfold bitsF
  rw [hp, ht, if_neg (by omega)]
  obtain ⟨_, h3⟩ := wk_mul (wk_int c (by omega)) (wk_int 0 (by decide)) (by omega) (by decide) (by rw [Int.mul_zero]; decide)
  obtain ⟨_, h4⟩ := wk_add wk0 h3 (by decide) (by rw [Int.mul_zero]; decide)
  have hS : Wk (bsum c 0 [c]) 0 := by
    show Wk (fop .add 0 (fop .mul (floatOfInt .f64 c) (floatOfInt .f64 (lg c - lg c)))) 0
    rw [Int.sub_self]
    rw [Int.mul_zero, Int.add_zero] at h4
    exact h4
  obtain ⟨_, h5⟩ := mul_1024 (n := c) (by omega) (by omega)
  rw [h5]
  exact (wk_quo (q := 0) (by rw [Int.zero_mul]; exact hS) (wk_int (1024 * c) (by omega)) (by omega) (by rw [Int.zero_mul]; decide) (by omega)).2
theorem bits_eight {c : Int} (h1 : 0 ≤ c) (h2 : c ≤ 1023) : ∃ a, key (bitsF [c, c, c, c, 1, 1, 1, 1]) = some a ∧ 0 ≤ a := by
  have hmem : ∀ x ∈ pos [c, c, c, c, 1, 1, 1, 1], 1 ≤ x ∧ x ≤ 1024 := fun x hx => by
    obtain ⟨g1, g2⟩ := List.mem_filter.1 hx
    obtain ⟨y, hy, rfl⟩ := List.mem_map.1 g1
    have g3 := of_decide_eq_true g2
    refine ⟨by omega, ?_⟩
    simp only [List.mem_cons, List.not_mem_nil, or_false] at hy
    have : y ≤ 1023 := by omega
    unfold mn; split <;> omega
  have hlen := pos_length [c, c, c, c, 1, 1, 1, 1]
  have hlen8 : (pos [c, c, c, c, 1, 1, 1, 1]).length ≤ 8 := hlen
  have hne : (1 : Int) ∈ pos [c, c, c, c, 1, 1, 1, 1] := by
    unfold pos
    rw [List.mem_filter]
    exact ⟨List.mem_map.2 ⟨1, by simp, rfl⟩, rfl⟩
  obtain ⟨t1, t2, t3⟩ := tots_le (pos [c, c, c, c, 1, 1, 1, 1]) (fun x hx => ⟨(hmem x hx).1, by have := hmem x hx; omega⟩) 0
  have hT : ∀ (l : List Int), (∀ x ∈ l, 1 ≤ x ∧ x ≤ 1024) → ∀ t, tots t l ≤ t + l.length * 1024 := by
    intro l
    induction l with
    | nil => intro _ t; simp [tots]
    | cons x l ih =>
      intro h t
      have hx := h x (List.mem_cons_self ..)
      have := ih (fun y hy => h y (List.mem_cons_of_mem _ hy)) (t + x)
      have e : tots t (x :: l) = tots (t + x) l := rfl
      rw [e, List.length_cons]; omega
  have hTb := hT _ hmem 0
  have h11 := t3 1 hne
  have hbs := bsum_nn (tots 0 (pos [c, c, c, c, 1, 1, 1, 1])) (by omega) (pos [c, c, c, c, 1, 1, 1, 1]) (fun x hx => ⟨(hmem x hx).1, (hmem x hx).2, by have := t3 x hx; omega⟩) 0 0 wk0 (by omega) (by omega)
  unfold bitsF
  generalize pos [c, c, c, c, 1, 1, 1, 1] = l at *
  obtain ⟨m, hm, hm0, hm1⟩ := hbs
  obtain ⟨_, h5⟩ := mul_1024 (n := tots 0 l) (by omega) (by omega)
  rw [if_neg (by omega), h5]
  exact quo_nn hm (wk_int (1024 * tots 0 l) (by omega)) hm0 (by omega) (by omega) (by omega)
/-! ### the law -/
theorem j1_true (k : Nat) (a2 a3 : Int) (hk : 1100 < k) : stevedorelaw36_RateEdges.j1 (k + 1) a2 a3 false = some true := by
  obtain ⟨p0, p1⟩ := and_below a2 1099511627775 (by decide)
  obtain ⟨c0, c1⟩ := and_below a3 1023 (by decide)
  have q0 : 0 ≤ Go.bits .and .i64 a2 1099511627775 := p0
  have q1 : Go.bits .and .i64 a2 1099511627775 ≤ 1099511627775 := p1
  have d0 : 0 ≤ Go.bits .and .i64 a3 1023 := c0
  have d1 : Go.bits .and .i64 a3 1023 ≤ 1023 := c1
  rw [stevedorelaw36_RateEdges.j1, if_neg (by decide)]
  generalize Go.bits .and .i64 a2 1099511627775 = P at *
  generalize Go.bits .and .i64 a3 1023 = C at *
  have w1 : wrap64 (1 + P) = P + 1 := by rw [wrap64_id (by omega) (by omega)]; omega
  have w2 : wrap64 (-(P + 1)) = -(P + 1) := wrap64_id (by omega) (by omega)
  have w3 : wrap64 (1 + C) = C + 1 := by rw [wrap64_id (by omega) (by omega)]; omega
  rw [w1, w2, w3]
  have o1 : (FloatKind.f64.format.order (ratio (P + 1) 0) 9094988921128908188 == some .gt) = true := by
    rw [ratio_inf (by omega) (by omega), if_neg (by omega)]; decide +kernel
  have o2 : (FloatKind.f64.format.order (ratio (-(P + 1)) 0) 18318360957983683996 == some .lt) = true := by
    rw [ratio_inf (by omega) (by omega), if_pos (by omega)]; decide +kernel
  have z3 : Wk (ratio 0 (P + 1)) 0 := by
    have := ratio_wk (q := 0) (d := P + 1) (by omega) (by rw [Int.zero_mul]; decide) (by omega)
    rwa [Int.zero_mul] at this
  have z4 : Wk (ratio (P + 1) (P + 1)) 1 := by
    have := ratio_wk (q := 1) (d := P + 1) (by omega) (by rw [Int.one_mul]; omega) (by omega)
    rwa [Int.one_mul] at this
  have o3 : (FloatKind.f64.format.order (ratio 0 (P + 1)) 0 == some .eq) = true := by rw [wk_order z3 wk0, cmp_eq rfl]; rfl
  have o4 : (FloatKind.f64.format.order (ratio (P + 1) (P + 1)) 4607182418800017408 == some .eq) = true := by
    have h1 : Wk 4607182418800017408 1 := by rw [one_is]; exact wk_int 1 (by decide)
    rw [wk_order z4 h1, cmp_eq rfl]; rfl
  have o5 : (FloatKind.f64.format.order (bitsF [0, C + 1, 0]) 0 == some .eq) = true := by rw [wk_order (bits_one (c := C + 1) (by omega) (by omega)) wk0, cmp_eq rfl]; rfl
  obtain ⟨a, ka, na⟩ := bits_eight d0 d1
  have o6 := order_nn ka na
  show Option.bind (some (ratio 0 0)) _ = _
  rw [Option.bind_some, show stevedorelaw36_told.f = some true from rfl, Option.bind_some, if_pos rfl, ratio00, if_pos (by rw [show (FloatKind.f64.format.order qnan qnan != some .eq) = !(FloatKind.f64.format.order qnan qnan == some .eq) from rfl, qnan_ne]; rfl)]
  show Option.bind (some (ratio (P + 1) 0)) _ = _
  rw [Option.bind_some, if_pos o1]
  show Option.bind (some (ratio (-(P + 1)) 0)) _ = _
  rw [Option.bind_some, if_pos o2]
  show Option.bind (some (ratio 0 (P + 1))) _ = _
  rw [Option.bind_some, if_pos o3]
  show Option.bind (some (ratio (P + 1) (P + 1))) _ = _
  rw [Option.bind_some, if_pos o4, bits_f _ (by simp) _ (by simp; omega), Option.bind_some, if_pos o5, bits_f _ (by simp) _ (by simp; omega), Option.bind_some, o6]
theorem l0_true (a2 a3 : Int) (v : Nat) (x : Int) (hv : Wk v x) (h0 : 0 ≤ x) (hx : x < 1099511627776) (K : Nat) (k1 : 1 ≤ K) (k2 : K ≤ 32) (d : Nat) : ∀ (k i : Nat), i + d = K → d + 2000 < k →
    stevedorelaw36_RateEdges.l0 k a2 a3 v (K : Int) (List.replicate i v) (B i) i = some true := by
  induction d with
  | zero =>
    intro k i hi hk
    obtain ⟨k, rfl⟩ : ∃ m, k = m + 2 := ⟨k - 2, by omega⟩
    obtain rfl : i = K := by omega
    have hB := B_length i
    have hm := mean_rep hv h0 hx i k1 k2
    have hs := spread_rep hv (by omega) i k1
    have o1 : (FloatKind.f64.format.order (meanF (B i ++ List.replicate i v)) v != some .eq) = false := by rw [wk_order hm hv, cmp_eq rfl]; rfl
    have o2 : (FloatKind.f64.format.order (spreadF (List.replicate i v ++ B i)) 0 != some .eq) = false := by rw [wk_order hs wk0, cmp_eq rfl]; rfl
    rw [stevedorelaw36_RateEdges.l0, if_neg (by omega), mean_f _ (by omega) _ (by omega), Option.bind_some, spread_f _ (by omega) _ (by omega), Option.bind_some, mean_none, spread_none, qnan_ne, if_neg (by decide), if_neg (by decide),
      if_pos (by rw [hB, List.length_replicate]; omega), mean_f _ (by rw [List.length_append, hB, List.length_replicate]; omega) _ (by rw [List.length_append, hB, List.length_replicate]; omega), Option.bind_some, o1, if_neg (by decide),
      if_pos (by rw [hB, List.length_replicate]; omega), spread_f _ (by rw [List.length_append, hB, List.length_replicate]; omega) _ (by rw [List.length_append, hB, List.length_replicate]; omega), Option.bind_some, o2]
    exact j1_true k a2 a3 (by omega)
  | succ d ih =>
    intro k i hi hk
    obtain ⟨k, rfl⟩ : ∃ m, k = m + 1 := ⟨k - 1, by omega⟩
    have hB := B_length i
    rw [stevedorelaw36_RateEdges.l0, if_pos (by omega), if_pos (by rw [List.length_replicate]; omega)]
    show Option.bind (some qnan) _ = _
    rw [Option.bind_some]
    show Option.bind (some (ratio 1 0)) _ = _
    rw [Option.bind_some]
    show Option.bind (some (ratio (-1) 0)) _ = _
    rw [Option.bind_some, Option.bind_some, ratio10, ration10, if_pos (by rw [hB]; show 3 * i + 3 < _; omega)]
    have e := ih k (i + 1) (by omega) (by omega)
    rw [← B_succ, List.replicate_succ'] at e
    rw [show wrap64 ((i : Int) + 1) = ((i + 1 : Nat) : Int) by unfold wrap64; omega]
    exact e
theorem RateEdges (a0 a1 a2 a3 : Int) : ∃ k, stevedorelaw36_RateEdges.f k a0 a1 a2 a3 = some true := by
  refine ⟨3000, ?_⟩
  obtain ⟨p0, p1⟩ := and_below a0 1099511627775 (by decide)
  obtain ⟨c0, c1⟩ := and_below a1 31 (by decide)
  have q0 : 0 ≤ Go.bits .and .i64 a0 1099511627775 := p0
  have q1 : Go.bits .and .i64 a0 1099511627775 ≤ 1099511627775 := p1
  have d0 : 0 ≤ Go.bits .and .i64 a1 31 := c0
  have d1 : Go.bits .and .i64 a1 31 ≤ 31 := c1
  unfold stevedorelaw36_RateEdges.f
  generalize Go.bits .and .i64 a0 1099511627775 = X at *
  generalize Go.bits .and .i64 a1 31 = K at *
  obtain ⟨n, hn⟩ : ∃ n : Nat, wrap64 (1 + K) = (n : Int) ∧ 1 ≤ n ∧ n ≤ 32 := ⟨(1 + K).toNat, by rw [wrap64_id (by omega) (by omega)]; omega, by omega, by omega⟩
  rw [hn.1]
  exact l0_true a2 a3 _ X (wk_int X (by omega)) q0 (by omega) n hn.2.1 hn.2.2 n 3000 0 (by omega) (by omega)
end Go.Proofs.YtfmfikodnpnblaaDoor.PureRateEdges
