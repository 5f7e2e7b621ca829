/- Mean, Spread, Bits: the program's and the document's, each as one plain function, the same one. No program here. -/
import Derived.Test.YtfmfikodnpnblaaDoorPRate1x
import Derived.Test.YtfmfikodnpnblaaDoorRateNan
import Derived.Test.YtfmfikodnpnblaaDoorFltOk
import Derived.Lib.ItoaNum
set_option linter.unusedVariables false
set_option linter.unusedSimpArgs false
namespace Go.Proofs.YtfmfikodnpnblaaDoor.RateEq
open Go.RowKit Go.Proofs.YtfmfikodnpnblaaDoorW.PrintWords Go.Proofs.YtfmfikodnpnblaaDoorW.PrintLast Go.Proofs.YtfmfikodnpnblaaDoorW.PrintMore Go.Proofs.YtfmfikodnpnblaaDoor.Base Go.Proofs.YtfmfikodnpnblaaDoor.Flt Go.Proofs.YtfmfikodnpnblaaDoor.FltOk Go.Proofs.YtfmfikodnpnblaaDoor.RateNan Go.Proofs.YtfmfikodnpnblaaDoor.RateLib
open PRate1 (rate_plain.l0 rate_plain.f rate_Mean.l0 rate_Mean.f rate_Spread.l0 rate_Spread.f rate_Bits.l0 rate_Bits.l1 rate_Bits.f rate_log.f)

/-! ### the numbers that are real -/
def rl (x : Nat) : Bool := fvalid .sub x x && (FloatKind.f64.format.order (fop .sub x x) 0 == some .eq)
def reals (l : List Nat) : List Nat := l.filter rl
theorem reals_fin {l : List Nat} {x : Nat} (h : x ∈ reals l) : Real_ x := by
  have := (List.mem_filter.1 h).2
  unfold rl at this
  rw [Bool.and_eq_true] at this
  exact sub_self this.1
theorem reals_length (l : List Nat) : (reals l).length ≤ l.length := List.length_filter_le _ _
theorem rdOf_at {l : List Nat} {i : Nat} (h : i < l.length) : rdOf 0 l (i : Int) = l[i] := by
  unfold rdOf; rw [Int.toNat_natCast, List.getD_eq_getElem?_getD, List.getElem?_eq_getElem h]; rfl
theorem drop_at {l : List Nat} {i : Nat} (h : i < l.length) : l.drop i = l[i] :: l.drop (i + 1) := List.drop_eq_getElem_cons h
theorem wrap_1 {i n : Nat} (h : i < n) (hn : n ≤ 1000000) : wrap64 ((i : Int) + 1) = ((i + 1 : Nat) : Int) := by unfold wrap64; omega
theorem reals_cons {x : Nat} {l : List Nat} : reals (x :: l) = if rl x then x :: reals l else reals l := by unfold reals; rw [List.filter_cons]
theorem plain_l0 (l : List Nat) (hl : l.length ≤ 1000000) (d : Nat) : ∀ (k i : Nat) (acc : List Nat), i + d = l.length → d < k → acc.length ≤ i → rate_plain.l0 k acc l (l.length : Int) i = some (acc ++ reals (l.drop i)) := by
  induction d with
  | zero =>
    intro k i acc hi hk ha
    obtain ⟨k, rfl⟩ : ∃ m, k = m + 1 := ⟨k - 1, by omega⟩
    rw [rate_plain.l0, if_neg (by omega), List.drop_of_length_le (by omega)]
    simp [reals]
  | succ d ih =>
    intro k i acc hi hk ha
    obtain ⟨k, rfl⟩ : ∃ m, k = m + 1 := ⟨k - 1, by omega⟩
    have hlt : i < l.length := by omega
    rw [rate_plain.l0, if_pos (by omega), if_pos (by omega), if_pos (by omega), rdOf_at hlt, drop_at hlt, reals_cons, wrap_1 hlt hl]
    unfold rl
    cases h1 : fvalid .sub l[i] l[i] with
    | false => rw [if_neg (by decide), ih k (i + 1) acc (by omega) (by omega) (by omega)]; rfl
    | true =>
      rw [if_pos rfl]
      cases h2 : (FloatKind.f64.format.order (fop .sub l[i] l[i]) 0 == some .eq) with
      | false => rw [if_neg (by decide), ih k (i + 1) acc (by omega) (by omega) (by omega)]; rfl
      | true => rw [if_pos rfl, if_pos (by omega), ih k (i + 1) _ (by omega) (by omega) (by rw [List.length_append]; show acc.length + 1 ≤ i + 1; omega), List.append_assoc]; rfl
theorem plain_f (l : List Nat) (hl : l.length ≤ 1000000) (k : Nat) (hk : l.length < k) : rate_plain.f k l = some (reals l) := by
  have := plain_l0 l hl l.length k 0 [] (by omega) hk (by simp)
  rw [List.drop_zero, List.nil_append] at this
  exact this
/-! ### Mean -/
def sum (s : Nat) (l : List Nat) : Nat := l.foldl (fun s x => fop .add s x) s
theorem sum_ok (l : List Nat) : ∀ s, Ok_ s → (∀ x ∈ l, Real_ x) → Ok_ (sum s l) := by
  induction l with
  | nil => intro s hs _; exact hs
  | cons x l ih => intro s hs h; exact ih _ (add_ok hs (h x (List.mem_cons_self ..))).2 fun y hy => h y (List.mem_cons_of_mem _ hy)
def meanF (l : List Nat) : Nat := if (reals l).length = 0 then qnan else fop .quo (sum 0 (reals l)) (floatOfInt .f64 ((reals l).length : Int))
theorem mean_l0 (m : List Nat) (hm : m.length ≤ 1000000) (h0 : m.length ≠ 0) (hf : ∀ x ∈ m, Real_ x) (d : Nat) : ∀ (k i s : Nat), i + d = m.length → d < k → Ok_ s →
    rate_Mean.l0 k m s m (m.length : Int) i = some (fop .quo (sum s (m.drop i)) (floatOfInt .f64 (m.length : Int))) := by
  induction d with
  | zero =>
    intro k i s hi hk hs
    obtain ⟨k, rfl⟩ : ∃ m, k = m + 1 := ⟨k - 1, by omega⟩
    rw [rate_Mean.l0, if_neg (by omega), List.drop_of_length_le (by omega), if_pos (quo_ok hs (by omega) (by omega))]
    rfl
  | succ d ih =>
    intro k i s hi hk hs
    obtain ⟨k, rfl⟩ : ∃ m, k = m + 1 := ⟨k - 1, by omega⟩
    have hlt : i < m.length := by omega
    have ha := add_ok hs (hf m[i] (List.getElem_mem hlt))
    rw [rate_Mean.l0, if_pos (by omega), if_pos (by omega), if_pos (by omega), rdOf_at hlt, if_pos ha.1, wrap_1 hlt hm, ih k (i + 1) _ (by omega) (by omega) ha.2, drop_at hlt]
    rfl
theorem mean_f (l : List Nat) (hl : l.length ≤ 1000000) (k : Nat) (hk : l.length < k) : rate_Mean.f k l = some (meanF l) := by
  have hr := reals_length l
  unfold rate_Mean.f meanF
  rw [plain_f l hl k hk, Option.bind_some]
  by_cases h0 : (reals l).length = 0
  · rw [if_pos (by omega), if_pos h0]; rfl
  · rw [if_neg (by omega), if_neg h0]
    have := mean_l0 (reals l) (by omega) h0 (fun _ => reals_fin) (reals l).length k 0 0 (by omega) (by omega) zero_ok
    rw [List.drop_zero] at this
    exact this
/-! ### Spread -/
def less (x y : Nat) : Bool := FloatKind.f64.format.order x y == some .lt
def more (x y : Nat) : Bool := FloatKind.f64.format.order x y == some .gt
def ends (l : List Nat) (lo hi : Nat) : Nat × Nat := l.foldl (fun p x => (if less x p.1 then x else p.1, if more x p.2 then x else p.2)) (lo, hi)
theorem ends_fin (l : List Nat) : ∀ lo hi, Real_ lo → Real_ hi → (∀ x ∈ l, Real_ x) → Real_ (ends l lo hi).1 ∧ Real_ (ends l lo hi).2 := by
  induction l with
  | nil => intro lo hi a b _; exact ⟨a, b⟩
  | cons x l ih =>
    intro lo hi a b h
    have hx := h x (List.mem_cons_self ..)
    exact ih _ _ (by split <;> assumption) (by split <;> assumption) fun y hy => h y (List.mem_cons_of_mem _ hy)
def spreadF (l : List Nat) : Nat := if (reals l).length = 0 then qnan else fop .sub (ends (reals l) (rdOf 0 (reals l) 0) (rdOf 0 (reals l) 0)).2 (ends (reals l) (rdOf 0 (reals l) 0) (rdOf 0 (reals l) 0)).1
theorem spread_l0 (m : List Nat) (hm : m.length ≤ 1000000) (hf : ∀ x ∈ m, Real_ x) (d : Nat) : ∀ (k i lo hi : Nat), i + d = m.length → d < k → Real_ lo → Real_ hi →
    rate_Spread.l0 k lo hi m (m.length : Int) i = some (fop .sub (ends (m.drop i) lo hi).2 (ends (m.drop i) lo hi).1) := by
  induction d with
  | zero =>
    intro k i lo hi hi' hk hlo hhi
    obtain ⟨k, rfl⟩ : ∃ m, k = m + 1 := ⟨k - 1, by omega⟩
    rw [rate_Spread.l0, if_neg (by omega), List.drop_of_length_le (by omega), if_pos (sub_fin hhi hlo)]
    rfl
  | succ d ih =>
    intro k i lo hi hi' hk hlo hhi
    obtain ⟨k, rfl⟩ : ∃ m, k = m + 1 := ⟨k - 1, by omega⟩
    have hlt : i < m.length := by omega
    have hx := hf m[i] (List.getElem_mem hlt)
    rw [rate_Spread.l0, if_pos (by omega), if_pos (by omega), if_pos (by omega), rdOf_at hlt, wrap_1 hlt hm, drop_at hlt]
    show (if less m[i] lo = true then (if more m[i] hi = true then _ else _) else (if more m[i] hi = true then _ else _)) = some (fop .sub (ends (m.drop (i + 1)) (if less m[i] lo then m[i] else lo) (if more m[i] hi then m[i] else hi)).2 (ends (m.drop (i + 1)) (if less m[i] lo then m[i] else lo) (if more m[i] hi then m[i] else hi)).1)
    cases less m[i] lo <;> cases more m[i] hi <;> simp only [if_true, if_false, Bool.false_eq_true] <;> exact ih k (i + 1) _ _ (by omega) (by omega) (by assumption) (by assumption)
theorem first_fin {l : List Nat} (h0 : (reals l).length ≠ 0) : Real_ (rdOf 0 (reals l) 0) := by
  have : rdOf 0 (reals l) ((0 : Nat) : Int) = (reals l)[0]'(by omega) := rdOf_at (by omega)
  rw [show (0 : Int) = ((0 : Nat) : Int) from rfl, this]
  exact reals_fin (List.getElem_mem _)
theorem spread_f (l : List Nat) (hl : l.length ≤ 1000000) (k : Nat) (hk : l.length < k) : rate_Spread.f k l = some (spreadF l) := by
  have hr := reals_length l
  unfold rate_Spread.f spreadF
  rw [plain_f l hl k hk, Option.bind_some]
  by_cases h0 : (reals l).length = 0
  · rw [if_pos (by omega), if_pos h0]; rfl
  · rw [if_neg (by omega), if_neg h0, if_pos (by omega)]
    have := spread_l0 (reals l) (by omega) (fun _ => reals_fin) (reals l).length k 0 _ _ (by omega) (by omega) (first_fin h0) (first_fin h0)
    rw [List.drop_zero] at this
    exact this
/-! ### Log -/
def lg (n : Int) : Int := 1024 * ((Lib.bitLen n.toNat - 1 : Nat) : Int) + 1024 * (n - ((2 ^ (Lib.bitLen n.toNat - 1) : Nat) : Int)) / ((2 ^ (Lib.bitLen n.toNat - 1) : Nat) : Int)
theorem len_facts {n : Int} (h1 : 1 ≤ n) (h2 : n < 1125899906842624) : ∃ L : Nat, Lib.bitLen n.toNat = L + 1 ∧ L < 50 ∧ ((2 ^ L : Nat) : Int) ≤ n ∧ n < 2 * ((2 ^ L : Nat) : Int) := by
  obtain ⟨a, b, c⟩ := Lib.bitLenAux_bounds 64 n.toNat (by omega) (by omega)
  obtain ⟨L, hL⟩ : ∃ L, Lib.bitLen n.toNat = L + 1 := ⟨Lib.bitLenAux 64 n.toNat - 1, by unfold Lib.bitLen; omega⟩
  have hL' : Lib.bitLenAux 64 n.toNat = L + 1 := hL
  rw [hL'] at b c
  rw [Nat.add_sub_cancel] at b
  rw [Nat.pow_succ] at c
  refine ⟨L, hL, ?_, by omega, by omega⟩
  rcases Nat.lt_or_ge L 50 with h | h
  · exact h
  · have := Nat.pow_le_pow_right (show 0 < 2 by omega) h
    omega
theorem u64_id {n : Int} (h0 : 0 ≤ n) (h1 : n < 18446744073709551616) : IntKind.u64.wrap n = n := wu64 h0 h1
theorem shl_1 {L : Nat} (h : L ≤ 62) : shl .i64 1 (L : Int) = ((2 ^ L : Nat) : Int) := by
  have hp : (2 : Nat) ^ L ≤ 2 ^ 62 := Nat.pow_le_pow_right (by decide) h
  unfold shl
  rw [Int.toNat_natCast, Nat.min_eq_left (show L ≤ IntKind.i64.bits by show L ≤ 64; omega), Int.one_mul, show (2 : Int) ^ L = ((2 ^ L : Nat) : Int) by rw [Int.natCast_pow]; rfl]
  generalize (2 : Nat) ^ L = p at hp ⊢
  have e : IntKind.i64.wrap (p : Int) = wrap64 (p : Int) := i64_w _
  rw [e]
  exact wrap64_id (by omega) (by omega)
theorem shr_is {x : Int} {L : Nat} (h : L ≤ 62) : shr .i64 x (L : Int) = x / ((2 ^ L : Nat) : Int) := by
  unfold shr
  rw [Int.toNat_natCast, Nat.min_eq_left (show L ≤ IntKind.i64.bits by show L ≤ 64; omega), show (2 : Int) ^ L = ((2 ^ L : Nat) : Int) by rw [Int.natCast_pow]; rfl]
theorem lg_parts {n : Int} {L : Nat} (hL : Lib.bitLen n.toNat = L + 1) (h50 : L < 50) (hp : ((2 ^ L : Nat) : Int) ≤ n) (hq : n < 2 * ((2 ^ L : Nat) : Int)) :
    lg n = 1024 * (L : Int) + 1024 * (n - ((2 ^ L : Nat) : Int)) / ((2 ^ L : Nat) : Int) ∧ 0 ≤ 1024 * (n - ((2 ^ L : Nat) : Int)) / ((2 ^ L : Nat) : Int) ∧ 1024 * (n - ((2 ^ L : Nat) : Int)) / ((2 ^ L : Nat) : Int) < 1024 := by
  refine ⟨by unfold lg; rw [hL]; rfl, Int.ediv_nonneg (by omega) (by omega), ?_⟩
  exact Int.ediv_lt_of_lt_mul (by omega) (by omega)
theorem lg_bound {n : Int} (h1 : 1 ≤ n) (h2 : n < 1125899906842624) : 0 ≤ lg n ∧ lg n ≤ 65536 := by
  obtain ⟨L, hL, h50, hp, hq⟩ := len_facts h1 h2
  obtain ⟨e, a, b⟩ := lg_parts hL h50 hp hq
  rw [e]
  omega
theorem log_f {n : Int} (h1 : 1 ≤ n) (h2 : n < 1125899906842624) : rate_log.f n = some (lg n) := by
  obtain ⟨L, hL, h50, hp, hq⟩ := len_facts h1 h2
  obtain ⟨e, a, b⟩ := lg_parts hL h50 hp hq
  have hP : ((2 ^ L : Nat) : Int) ≤ 562949953421312 := by
    have := Nat.pow_le_pow_right (show 0 < 2 by omega) (show L ≤ 49 by omega)
    omega
  unfold rate_log.f bits_Len.f
  rw [u64_id (by omega) (by omega), if_pos ⟨by omega, by omega⟩, Option.bind_some, hL, show wrap64 (((L + 1 : Nat) : Int) - 1) = (L : Int) by unfold wrap64; omega, u64_id (by omega) (by omega), if_pos (by omega), shl_1 (by omega),
    wrap64_id (n := n - ((2 ^ L : Nat) : Int)) (by omega) (by omega), wrap64_id (n := 1024 * (n - ((2 ^ L : Nat) : Int))) (by omega) (by omega), shr_is (by omega), wrap64_id (n := 1024 * (L : Int)) (by omega) (by omega), wrap64_id (by omega) (by omega), e]
/-! ### Bits -/
def pos (l : List Int) : List Int := (l.map fun c => mn c 1073741824).filter fun c => decide (c > 0)
def tot (l : List Int) : Int := (pos l).foldl (fun t c => t + c) 0
theorem rd_at {l : List Int} {i : Nat} (h : i < l.length) : rd l (i : Int) = l[i] := by
  unfold rd; rw [Int.toNat_natCast, List.getD_eq_getElem?_getD, List.getElem?_eq_getElem h]; rfl
theorem drop_ati {l : List Int} {i : Nat} (h : i < l.length) : l.drop i = l[i] :: l.drop (i + 1) := List.drop_eq_getElem_cons h
theorem pos_cons {x : Int} {l : List Int} : pos (x :: l) = if mn x 1073741824 > 0 then mn x 1073741824 :: pos l else pos l := by
  unfold pos; rw [List.map_cons, List.filter_cons]; simp
theorem pos_mem {l : List Int} {c : Int} (h : c ∈ pos l) : 1 ≤ c ∧ c ≤ 1073741824 := by
  obtain ⟨h1, h2⟩ := List.mem_filter.1 h
  obtain ⟨x, _, rfl⟩ := List.mem_map.1 h1
  have := of_decide_eq_true h2
  refine ⟨by omega, ?_⟩
  unfold mn; split <;> omega
theorem pos_length (l : List Int) : (pos l).length ≤ l.length := by
  unfold pos; exact Nat.le_trans (List.length_filter_le _ _) (by rw [List.length_map]; exact Nat.le_refl _)
def tots (t : Int) (l : List Int) : Int := l.foldl (fun t c => t + c) t
def bsum (T : Int) (s : Nat) (l : List Int) : Nat := l.foldl (fun s c => fop .add s (fop .mul (floatOfInt .f64 c) (floatOfInt .f64 (lg T - lg c)))) s
def bitsF (l : List Int) : Nat := if tots 0 (pos l) = 0 then qnan else fop .quo (bsum (tots 0 (pos l)) 0 (pos l)) (fop .mul 4652218415073722368 (floatOfInt .f64 (tots 0 (pos l))))
theorem tots_le (l : List Int) (h : ∀ c ∈ l, 1 ≤ c ∧ c ≤ 1073741824) : ∀ t, t + l.length ≤ tots t l ∧ tots t l ≤ t + l.length * 1073741824 ∧ ∀ c ∈ l, t + c ≤ tots t l := by
  induction l with
  | nil => intro t; simp [tots]
  | cons x l ih =>
    intro t
    have hx := h x (List.mem_cons_self ..)
    obtain ⟨a, b, c⟩ := ih (fun y hy => h y (List.mem_cons_of_mem _ hy)) (t + x)
    have e : tots t (x :: l) = tots (t + x) l := rfl
    rw [e, List.length_cons]
    refine ⟨by omega, by omega, fun y hy => ?_⟩
    rcases List.mem_cons.1 hy with rfl | hy
    · omega
    · have := c y hy; omega
theorem term_ok {T c : Int} (h1 : 1 ≤ c) (h2 : c ≤ 1073741824) (h3 : 1 ≤ T) (h4 : T < 1125899906842624) : fvalid .mul (floatOfInt .f64 c) (floatOfInt .f64 (lg T - lg c)) = true ∧ Real_ (fop .mul (floatOfInt .f64 c) (floatOfInt .f64 (lg T - lg c))) := by
  have a := lg_bound h3 h4
  have b := lg_bound h1 (by omega)
  refine mul_fin (by omega) (by omega) ?_
  rw [Int.natAbs_mul]
  have : c.natAbs * (lg T - lg c).natAbs ≤ 1073741824 * 65536 := Nat.mul_le_mul (by omega) (by omega)
  omega
theorem bits_l1 (m : List Int) (T : Int) (hm : m.length ≤ 1000000) (hp : ∀ c ∈ m, 1 ≤ c ∧ c ≤ 1073741824) (h3 : 1 ≤ T) (h4 : T < 1125899906842624) (h5 : T < 4398046511104) (d : Nat) : ∀ (k i s : Nat), i + d = m.length → d < k → Ok_ s →
    rate_Bits.l1 k T s m (m.length : Int) i = some (fop .quo (bsum T s (m.drop i)) (fop .mul 4652218415073722368 (floatOfInt .f64 T))) := by
  obtain ⟨v1, v2⟩ := mul_1024 (n := T) (by omega) (by omega)
  induction d with
  | zero =>
    intro k i s hi hk hs
    obtain ⟨k, rfl⟩ : ∃ m, k = m + 1 := ⟨k - 1, by omega⟩
    rw [rate_Bits.l1, if_neg (by omega), if_pos v1, List.drop_of_length_le (by omega), if_pos (by rw [v2]; exact quo_ok hs (by omega) (by omega))]
    rfl
  | succ d ih =>
    intro k i s hi hk hs
    obtain ⟨k, rfl⟩ : ∃ m, k = m + 1 := ⟨k - 1, by omega⟩
    have hlt : i < m.length := by omega
    have hc := hp m[i] (List.getElem_mem hlt)
    have ht := term_ok hc.1 hc.2 h3 h4
    have ha := add_ok hs ht.2
    have b1 := lg_bound h3 h4
    have b2 := lg_bound hc.1 (by omega)
    rw [rate_Bits.l1, if_pos (by omega), if_pos (by omega), if_pos (by omega), log_f h3 h4, Option.bind_some, rd_at hlt, log_f hc.1 (by omega), Option.bind_some, wrap64_id (n := lg T - lg m[i]) (by omega) (by omega), if_pos ht.1, if_pos ha.1, wrap_1 hlt hm, ih k (i + 1) _ (by omega) (by omega) ha.2, drop_ati hlt]
    rfl
theorem tots_zero {l : List Int} (h : ∀ c ∈ l, 1 ≤ c ∧ c ≤ 1073741824) : tots 0 l = 0 ↔ l = [] := by
  have := (tots_le l h 0).1
  cases l with
  | nil => simp [tots]
  | cons x l => simp only [List.length_cons] at this; constructor <;> intro h <;> first | (exfalso; omega) | cases h
theorem bits_l0 (l : List Int) (hl : l.length ≤ 1000) (d : Nat) : ∀ (k i : Nat) (acc : List Int), i + d = l.length → d + 1002 < k → acc.length ≤ i → (∀ c ∈ acc, 1 ≤ c ∧ c ≤ 1073741824) → acc ++ pos (l.drop i) = pos l →
    rate_Bits.l0 k acc (tots 0 acc) l (l.length : Int) i = some (bitsF l) := by
  induction d with
  | zero =>
    intro k i acc hi hk ha hp he
    obtain ⟨k, rfl⟩ : ∃ m, k = m + 1 := ⟨k - 1, by omega⟩
    rw [List.drop_of_length_le (by omega), show pos [] = [] from rfl, List.append_nil] at he
    subst he
    rw [rate_Bits.l0, if_neg (by omega)]
    unfold bitsF
    have hb := tots_le (pos l) hp 0
    by_cases h0 : tots 0 (pos l) = 0
    · rw [if_pos h0, if_pos h0]; rfl
    · rw [if_neg h0, if_neg h0]
      have := bits_l1 (pos l) (tots 0 (pos l)) (by omega) hp (by omega) (by omega) (by omega) (pos l).length k 0 0 (by omega) (by omega) zero_ok
      rw [List.drop_zero] at this
      exact this
  | succ d ih =>
    intro k i acc hi hk ha hp he
    obtain ⟨k, rfl⟩ : ∃ m, k = m + 1 := ⟨k - 1, by omega⟩
    have hlt : i < l.length := by omega
    have hb := tots_le acc hp 0
    rw [drop_ati hlt, pos_cons] at he
    rw [rate_Bits.l0, if_pos (by omega), if_pos (by omega), if_pos (by omega), rd_at hlt, wrap_1 hlt (by omega : l.length ≤ 1000000)]
    by_cases h : mn l[i] 1073741824 > 0
    · rw [if_pos h] at he
      have hc : mn l[i] 1073741824 ≤ 1073741824 := by unfold mn; split <;> omega
      rw [if_pos h, if_pos (by omega), wrap64_id (by omega) (by omega)]
      have e : tots 0 acc + mn l[i] 1073741824 = tots 0 (acc ++ [mn l[i] 1073741824]) := by unfold tots; rw [List.foldl_append]; rfl
      rw [e]
      refine ih k (i + 1) _ (by omega) (by omega) (by rw [List.length_append]; show acc.length + 1 ≤ i + 1; omega) (fun c hc' => ?_) (by rw [List.append_assoc]; exact he)
      rcases List.mem_append.1 hc' with h' | h'
      · exact hp c h'
      · rw [List.mem_singleton.1 h']; omega
    · rw [if_neg h] at he
      rw [if_neg h]
      exact ih k (i + 1) acc (by omega) (by omega) (by omega) hp he
theorem bits_f (l : List Int) (hl : l.length ≤ 1000) (k : Nat) (hk : l.length + 1002 < k) : rate_Bits.f k l = some (bitsF l) := by
  unfold rate_Bits.f
  have hm : mn (l.length : Int) 1000 = (l.length : Int) := by unfold mn; split <;> omega
  rw [hm, if_pos (by omega), if_pos (by omega), Int.toNat_natCast, List.take_length]
  exact bits_l0 l hl l.length k 0 [] (by omega) hk (by simp) (by simp) (by simp)
end Go.Proofs.YtfmfikodnpnblaaDoor.RateEq
